/- Texts of the proof, part 6: Hg7, Tq3, Ap3, Ap4, KeyW, HdH, BkA, St1, St2, To1, To2, Eng32, Ex1, Al2, SlV, SameT, Rc1, Al3, Ch2. -/
import Derived.Test.YtbafmbpmiiplkaaGreatDoorTP5
namespace Go.Proofs.YtbafmbpmiiplkaaGreatDoor
open Go.RowKit

section
variable (a:Option Addr) (c:Nat) (cs:List Ch) (ha:Option Addr) (hc:Nat) (hs:List Hp) (sa:Option Addr) (sc:Nat) (ss:List Shr) (xa:Option Addr) (xc:Nat) (xs:List Sht) (wd side:Int) (w:World)
 [hrow:RowI w (.slice a cs.length c) true 2 (cs.map encCh)] [hT:TextI w cs] [hhs:RowI w (.slice ha hs.length hc) true 3 (hs.map encHp)] [hss:RowI w (.slice sa ss.length sc) true 4 (ss.map encShr)] [hxs:RowI w (.slice xa xs.length xc) true 2 (xs.map encSht)] [hxi:ShtI w xs] [hgs:At w 1 0 sidesC]
set_option maxHeartbeats 16000000 in
theorem DoubtX_hand (hsm:SmallT cs) (ht:textB (txF cs)=true) (hsd:0≤side∧side≤255) (hcut:cutB wd side=true) (hp:RoundOk (lnK cs cs.length).length hs ss xs) :
  Ct Tryz.prog 10 [.agg #[.slice a cs.length c,.slice ha hs.length hc,.slice sa ss.length sc,.slice xa xs.length xc],encCut wd side] w fun v w'=>∃ (al:List Int) (D:Nat→Bool) (va:Option Addr) (vc:Nat),
   v=.tuple #[.slice va (doubtL (txF cs) side wd D (lnK cs cs.length).length).length vc,.int .i64 0]∧RowV w' true 6 (.slice va (doubtL (txF cs) side wd D (lnK cs cs.length).length).length vc) ((doubtL (txF cs) side wd D (lnK cs cs.length).length).map encSl)∧(∀ n,D n=leftI (lnK cs cs.length).length (goodB xs al) ss ss.length (n:Int))∧(NoCmp ss xs→al=[]):=by
 have hfew:=hp.few
 have hx1:=hp.x1
 have hs8:=hp.s1
 have hask:askE (txF cs) wd side=0:=askE_yes ht hcut
 have hlk:=lnK_len (cs:=cs) (Nat.le_refl _)
 obtain ⟨N,hN⟩:∃ N,(lnK cs cs.length).length=N:=⟨_,rfl⟩
 refine Ct.ofW (by simp) ?_
 (refine jjB (jjC ?_))
 (refine jy rfl ?_;intro b2 w_b2 hb_b2 hs_b2 hS_b2 hk_b2;have hA_b2:=At.ofBlock hk_b2)
 skip
 (refine jy rfl ?_;intro b3 w_b3 hb_b3 hs_b3 hS_b3 hk_b3;have hA_b3:=At.ofBlock hk_b3)
 have A2:At w_b3 b2 0 [.slice a cs.length c,.slice ha hs.length hc,.slice sa ss.length sc,.slice xa xs.length xc]:=(At.ofBlock hk_b2).ext hS_b3.ext
 have A3:At w_b3 b3 0 [.int .i64 wd,.int .u8 side]:=At.ofBlock hk_b3
 (refine jJ (eS rfl) (jJ (eI rfl) (jz (jjB (jjC (jO rfl rfl rfl rfl ?_))))))
 refine jjQ (open_hand a c cs ha hc hs sa sc ss xa xc xs _ hsm ht hp) rfl rfl ?_
 rintro _ w4 hS4 ⟨bd,rfl,hD⟩
 obtain ⟨la,lc,pa,pc,D1,D2,D3⟩:=hD.h
 (refine jI (eU rfl) (ju rfl rfl (ju rfl rfl ?_)))
 (apply jjR rfl;(intro _;first|exact eI rfl|exact eB rfl|exact eP rfl|exact eS rfl|exact eT rfl|exact eA rfl|exact eU rfl|exact eF rfl|exact eM rfl|exact eN rfl|exact rfl);exact rfl;exact rfl;exact rfl;exact rfl;intro b6 w_b6 hb_b6 hs_b6 hS_b6 hk_b6;have hA_b6:=Bk.of hk_b6)
 (refine jJ (eI rfl) (jz (jjB (jjB (jjC (jI (eI rfl) ?_)))));refine jjk rfl rfl (by omega) (jz (jjK rfl (jjG (jjB (jjB ?_)))));refine jjC (jO rfl rfl rfl rfl ?_))
 refine jjQ ((Check_slip wd side hsd _).mono fun v _ _ h=>h.trans (by rw [hcut])) rfl rfl ?_
 rintro _ w5 hS5 rfl
 have i5:RowI w5 (.slice la (lnK cs cs.length).length lc) false 1 ((lnK cs cs.length).map encLn):=⟨D2.ext (hS_b6.ext.trans hS5.ext)⟩
 have d5:At w5 bd 0 _:=D1.ext (hS_b6.ext.trans hS5.ext)
 (refine jJ (eI rfl) (jz (jjB (jjC (jI (eI rfl) (jc rfl rfl ?_)))));refine jz (jjK rfl (jjG (jjB (jjC (jN rfl rfl rfl ?_))))))
 refine jjQ (againC_hand bd _ _ _ _ sa sc ss xa xc xs _ (hd:=d5) hp) rfl rfl ?_
 rintro _ w6 hS6 ⟨l,ga,gc,rfl,hR6,hal0⟩
 skip
 (apply jjR rfl;(intro _;first|exact eI rfl|exact eB rfl|exact eP rfl|exact eS rfl|exact eT rfl|exact eA rfl|exact eU rfl|exact eF rfl|exact eM rfl|exact eN rfl|exact rfl);exact rfl;exact rfl;exact rfl;exact rfl;intro b9 w_b9 hb_b9 hs_b9 hS_b9 hk_b9;have hA_b9:=Bk.of hk_b9)
 have A6:At w_b9 b6 0 [.pointer (some ⟨bd,0,none⟩)]:=(Bk.toAt (h:=hA_b6)).ext (hS5.ext.trans (hS6.ext.trans hS_b9.ext))
 have A9:At w_b9 b9 0 [.slice ga l.length gc]:=Bk.toAt (h:=hA_b9)
 have d9:=d5.ext (hS6.ext.trans hS_b9.ext)
 have X9:RowI w_b9 (.slice xa xs.length xc) true 2 (xs.map encSht):=inferInstance
 have R9:=hR6.ext hS_b9.ext
 (refine jz (jjB (jjC (jN rfl rfl rfl (jv ?_)))))
 refine jjQ (uncoveredX_hand bd _ _ _ _ sa sc ss la lc (lnK cs cs.length) 31 [] [.pointer (some ⟨b6,0,none⟩),.pointer (some ⟨b9,0,none⟩)] _ (hd:=d9) (goodB xs l) (fun V hV i hi=>doubt1X_hand bd _ _ _ _ _ xa xc xs ga gc l b6 b9 V (hd:=d9.ext hV) (hxs:=⟨X9.h.ext hV⟩) (hl:=⟨R9.ext hV⟩) (h1:=A6.ext hV) (h2:=A9.ext hV) i (by omega)) hfew hs8 (fun i h=>⟨(hp.sp i h).1,(hp.sp i h).2.1,(hp.sp i h).2.2.1⟩)) rfl rfl ?_
 rintro _ w7 hS7 ⟨mb,m,rfl,hM,hSet⟩
 obtain ⟨D,hDm⟩:∃ D:Nat→Bool,∀ n:Nat,D n=leftI (lnK cs cs.length).length (goodB xs l) ss ss.length (n:Int):=⟨fun n=>leftI (lnK cs cs.length).length (goodB xs l) ss ss.length (n:Int),fun _=>rfl⟩
 have hget:∀ n:Nat,(mget m (n:Int)).getD (.bool false)=.bool (D n):=fun n=>by rw [hSet.look,hDm]
 have hE7:Ext w w7:=inferInstance
 have hwl:∀ p:Nat×Nat,((wsT (txF cs) p.1).getD p.2 []).length≤1000:=fun p=>by
  by_cases h1:p.1<cs.length
  ·have e:wsT (txF cs) p.1=cs[p.1].2.2.2.map (·.2.2):=by rw [wsT_get h1]
   rw [e]
   by_cases h2:p.2<cs[p.1].2.2.2.length
   ·rw [List.getD_eq_getElem?_getD,List.getElem?_map,List.getElem?_eq_getElem h2]
    exact ((hsm.2 _ (List.getElem_mem h1)).2 _ (List.getElem_mem h2)).1
   ·rw [List.getD_eq_getElem?_getD,List.getElem?_map,List.getElem?_eq_none (by omega)];simp
  ·have e:wsT (txF cs) p.1=[]:=by
    rw [wsT,List.getD_eq_getElem?_getD,List.getElem?_eq_none (by rw [txF_len];omega)];rfl
   rw [e];simp
 have hal:(atK cs cs.length).length=(lnK cs cs.length).length:=by rw [atK,List.length_map,hlk]
 have e67:=(hS6.ext.trans hS_b9.ext).trans hS7.ext
 have d7:=d5.ext e67
 have L7:RowI w7 (.slice la (lnK cs cs.length).length lc) false 1 ((lnK cs cs.length).map encLn):=⟨i5.h.ext e67⟩
 have P7:RowI w7 (.slice pa (lnK cs cs.length).length pc) true 3 ((atK cs cs.length).map encPl):=⟨D3.ext ((hS_b6.ext.trans hS5.ext).trans e67)⟩
 have A67:=A6.ext hS7.ext
 (refine jJ (eM rfl) (jz (jjB (jjC (jJ (eS rfl) (jz ?_)))));refine jjB (jjB (jjC (jN rfl rfl rfl (jw rfl (jm ?_)))));refine jn rfl (jN rfl rfl rfl (jh rfl (jI (eI rfl) (jz (jjD ?_))))))
 refine W.keep0 [(2,.pointer (some ⟨b2,0,none⟩)),(3,.pointer (some ⟨b3,0,none⟩)),(6,.pointer (some ⟨b6,0,none⟩)),(10,.map (some mb)),(11,.slice none 0 0),(38,.slice pa (lnK cs cs.length).length pc),(39,.int .i64 ((lnK cs cs.length).length:Int)),(40,.int .i64 ((0:Nat):Int))] ⟨eP rfl,eP rfl,eP rfl,eM rfl,eS rfl,eS rfl,eI rfl,eI rfl,trivial⟩ fun s0=>?_
 refine W.loopG (41::42::43::44::13::12::45::46::47::48::49::50::51::52::53::54::55::56::57::58::59::14::60::61::63::64::65::66::67::62::68::69::15::16::70::71::72::73::11::74::75::40::[]) (fun g s' V=>∃ (n:Nat) (lv:Value),s' 40=.int .i64 (n:Int)∧s' 11=lv∧g=(lnK cs cs.length).length-n∧n≤(lnK cs cs.length).length∧Ext w7 V∧OwnL V w7.heap.size 53 true 6 lv ((doubtL (txF cs) side wd D n).map encSl)) (lnK cs cs.length).length ⟨0,.slice none 0 0,rfl,rfl,rfl,Nat.zero_le _,.refl _,OwnL.nil _ _ _ _ _⟩ ?_
 rintro _ sd V ⟨n,lv,h40,h11,rfl,hn,hEV,hO⟩
 obtain ⟨va,vc,rfl⟩:=hO.slice
 rw [List.length_map] at hO h11
 refine W.fix h40 (W.fix (d:=11) h11 ?_)
 clear h40 h11
 have hEV':=hEV.toStep
 have zV:=hEV.size
 by_cases hn1:n<(lnK cs cs.length).length
 rotate_left
 ·obtain rfl:n=(lnK cs cs.length).length:=by omega
  (refine jjB (jjC (jja rfl rfl (by omega) (jz (jjB (jjK rfl ?_)))));refine jjE (jjB (jjC (jI (eS rfl) (jJ (eS rfl) (jJ (eI rfl) ?_)))));refine jz (jjF ?_);refine jC rfl rfl rfl ⟨inferInstance,?_⟩)
  exact ⟨l,D,va,vc,rfl,hO.row,hDm,hal0⟩
 obtain ⟨k,j,hpr,hk,hj,hwd,hat⟩:=line_at hn1
 have hdl:=doubtL_len (side:=side) (W:=wd) (D:=D) hwl n
 have hat':(atK cs cs.length)[n]'(by omega)=((k:Int),(j:Int),0):=by
  rw [List.getElem?_eq_getElem (by omega)] at hat
  exact Option.some.inj hat
 have hpd:(prL (txF cs) (txF cs).length).getD n (0,0)=(k,j):=by rw [List.getD_eq_getElem?_getD,hpr];rfl
 have hsc:=doubtL_succ (txF cs) side wd D n
 rw [hpd] at hsc
 obtain ⟨B,hB⟩:∃ B,D n=B:=⟨_,rfl⟩
 rw [hB] at hsc
 have hwn:=hwl (k,j)
 simp only at hwn
 (refine jjB (jjC (jjZ rfl rfl (by omega) (jz (jjB (jjJ rfl ?_)))));refine jjG (jjB (jjD (jjB (jjC (jI (eI rfl) ?_)))));refine jF rfl rfl rfl (map_get (by omega)) ?_;intro _ _ _;refine jQ rfl rfl ?_)
 ((skip);refine jjY ?_;intro b13 w_b13 hb_b13 hs_b13 hS_b13 hk_b13;have hA_b13:=Bk.of hk_b13)
 (apply jJ;exact eI rfl)
 refine Ops.store rfl rfl rfl rfl rfl ?_
 intro V1 hp1
 have z13:=hS_b13.size
 have hE1:Ext V V1:=hp1.ext hS_b13.ext (by omega)
 have hE1w:Ext w7 V1:=hEV.trans hE1
 have hE1':=hE1w.toStep
 have B13:Bk V1 b13 [.int .i64 (k:Int),.int .i64 (j:Int),.int .i64 0] 48:=by
  have h:Bk V1 b13 [.int .i64 ((atK cs cs.length)[n]'(by omega)).1,.int .i64 ((atK cs cs.length)[n]'(by omega)).2.1,.int .i64 ((atK cs cs.length)[n]'(by omega)).2.2] 48:=⟨hp1.new⟩
  rw [hat'] at h
  exact h
 have hO1:=hO.ext hE1
 have hne1:(Value.slice va (doubtL (txF cs) side wd D n).length vc).ownBlock≠some b13:=fun e=>by have:=(hO.block b13 e).2;omega
 (refine jz (jjB (jjB (jjC (jI (eM rfl) (jI (eI rfl) ?_))))))
 refine Ops.lookupV (k:=(n:Int)) (v:=.bool B) (by rw [hget,hB]) (hM.ext hE1w) rfl rfl ?_
 cases B with
 | false =>
   rw [if_neg (by decide),List.append_nil] at hsc
   (refine jq rfl (jz (jjJ rfl (jjE (jjC (jY rfl rfl (by omega) ?_)))));refine jI (eI rfl) (jz ?_))
   exact ⟨rfl,by (((iterate 14 refine Same.upd rfl ?_);exact Same.ovN)),(lnK cs cs.length).length-(n+1),by omega,n+1,_,congrArg (Value.int .i64) (by omega),rfl,rfl,by omega,hE1w,by rw [hsc];exact hO1⟩
 | true =>
 rw [if_pos rfl] at hsc
 have hwd2:(lnK cs cs.length)[n].2.2.length=((wsT (txF cs) k).getD j []).length:=by rw [hwd]
 (refine jp rfl (jz (jjK rfl (jjG (jjB (jjC ?_)))));refine jN rfl rfl rfl (jw rfl (jm (jn rfl (jN rfl rfl rfl (jI (eI rfl) ?_)))));refine jF rfl rfl rfl (map_get (by omega)) ?_;intro _ _ _;refine jQ rfl rfl (jh rfl (jI (eI rfl) (jz (jjD ?_)))))
 refine W.keep [(2,.pointer (some ⟨b2,0,none⟩)),(3,.pointer (some ⟨b3,0,none⟩)),(6,.pointer (some ⟨b6,0,none⟩)),(10,.map (some mb)),(11,.slice va (doubtL (txF cs) side wd D n).length vc),(12,.int .i64 (n:Int)),(13,.pointer (some ⟨b13,0,none⟩)),(38,.slice pa (lnK cs cs.length).length pc),(39,.int .i64 ((lnK cs cs.length).length:Int)),(40,.int .i64 (n:Int)),(56,.int .i64 ((lnK cs cs.length)[n].2.2.length:Int)),(57,.int .i64 ((0:Nat):Int))] (D:=(41::42::43::44::13::12::45::46::47::48::49::50::51::52::53::54::55::56::57::58::59::14::60::61::63::64::65::66::67::62::68::69::15::16::70::71::72::73::11::74::75::40::[])) (sO:=upds s0 _) (by (((iterate 21 refine Same.upd rfl ?_);exact Same.ovN))) ⟨eP rfl,eP rfl,eP rfl,eM rfl,eS rfl,eI rfl,eP rfl,eS rfl,eI rfl,eI rfl,eI rfl,eI rfl,trivial⟩ fun s1 hs1'=>?_
 refine W.loopG (58::59::14::60::61::63::64::65::66::67::62::68::69::15::16::70::71::72::73::11::74::57::[]) (fun g s' V=>∃ (q:Nat) (lv:Value),s' 57=.int .i64 (q:Int)∧s' 11=lv∧g=(lnK cs cs.length)[n].2.2.length-q∧q≤(lnK cs cs.length)[n].2.2.length∧Ext w7 V∧(∃ x:Int,Bk V b13 [.int .i64 (k:Int),.int .i64 (j:Int),.int .i64 x] 48)∧lv.ownBlock≠some b13∧OwnL V w7.heap.size 53 true 6 lv ((doubtL (txF cs) side wd D n++lnQ (txF cs) side wd k j q).map encSl)) (lnK cs cs.length)[n].2.2.length ⟨0,.slice va (doubtL (txF cs) side wd D n).length vc,rfl,rfl,rfl,Nat.zero_le _,hE1w,⟨0,B13⟩,hne1,by simpa [lnQ] using hO1⟩ ?_
 clear hO hO1 hne1 B13 hp1
 rintro _ sd2 V2 ⟨q,lv,h57,h11,rfl,hq,hE2,⟨x,B13⟩,hne,hO⟩
 obtain ⟨va2,vc2,rfl⟩:=hO.slice
 rw [List.length_map] at hO h11 hne
 refine W.fix h57 (W.fix (d:=11) h11 ?_)
 clear h57 h11
 have hE2':=hE2.toStep
 have z2:=hE2.size
 have zb13:w7.heap.size≤b13:=by omega
 have hll:(doubtL (txF cs) side wd D n++lnQ (txF cs) side wd k j q).length=(doubtL (txF cs) side wd D n).length+q:=by rw [List.length_append,lnQ_len]
 by_cases hq1:q<(lnK cs cs.length)[n].2.2.length
 rotate_left
 ·obtain rfl:q=(lnK cs cs.length)[n].2.2.length:=by omega
  rw [hwd2,lnQ_all,←hsc] at hO
  (refine jjB (jjC (jja rfl rfl (by omega) (jz (jjB (jjK rfl ?_)))));refine jjE (jjC (jY rfl rfl (by omega) (jI (eI rfl) (jz ?_)))))
  refine ⟨rfl,by (((iterate 5 refine Same.upd rfl ?_);refine Same.ovN' rfl ?_;assumption)),(lnK cs cs.length).length-(n+1),by omega,n+1,_,congrArg (Value.int .i64) (by omega),rfl,rfl,by omega,hE2,?_⟩
  rw [hwd2,lnQ_all,←hsc]
  exact hO
 have hq2:q<((wsT (txF cs) k).getD j []).length:=by omega
 have hmk:=make_slP (side:=side) (W:=wd) hk hj hq2
 (refine jjB (jjC (jjZ rfl rfl (by omega) (jz (jjB (jjJ rfl ?_)))));refine jjG (jjB (jjD (jjB (jjC (jI (eI rfl) ?_)))));refine jJ (eI rfl) (jz (jjB (jjC (jI (eI rfl) (jm ?_)))));refine jn rfl ?_)
 refine Ops.store rfl rfl rfl rfl rfl ?_
 intro V3 hp3
 have hE3:Ext w7 V3:=hp3.ext hE2 zb13
 have hE3':=hE3.toStep
 have hE3w:=(hE7.trans hE3).toStep
 have B3:Bk V3 b13 [.int .i64 (k:Int),.int .i64 (j:Int),.int .i64 (q:Int)] 48:=⟨hp3.new⟩
 have A13:At V3 b13 0 [.int .i64 (k:Int),.int .i64 (j:Int),.int .i64 (q:Int)]:=Bk.toAt (h:=B3)
 have hO3:=hO.put hp3 hne
 (refine jz (jjB (jjC (jm (jn rfl (jO rfl rfl rfl rfl ?_)))));refine jO rfl rfl rfl rfl (jO rfl rfl rfl rfl ?_))
 refine jjQ ((Make_slip a c cs wd side V3 ((k:Int),(j:Int),(q:Int)) hsm hsd).mono fun v _ _ h=>h.trans (by rw [makeR_some hask hmk])) rfl rfl ?_
 rintro _ V4 hS4' rfl
 obtain ⟨S,hS⟩:∃ S,slP (txF cs) side wd ((k:Int),(j:Int),(q:Int))=S:=⟨_,rfl⟩
 rw [hS]
 (refine jI (eU rfl) (ju rfl rfl (ju rfl rfl ?_)))
 (apply jjR rfl;(intro _;first|exact eI rfl|exact eB rfl|exact eP rfl|exact eS rfl|exact eT rfl|exact eA rfl|exact eU rfl|exact eF rfl|exact eM rfl|exact eN rfl|exact rfl);exact rfl;exact rfl;exact rfl;exact rfl;intro b15 w_b15 hb_b15 hs_b15 hS_b15 hk_b15;have hA_b15:=Bk.of hk_b15)
 (refine jJ (eI rfl) (jz (jjC (jI (eS rfl) (jO rfl rfl rfl rfl ?_)))))
 (refine jjP (v:=.agg _) rfl (by exact rfl) (by exact rfl) (by exact rfl) (by exact rfl) ?_;intro b72 w_b72 hb_b72 hs_b72 hS_b72 hk_b72;have hR_b72:=RowV.one (agg:=true) (k:=6) rfl hk_b72)
 have e72:Ext V3 w_b72:=hS4'.ext.trans (hS_b15.ext.trans hS_b72.ext)
 have z72:=e72.size
 have z3:=hE3.size
 have R72:RowV w_b72 true 6 (.slice (some ⟨b72,0,none⟩) 1 1) [encSl S]:=hR_b72
 refine Ops.appendL (hO3.ext e72) (by omega) R72 rfl rfl rfl rfl rfl ?_ ?_ ?_
 ·rw [List.length_map,hll];simp only [List.length_cons,List.length_nil];omega
 ·rw [List.length_map,hll];simp only [List.length_cons,List.length_nil];omega
 intro v6 w11 hA11 hO11 _ hown
 have e11:(doubtL (txF cs) side wd D n++lnQ (txF cs) side wd k j q).map encSl++[encSl S]=(doubtL (txF cs) side wd D n++lnQ (txF cs) side wd k j (q+1)).map encSl:=by
  rw [lnQ_succ,hS];simp
 rw [e11] at hO11
 have zb:b13<w_b72.heap.size:=by have:=(Bk.lt (h:=B3));omega
 have B11:=hA11.bk (B3.ext e72) hne
 have hv6:v6.ownBlock≠some b13:=fun e=>by
  rcases hown with h|h
  ·rw [h] at e;exact hne e
  ·rw [h] at e;simp only [Option.some.injEq] at e;omega
 (refine jJ rfl (jz (jjC (jY rfl rfl (by omega) (jI (eI rfl) (jz ?_))))))
 exact ⟨rfl,by (((iterate 24 refine Same.upd rfl ?_);exact Same.ovN)),(lnK cs cs.length)[n].2.2.length-(q+1),by omega,q+1,v6,congrArg (Value.int .i64) (by omega),rfl,rfl,by omega,hA11.ext (hE3.trans e72) (Nat.le_refl _),⟨_,B11⟩,hv6,hO11⟩
end

abbrev wSold:ByteArray:=⟨#[115,111,108,100]⟩
abbrev trH:List Hp:=[(1,1,1)]
abbrev trS:List Shr:=[(0,0,0,0),(1,1,0,0)]
abbrev trX (b8 b9:Nat):List Sht:=[(false,none,0,[]),(true,some ⟨b9,0,none⟩,1,[(some ⟨b8,0,none⟩,3,[wSea,wAnd,wSold])])]
structure TopR (w:World) (v:Value) (a:Option Addr) (c:Nat) (cs:List Ch) (ha:Option Addr) (hc:Nat) (sa:Option Addr) (sc:Nat) (xa:Option Addr) (xc b8 b9:Nat):Prop where
 v:v=.agg #[.slice a cs.length c,.slice ha trH.length hc,.slice sa trS.length sc,.slice xa (trX b8 b9).length xc]
 r:RowV w true 2 (.slice a cs.length c) (cs.map encCh)
 t:TextI w cs
 x:txF cs=tqT
 h:RowV w true 3 (.slice ha trH.length hc) (trH.map encHp)
 s:RowV w true 4 (.slice sa trS.length sc) (trS.map encShr)
 sh:RowV w true 2 (.slice xa (trX b8 b9).length xc) ((trX b8 b9).map encSht)
 si:ShtI w (trX b8 b9)
abbrev tqTC (b1 b2 b3:Nat):List Ch:=[(3,some ⟨b3,0,none⟩,2,[(some ⟨b1,0,none⟩,2,[wOld,wSea]),(some ⟨b2,0,none⟩,3,[wSea,wAnd,wOld])])]
theorem tqTC_made (w:World) (b1 b2 b3 b5:Nat) (m1:Bk w b1 [strV wOld,strV wSea] 9) (m2:Bk w b2 [strV wSea,strV wAnd,strV wOld] 9) (m3:Bk w b3 [.slice (some ⟨b1,0,none⟩) 2 2,.slice (some ⟨b2,0,none⟩) 3 3] 70) (m5:Bk w b5 [.int .i64 3,.slice (some ⟨b3,0,none⟩) 2 2] 99) :
  RowV w true 2 (.slice (some ⟨b5,0,none⟩) (tqTC b1 b2 b3).length 1) ((tqTC b1 b2 b3).map encCh)∧TextI w (tqTC b1 b2 b3):=by
 refine ⟨Bk.rows (xs:=(tqTC b1 b2 b3).map encCh) m5 (by simp [fitsV]) (by simp),?_,?_⟩
 ·intro x hx
  simp only [List.mem_cons,List.not_mem_nil,or_false] at hx
  subst hx
  exact m3.row (fun x hx=>by simp at hx;rcases hx with rfl|rfl<;>rfl) (by simp)
 ·intro x hx
  simp only [List.mem_cons,List.not_mem_nil,or_false] at hx
  subst hx
  intro y hy
  simp only [List.mem_cons,List.not_mem_nil,or_false] at hy
  rcases hy with rfl|rfl
  ·exact m1.row (strs_fit [_,_]) (by simp)
  ·exact m2.row (strs_fit [_,_,_]) (by simp)
set_option maxHeartbeats 4000000 in
theorem topSeaC_top (w:World):Ct Tryz.prog 43 [] w fun v w'=>∃ b1 b2 b3 b5:Nat,v=.agg #[.slice (some ⟨b5,0,none⟩) 1 1]∧w.heap.size≤b1∧w.heap.size≤b2∧w.heap.size≤b3∧w.heap.size≤b5∧Bk w' b1 [strV wOld,strV wSea] 9∧Bk w' b2 [strV wSea,strV wAnd,strV wOld] 9∧Bk w' b3 [.slice (some ⟨b1,0,none⟩) 2 2,.slice (some ⟨b2,0,none⟩) 3 3] 70∧Bk w' b5 [.int .i64 3,.slice (some ⟨b3,0,none⟩) 2 2] 99:=by
 refine Ct.ofW (by simp) ?_
 (((refine jjB (jjC ?_)));refine jjY ?_;intro b0 w_b0 hb_b0 hs_b0 hS_b0 hk_b0;have hA_b0:=Bk.of hk_b0)
 (refine jz (jjB (jjC ?_)))
 refine Ops.buildSliceF (cells:=[strV wOld,strV wSea]) rfl rfl rfl ?_
 intro b1 w1 hb1 hs1 hS1 hk1
 refine Ops.buildSliceF (cells:=[strV wSea,strV wAnd,strV wOld]) rfl rfl rfl ?_
 intro b2 w2 hb2 hs2 hS2 hk2
 refine Ops.buildSliceF (cells:=[.slice (some ⟨b1,0,none⟩) 2 2,.slice (some ⟨b2,0,none⟩) 3 3]) rfl rfl rfl ?_
 intro b3 w3 hb3 hs3 hS3 hk3
 (refine jjS (cells:=[.int .i64 3,.slice (some ⟨b3,0,none⟩) 2 2]) ?_ ?_;exact rfl)
 refine Ops.buildSliceF (cells:=[.int .i64 3,.slice (some ⟨b3,0,none⟩) 2 2]) rfl rfl rfl ?_
 intro b5 w5 hb5 hs5 hS5 hk5
 (refine jjS (cells:=[.slice (some ⟨b5,0,none⟩) 1 1]) ?_ ?_;exact rfl)
 have hb0:Bk w5 b0 [.slice none 0 0] 24:=inferInstance
 have hE5:Ext w w5:=inferInstance
 have k1:Bk w5 b1 [strV wOld,strV wSea] 9:=inferInstance
 have k2:Bk w5 b2 [strV wSea,strV wAnd,strV wOld] 9:=inferInstance
 have k3:Bk w5 b3 [.slice (some ⟨b1,0,none⟩) 2 2,.slice (some ⟨b2,0,none⟩) 3 3] 70:=inferInstance
 refine Ops.store rfl rfl rfl rfl rfl ?_
 intro V2 hp2
 have:=Bk.toAt (h:=Bk.of hp2.new)
 have z0:=hS_b0.size
 have z1:=hS1.size
 have z2:=hS2.size
 have z3:=hS3.size
 have m1:=hp2.bk k1 (by omega)
 have m2:=hp2.bk k2 (by omega)
 have m3:=hp2.bk k3 (by omega)
 have m5:=hp2.bk hk5 (by omega)
 (refine jz (jjF ?_))
 exact fin1C rfl rfl rfl rfl rfl ⟨hp2.ext hE5 (by omega),b1,b2,b3,b5,rfl,by omega,by omega,by omega,by omega,m1,m2,m3,m5⟩
set_option maxHeartbeats 4000000 in
theorem topRound_top (w:World):Ct Tryz.prog 15 [] w fun v w'=>∃ a c cs ha hc sa sc xa xc b8 b9,TopR w' v a c cs ha hc sa sc xa xc b8 b9:=by
 refine Ct.ofW (by simp) ?_
 (((refine jjB (jjC ?_)));refine jjY ?_;intro b0 w_b0 hb_b0 hs_b0 hS_b0 hk_b0;have hA_b0:=Bk.of hk_b0)
 (refine jz (jjB (jjC ?_)))
 refine jjQ (topSeaC_top _) rfl rfl ?_
 rintro _ w1 hS1 ⟨t1,t2,t3,t5,rfl,g1,g2,g3,g5,q1,q2,q3,q5⟩
 (refine jjS (cells:=[.int .i64 1,.int .i64 1,.int .i64 1]) ?_ ?_;exact rfl)
 refine Ops.buildSliceF (cells:=[.int .i64 1,.int .i64 1,.int .i64 1]) rfl rfl rfl ?_
 intro b3 w3 hb3 hs3 hS3 hk3
 (refine jjS (cells:=[.int .i64 0,.int .i64 0,.int .i64 0,.int .i64 0]) ?_ ?_;exact rfl)
 (refine jjS (cells:=[.int .i64 1,.int .i64 1,.int .i64 0,.int .i64 0]) ?_ ?_;exact rfl)
 refine Ops.buildSliceF (cells:=[.int .i64 0,.int .i64 0,.int .i64 0,.int .i64 0,.int .i64 1,.int .i64 1,.int .i64 0,.int .i64 0]) rfl rfl rfl ?_
 intro b6 w6 hb6 hs6 hS6 hk6
 (refine jjS (cells:=[.bool false,.slice none 0 0]) ?_ ?_;exact rfl)
 refine Ops.buildSliceF (cells:=[strV wSea,strV wAnd,strV wSold]) rfl rfl rfl ?_
 intro b8 w8 hb8 hs8 hS8 hk8
 refine Ops.buildSliceF (cells:=[.slice (some ⟨b8,0,none⟩) 3 3]) rfl rfl rfl ?_
 intro b9 w9 hb9 hs9 hS9 hk9
 (refine jjS (cells:=[.bool true,.slice (some ⟨b9,0,none⟩) 1 1]) ?_ ?_;exact rfl)
 refine Ops.buildSliceF (cells:=[.bool false,.slice none 0 0,.bool true,.slice (some ⟨b9,0,none⟩) 1 1]) rfl rfl rfl ?_
 intro b11 w11 hb11 hs11 hS11 hk11
 (refine jjS (cells:=[.slice (some ⟨t5,0,none⟩) 1 1,.slice (some ⟨b3,0,none⟩) 1 1,.slice (some ⟨b6,0,none⟩) 2 2,.slice (some ⟨b11,0,none⟩) 2 2]) ?_ ?_;exact rfl)
 have hb0:Bk w11 b0 [.slice none 0 0,.slice none 0 0,.slice none 0 0,.slice none 0 0] 29:=inferInstance
 have hE11:Ext w w11:=inferInstance
 have k3:Bk w11 b3 [.int .i64 1,.int .i64 1,.int .i64 1] 109:=inferInstance
 have k6:Bk w11 b6 [.int .i64 0,.int .i64 0,.int .i64 0,.int .i64 0,.int .i64 1,.int .i64 1,.int .i64 0,.int .i64 0] 46:=inferInstance
 have k8:Bk w11 b8 [strV wSea,strV wAnd,strV wSold] 9:=inferInstance
 have k9:Bk w11 b9 [.slice (some ⟨b8,0,none⟩) 3 3] 70:=inferInstance
 have y1:Bk w11 t1 [strV wOld,strV wSea] 9:=inferInstance
 have y2:Bk w11 t2 [strV wSea,strV wAnd,strV wOld] 9:=inferInstance
 have y3:Bk w11 t3 [.slice (some ⟨t1,0,none⟩) 2 2,.slice (some ⟨t2,0,none⟩) 3 3] 70:=inferInstance
 have y5:Bk w11 t5 [.int .i64 3,.slice (some ⟨t3,0,none⟩) 2 2] 99:=inferInstance
 have z0:=hS_b0.size
 have z1:=hS1.size
 have z3:=hS3.size
 have z6:=hS6.size
 have z8:=hS8.size
 have z9:=hS9.size
 refine Ops.store rfl rfl rfl rfl rfl ?_
 intro V2 hp2
 have:=Bk.toAt (h:=Bk.of hp2.new)
 have m3:=hp2.bk k3 (by omega)
 have m6:=hp2.bk k6 (by omega)
 have m8:=hp2.bk k8 (by omega)
 have m9:=hp2.bk k9 (by omega)
 have m11:=hp2.bk hk11 (by omega)
 obtain ⟨r1,r2⟩:=tqTC_made V2 t1 t2 t3 t5 (hp2.bk y1 (by omega)) (hp2.bk y2 (by omega)) (hp2.bk y3 (by omega)) (hp2.bk y5 (by omega))
 (refine jz (jjF ?_))
 refine fin1C rfl rfl rfl rfl rfl ⟨hp2.ext hE11 (by omega),some ⟨t5,0,none⟩,1,tqTC t1 t2 t3,some ⟨b3,0,none⟩,1,some ⟨b6,0,none⟩,2,some ⟨b11,0,none⟩,2,b8,b9,rfl,r1,r2,rfl,?_,?_,?_,⟨?_,?_⟩⟩
 ·exact Bk.rows (xs:=trH.map encHp) m3 (by simp [fitsV]) (by simp)
 ·exact Bk.rows (xs:=trS.map encShr) m6 (by simp [fitsV]) (by simp)
 ·exact Bk.rows (xs:=(trX b8 b9).map encSht) m11 (by simp [fitsV]) (by simp)
 ·intro x hx
  simp only [List.mem_cons,List.not_mem_nil,or_false] at hx
  rcases hx with rfl|rfl
  ·exact RowV.nilS _ _ _ _ _
  ·exact m9.row (fun x hx=>by simp at hx;rcases hx with rfl;rfl) (by simp)
 ·intro x hx
  simp only [List.mem_cons,List.not_mem_nil,or_false] at hx
  rcases hx with rfl|rfl
  ·intro y hy;simp at hy
  ·intro y hy
   simp only [List.mem_cons,List.not_mem_nil,or_false] at hy
   subst hy
   exact m8.row (strs_fit [_,_,_]) (by simp)

set_option maxHeartbeats 16000000 in
theorem readings_leaf (a1 a2:Option Addr) (c1 c2:Nat) (A B:List ByteArray) (p:Pl) (w:World) (hA:A.length=3) (hB:B.length=3) (h0:A[0]?=B[0]?) (h1:A[1]?=B[1]?) (h2:A[2]?≠B[2]?) (ra:RowV w false 1 (.slice a1 3 c1) (A.map strV)) (rb:RowV w false 1 (.slice a2 3 c2) (B.map strV)) :
  Ct Tryz.prog 177 [.slice a1 3 c1,.slice a2 3 c2,encPl p] w fun v w'=>∃ (a:Option Addr) (c:Nat) (x:Rd),v=.slice a 1 c∧RowV w' true 5 (.slice a 1 c) [encRd x]:=by
 have gA:∀ j (h:j<3),∃ pa oa,a1=some ⟨pa,oa,none⟩∧At w pa (oa+j * 1) [.string (A[j]'(by omega))]:=fun j h=>by
  have ga:(A.map strV)[j]?=some (strV (A[j]'(by omega))):=by rw [List.getElem?_map,List.getElem?_eq_getElem (by omega)];rfl
  exact ra.place' ga
 have gB:∀ j (h:j<3),∃ pa oa,a2=some ⟨pa,oa,none⟩∧At w pa (oa+j * 1) [.string (B[j]'(by omega))]:=fun j h=>by
  have ga:(B.map strV)[j]?=some (strV (B[j]'(by omega))):=by rw [List.getElem?_map,List.getElem?_eq_getElem (by omega)];rfl
  exact rb.place' ga
 obtain ⟨pa,oa,rfl,-⟩:=gA 0 (by omega)
 obtain ⟨pb,ob,rfl,-⟩:=gB 0 (by omega)
 replace gA:∀ j (h:j<3),At w pa (oa+j * 1) [.string (A[j]'(by omega))]:=fun j h=>by
  obtain ⟨x,y,e,g⟩:=gA j h
  cases e;exact g
 replace gB:∀ j (h:j<3),At w pb (ob+j * 1) [.string (B[j]'(by omega))]:=fun j h=>by
  obtain ⟨x,y,e,g⟩:=gB j h
  cases e;exact g
 have la:=(gA 0 (by omega)).lt
 have lb:=(gB 0 (by omega)).lt
 refine Ct.ofW (by simp) ?_
 (refine jjB (jjC ?_))
 (refine jy rfl ?_;intro b3 w_b3 hb_b3 hs_b3 hS_b3 hk_b3;have hA_b3:=At.ofBlock hk_b3)
 skip
 (refine jy rfl ?_;intro b4 w_b4 hb_b4 hs_b4 hS_b4 hk_b4;have hA_b4:=At.ofBlock hk_b4)
 skip
 (refine jy rfl ?_;intro b5 w_b5 hb_b5 hs_b5 hS_b5 hk_b5;have hA_b5:=At.ofBlock hk_b5)
 (refine jJ (eS rfl) (jz (jjB (jjC ?_))))
 (refine jjS (cells:=[.int .u8 3,.int .i64 1,.int .i64 1]) ?_ ?_;exact rfl)
 (refine jjS (cells:=[.int .u8 1,.int .i64 1,.int .i64 0]) ?_ ?_;exact rfl)
 (refine jjS (cells:=[.int .u8 2,.int .i64 0,.int .i64 1]) ?_ ?_;exact rfl)
 (refine jjS (cells:=[.int .u8 3,.int .i64 1,.int .i64 1,.int .u8 1,.int .i64 1,.int .i64 0,.int .u8 2,.int .i64 0,.int .i64 1]) ?_ ?_;exact rfl)
 (apply jjR rfl;(intro _;first|exact eI rfl|exact eB rfl|exact eP rfl|exact eS rfl|exact eT rfl|exact eA rfl|exact eU rfl|exact eF rfl|exact eM rfl|exact eN rfl|exact rfl);exact rfl;exact rfl;exact rfl;exact rfl;intro b7 w_b7 hb_b7 hs_b7 hS_b7 hk_b7;have hA_b7:=Bk.of hk_b7)
 (refine jz (jjB (jjC ?_)))
 refine Ops.makeMap encII ?_
 intro mb w12 hmb hs12 hS12 hM12
 (apply jjR rfl;(intro _;first|exact eI rfl|exact eB rfl|exact eP rfl|exact eS rfl|exact eT rfl|exact eA rfl|exact eU rfl|exact eF rfl|exact eM rfl|exact eN rfl|exact rfl);exact rfl;exact rfl;exact rfl;exact rfl;intro b8 w_b8 hb_b8 hs_b8 hS_b8 hk_b8;have hA_b8:=Bk.of hk_b8)
 (refine jz (jjB (jjC ?_)))
 ((skip);refine jjY ?_;intro b9 w_b9 hb_b9 hs_b9 hS_b9 hk_b9;have hA_b9:=Bk.of hk_b9)
 (refine jz (jjB (jjC (jv ?_))))
 (apply jjR rfl;(intro _;first|exact eI rfl|exact eB rfl|exact eP rfl|exact eS rfl|exact eT rfl|exact eA rfl|exact eU rfl|exact eF rfl|exact eM rfl|exact eN rfl|exact rfl);exact rfl;exact rfl;exact rfl;exact rfl;intro b10 w_b10 hb_b10 hs_b10 hS_b10 hk_b10;have hA_b10:=Bk.of hk_b10)
 have X3:At w_b10 b3 0 [.slice (some ⟨pa,oa,none⟩) 3 c1]:=inferInstance
 have X4:At w_b10 b4 0 [.slice (some ⟨pb,ob,none⟩) 3 c2]:=inferInstance
 have X5:At w_b10 b5 0 [.int .i64 p.1,.int .i64 p.2.1,.int .i64 p.2.2]:=inferInstance
 have X7:At w_b10 b7 0 waysC:=(Bk.toAt (h:=hA_b7)).ext inferInstance
 have X8:At w_b10 b8 0 [.map (some mb)]:=(Bk.toAt (h:=hA_b8)).ext inferInstance
 have XM:MapE encII w_b10 mb []:=hM12.ext inferInstance
 have eW:Ext w w_b10:=inferInstance
 have X10:At w_b10 b10 0 [.func (.func 178) #[] (RdC.na ⟨b3,b4,b7,b8,b9,b10,mb,some ⟨pa,oa,none⟩,c1,some ⟨pb,ob,none⟩,c2,A,B⟩).toArray]:=Bk.toAt (h:=hA_b10)
 have z3:=hS_b3.size
 have z4:=hS_b4.size
 have z5:=hS_b5.size
 have z7:=hS_b7.size
 have z8:=hS_b8.size
 have z9:=hS_b9.size
 (refine jz (jjB (jjC (jv ?_))))
 refine Ops.store rfl rfl rfl rfl rfl ?_
 intro V hp
 have X9:At V b9 0 [.func (.func 179) #[] (RdC.fa ⟨b3,b4,b7,b8,b9,b10,mb,some ⟨pa,oa,none⟩,c1,some ⟨pb,ob,none⟩,c2,A,B⟩).toArray]:=Bk.toAt (h:=⟨hp.new⟩)
 have eV:Ext w V:=hp.ext eW (by omega)
 obtain ⟨C,hC⟩:∃ C:RdC,C=⟨b3,b4,b7,b8,b9,b10,mb,some ⟨pa,oa,none⟩,c1,some ⟨pb,ob,none⟩,c2,A,B⟩:=⟨_,rfl⟩
 have hK:RF C V:=by
  subst hC
  exact ⟨hp.at_ X3 (show b3≠b9 by omega),hp.at_ X4 (show b4≠b9 by omega),hp.at_ X7 (show b7≠b9 by omega),hp.at_ X8 (show b8≠b9 by omega),X9,hp.at_ X10 (show b10≠b9 by omega),ra.ext eV,rb.ext eV,⟨[],XM.put hp (by omega),fun k v h=>by simp [mget] at h⟩,⟨show b3≠mb by omega,show b4≠mb by omega,show b7≠mb by omega,show b8≠mb by omega,show b9≠mb by omega,show b10≠mb by omega⟩,fun e=>by simp [Value.ownBlock] at e;omega,fun e=>by simp [Value.ownBlock] at e;omega,hA,hB⟩
 have X5':At V b5 0 [.int .i64 p.1,.int .i64 p.2.1,.int .i64 p.2.2]:=hp.at_ X5 (by omega)
 have hmb':C.mb=mb:=by rw [hC]
 have gK:∀ U,RF C U→At U b3 0 [.slice (some ⟨pa,oa,none⟩) 3 c1]∧At U b4 0 [.slice (some ⟨pb,ob,none⟩) 3 c2]∧At U b10 0 [.func (.func 178) #[] C.na.toArray]:=fun U h=>by
  have h1:=h.ha
  have h2:=h.hb
  have h3:=h.hn
  refine ⟨?_,?_,?_⟩
  ·rw [hC] at h1;exact h1
  ·rw [hC] at h2;exact h2
  ·rw [hC] at h3 ⊢;exact h3
 have zV:=hp.size
 have zmb:w.heap.size≤mb:=by omega
 (refine jz (jjB (jjC (jJ (eS rfl) (jz (jjB ?_)))));refine jjB (jjC (jJ (eI rfl) (jJ (eI rfl) (jz (jjD ?_))))))
 clear hC X3 X4 X5 X7 X8 X10 X9 XM hA_b7 hA_b8 hA_b10
 refine W.keep0 [(3,.pointer (some ⟨b3,0,none⟩)),(4,.pointer (some ⟨b4,0,none⟩)),(5,.pointer (some ⟨b5,0,none⟩)),(10,.pointer (some ⟨b10,0,none⟩)),(11,.slice none 0 0),(12,.int .i64 ((0:Nat):Int)),(13,.int .i64 ((0:Nat):Int))] ⟨eP rfl,eP rfl,eP rfl,eP rfl,eS rfl,eI rfl,eI rfl,trivial⟩ fun s0=>?_
 refine W.loopG (24::25::26::27::28::29::30::31::32::33::34::35::36::37::38::39::40::41::42::43::44::45::46::47::48::49::50::51::52::53::54::55::56::57::58::12::13::60::61::62::63::59::64::65::14::15::66::67::68::69::70::71::72::73::74::16::75::76::77::78::79::80::81::82::83::84::85::86::11::87::88::89::90::91::92::93::94::[]) (fun g s' U=>∃ (j:Nat) (lv:Value),s' 12=.int .i64 (j:Int)∧s' 13=.int .i64 (j:Int)∧s' 11=lv∧g=3-j∧j≤3∧Only C.mb V U∧RF C U∧(j≤2→lv=.slice none 0 0)∧(j=3→∃ (a:Option Addr) (c:Nat) (x:Rd),lv=.slice a 1 c∧RowV U true 5 (.slice a 1 c) [encRd x])) 3 ⟨0,_,rfl,rfl,rfl,rfl,by omega,.ofExt (.refl _),hK,fun _=>rfl,fun h=>by omega⟩ ?_
 rintro _ sd U ⟨j,lv,h12,h13,h11,rfl,hj,hOn,hKj,hl2,hl3⟩
 obtain ⟨g3,g4,g10⟩:=gK U hKj
 have eU:Ext w U:=hOn.ext eV (by omega)
 have eU':=eU.toStep
 have zU:=hOn.size
 by_cases hj3:j<3
 rotate_left
 ·obtain rfl:j=3:=by omega
  obtain ⟨a,c,x,rfl,hR⟩:=hl3 rfl
  refine W.fix h12 (W.fix (d:=13) h13 (W.fix (d:=11) h11 ?_))
  clear h12 h13 h11
  (refine jjB (jjB (jjC (jI (eI rfl) (jN rfl rfl rfl (jh rfl ?_)))));refine jja rfl rfl (by omega) (jI (eB rfl) (jT rfl rfl rfl (jI (eI rfl) (jT rfl rfl rfl (jN rfl rfl rfl ?_)))));refine jT rfl rfl rfl (jh rfl (jT rfl rfl rfl (jja rfl rfl (by omega) (jL rfl (eB rfl) (jz ?_)))));refine jjK rfl (jjE (jjB (jjC (jI (eS rfl) (jJ (eS rfl) ?_)))));refine jz (jjF ?_);refine jB rfl rfl ⟨inferInstance,?_⟩)
  exact ⟨a,c,x,rfl,hR⟩
 obtain rfl:=hl2 (by omega)
 refine W.fix h12 (W.fix (d:=13) h13 (W.fix (d:=11) h11 ?_))
 clear h12 h13 h11
 have Aa:=(gA j hj3).ext eU
 have Ab:=(gB j hj3).ext eU
 obtain ⟨X,hX⟩:∃ X,A[j]'(by omega)=X:=⟨_,rfl⟩
 obtain ⟨Y,hY⟩:∃ X,B[j]'(by omega)=X:=⟨_,rfl⟩
 rw [hX] at Aa
 rw [hY] at Ab
 obtain ⟨D,hD⟩:∃ D,decide (X=Y)=D:=⟨_,rfl⟩
 (refine jjB (jjB (jjC (jI (eI rfl) (jN rfl rfl rfl (jh rfl ?_)))));refine jjZ rfl rfl (by omega) (jI (eB rfl) (jU rfl rfl rfl rfl (jU rfl rfl rfl rfl (jU rfl rfl rfl rfl (jU rfl rfl rfl rfl ?_)))));refine jK rfl (eB rfl) (jz (jjJ rfl (jjG (jjD (jjB ?_)))));refine jjB ?_)
 refine W.draw (fun w'=>Ext U w') ?_
 intro u1 hu1
 (refine jjV [0,1,2] ?_ ?_ ?_;(decide +kernel);(exact hu1.ext);(((refine jjT rfl (fun _ _=>jI (eI rfl) (jz ⟨rfl,rfl⟩)) ?_;apply jjT;exact rfl;rintro w' hq;have:=hq.toStep;refine jN rfl rfl rfl (jz ?_);exact ⟨rfl,rfl⟩;refine jjT rfl (fun _ _=>jh rfl (jz ⟨rfl,rfl⟩)) (jjU ?_)))))
 refine jjV [3] (by decide +kernel) hu1.ext (jjT (v:=.bool true) rfl (fun w' q1=>?_) (jjU ?_));(refine jX rfl rfl ?_;rw [decide_eq_true (by omega)];refine jz ?_;exact ⟨rfl,rfl⟩)
 (refine jjV [4,5,6,7] ?_ ?_ ?_;(decide +kernel);(exact hu1.ext);(((refine jjT rfl (fun _ _=>jI (eB rfl) (jz ⟨rfl,rfl⟩)) (jjT rfl (fun _ _=>jT rfl rfl rfl (jI (eI rfl) (jz ⟨rfl,rfl⟩))) ?_);apply jjT;exact rfl;rintro w' hq;have:=hq.toStep;refine jT rfl rfl rfl (jN rfl rfl rfl (jz ?_));exact ⟨rfl,rfl⟩;refine jjT rfl (fun _ _=>jT rfl rfl rfl (jh rfl (jz ⟨rfl,rfl⟩))) (jjU ?_)))))
 refine jjV [8] (by decide +kernel) hu1.ext (jjT (v:=.bool true) rfl (fun w' q1=>?_) (jjU ?_));(refine jT rfl rfl rfl (jX rfl rfl ?_);rw [decide_eq_true (by omega)];refine jz ?_;exact ⟨rfl,rfl⟩)
 (refine jjV [9,10,11,12] ?_ ?_ ?_;(decide +kernel);(exact hu1.ext);(((refine jjT rfl (fun _ _=>jK rfl (eB rfl) (jz ⟨rfl,rfl⟩)) (jjT rfl (fun _ _=>jI (eB rfl) (jz ⟨rfl,rfl⟩)) ?_);apply jjT;exact rfl;rintro w' hq;have:=hq.toStep;refine jT rfl rfl rfl (jN rfl rfl rfl (jz ?_));exact ⟨rfl,rfl⟩;refine jjT rfl (fun _ _=>jT rfl rfl rfl (jI (eI rfl) (jz ⟨rfl,rfl⟩))) (jjU ?_)))))
 refine jjV [13] (by decide +kernel) hu1.ext (jjT (v:=.pointer (some ⟨pa,oa+j * 1,none⟩)) rfl (fun w' q1=>?_) (jjU ?_));(refine jT rfl rfl rfl ?_;refine jH j rfl rfl rfl (by omega) ?_;refine jz ?_;exact ⟨rfl,rfl⟩)
 refine jjV [14] (by decide +kernel) hu1.ext (jjT (v:=.string X) rfl (fun w' q1=>?_) (jjU ?_));(refine jT rfl rfl rfl ?_;refine jR ((Aa.ext q1).get (i:=0) rfl) rfl rfl ?_;refine jz ?_;exact ⟨rfl,rfl⟩)
 (refine jjV [15,16] ?_ ?_ ?_;(decide +kernel);(exact hu1.ext);(((apply jjT;exact rfl;rintro w' hq;have:=hq.toStep;refine jT rfl rfl rfl (jN rfl rfl rfl (jz ?_));exact ⟨rfl,rfl⟩;refine jjT rfl (fun _ _=>jT rfl rfl rfl (jI (eI rfl) (jz ⟨rfl,rfl⟩))) (jjU ?_)))))
 refine jjV [17] (by decide +kernel) hu1.ext (jjT (v:=.pointer (some ⟨pb,ob+j * 1,none⟩)) rfl (fun w' q1=>?_) (jjU ?_));(refine jT rfl rfl rfl ?_;refine jH j rfl rfl rfl (by omega) ?_;refine jz ?_;exact ⟨rfl,rfl⟩)
 refine jjV [18] (by decide +kernel) hu1.ext (jjT (v:=.string Y) rfl (fun w' q1=>?_) (jjU ?_));(refine jT rfl rfl rfl ?_;refine jR ((Ab.ext q1).get (i:=0) rfl) rfl rfl ?_;refine jz ?_;exact ⟨rfl,rfl⟩)
 refine jjV [19] (by decide +kernel) hu1.ext (jjT (v:=.bool D) rfl (fun w' q1=>?_) (jjU ?_));(refine jT rfl rfl rfl ?_;refine Ops.eqlSV hD rfl rfl ?_;refine jz ?_;exact ⟨rfl,rfl⟩)
 (refine jjV [20] ?_ ?_ ?_;(decide +kernel);(exact hu1.ext);(((refine jjT rfl (fun _ _=>jK rfl (eB rfl) (jz ⟨rfl,rfl⟩)) (jjU ?_)))))
 refine jjX (by decide +kernel) hu1.ext ?_
 have hKu:=hKj.ext hu1.ext
 have hOnu:Only C.mb V u1:=hOn.trans (.ofExt hu1.ext)
 cases D with
 | true =>
   have hne2:j≠2:=fun e=>by
    subst e
    refine h2 ?_
    rw [List.getElem?_eq_getElem (by omega),List.getElem?_eq_getElem (by omega),hX,hY,of_decide_eq_true hD]
   (refine jjJ rfl (jjB (jjC (jI (eI rfl) (jY rfl rfl (by omega) (jI (eI rfl) ?_)))));refine jY rfl rfl (by omega) (jJ (eI rfl) (jJ (eI rfl) (jz (jjE ?_)))))
   exact ⟨rfl,by (((iterate 40 refine Same.upd rfl ?_);exact Same.ovN)),3-(j+1),by omega,j+1,_,congrArg (Value.int .i64) (by omega),congrArg (Value.int .i64) (by omega),rfl,rfl,by omega,hOnu,hKu,fun _=>rfl,fun h=>by omega⟩
 | false =>
 have hj2:j=2:=by
  have:j=0∨j=1∨j=2:=by omega
  have hn:=of_decide_eq_false hD
  rcases this with rfl|rfl|rfl
  ·exact absurd (by rw [List.getElem?_eq_getElem (by omega),List.getElem?_eq_getElem (by omega),hX,hY] at h0;exact Option.some.inj h0) hn
  ·exact absurd (by rw [List.getElem?_eq_getElem (by omega),List.getElem?_eq_getElem (by omega),hX,hY] at h1;exact Option.some.inj h1) hn
  ·rfl
 subst hj2
 have g10u:=g10.ext hu1.ext
 (refine jjK rfl (jjG (jjB (jjC (jN rfl rfl rfl (jI (eI rfl) ?_)))));refine jI (eI rfl) ?_)
 refine Ops.callR rfl (Enters.h (P:=Tryz.prog) (g:=178)) rfl (next_leaf C 2 2 (by omega) (by omega) (fun i' k' w' _ h1 h2 h3=>fewest_leaf C _ i' k' w' (Nat.le_refl _) h1 h2 h3) _ hKu) ?_
 rintro _ w2 ⟨wy,n,rfl,hn0,hn7,hwy,hOn2,hK2⟩
 obtain rfl:=hwy ⟨rfl,rfl⟩
 refine ⟨_,rfl,?_⟩
 (refine jI rfl (ju rfl rfl (ju rfl rfl ?_)))
 (apply jjR rfl;(intro _;first|exact eI rfl|exact eB rfl|exact eP rfl|exact eS rfl|exact eT rfl|exact eA rfl|exact eU rfl|exact eF rfl|exact eM rfl|exact eN rfl|exact rfl);exact rfl;exact rfl;exact rfl;exact rfl;intro b14 w_b14 hb_b14 hs_b14 hS_b14 hk_b14;have hA_b14:=Bk.of hk_b14)
 have hO14:Only C.mb V w_b14:=(hOnu.trans hOn2).trans (.ofExt hS_b14.ext)
 have hK14:=hK2.ext hS_b14.ext
 have e14:Ext w w_b14:=hO14.ext eV (by omega)
 have Y5:At w_b14 b5 0 [.int .i64 p.1,.int .i64 p.2.1,.int .i64 p.2.2]:=hO14.at_ X5' (by omega)
 have Y4:=(gK _ hK14).2.1
 have A14:At w_b14 b14 0 [.int .u8 3,.int .i64 1,.int .i64 1]:=Bk.toAt (h:=hA_b14)
 have Ab2:At w_b14 pb (ob+2) [.string Y]:=by rw [←hY];exact (gB 2 (by omega)).ext e14
 (refine jJ (eI rfl) (jz (jjB (jjC (jm (jn rfl ?_)))));refine jN rfl rfl rfl (jm (jn rfl (jN rfl rfl rfl (jI (eI rfl) ?_)))))
 (refine jjS (cells:=[.int .i64 p.1,.int .i64 p.2.1,.int .i64 2]) ?_ ?_;exact rfl)
 (refine jm (jn rfl (jN rfl rfl rfl ?_)))
 (refine jjS (cells:=[.int .i64 p.1,.int .i64 p.2.1,.int .i64 2,.int .u8 3,.string ⟨#[]⟩]) ?_ ?_;exact rfl)
 (apply jjR rfl;(intro _;first|exact eI rfl|exact eB rfl|exact eP rfl|exact eS rfl|exact eT rfl|exact eA rfl|exact eU rfl|exact eF rfl|exact eM rfl|exact eN rfl|exact rfl);exact rfl;exact rfl;exact rfl;exact rfl;intro b16 w_b16 hb_b16 hs_b16 hS_b16 hk_b16;have hA_b16:=Bk.of hk_b16)
 have Ab3:At w_b16 pb (ob+2) [.string Y]:=Ab2.ext hS_b16.ext
 (refine jz (jjB (jjB (jjC (jm (jn rfl ?_)))));refine jN rfl rfl rfl (ja rfl rfl (jz (jjJ rfl (jjC (jN rfl rfl rfl ?_)))));refine jI (eI rfl) (jG rfl rfl rfl (by omega) ?_))
 refine jR (Ab3.get (i:=0) rfl) rfl rfl ?_
 (refine jm (jn rfl ?_))
 have Y16:=hS_b16.ext
 have z14:=hS_b14.size
 have zw14:=e14.size
 have zU14:U.heap.size≤b14:=by have:=hu1.size;have:=hOn2.size;omega
 have A14':At w_b16 b14 0 [.int .u8 3,.int .i64 1,.int .i64 1]:=A14.ext Y16
 refine Ops.store rfl rfl rfl rfl rfl ?_
 intro w5 hp5
 have B16:Bk w5 b16 [.int .i64 p.1,.int .i64 p.2.1,.int .i64 2,.int .u8 3,.string Y] 186:=Bk.of hp5.new
 have A16:=B16.toAt
 have C14:At w5 b14 0 [.int .u8 3,.int .i64 1,.int .i64 1]:=hp5.at_ A14' (by omega)
 have e5:Ext w_b14 w5:=hp5.ext Y16 (by omega)
 (refine jz (jjB (jjC (jI (eS rfl) (jO rfl rfl rfl rfl ?_)))))
 (refine jjP (v:=.agg _) rfl (by exact rfl) (by exact rfl) (by exact rfl) (by exact rfl) ?_;intro b85 w_b85 hb_b85 hs_b85 hS_b85 hk_b85;have hR_b85:=RowV.one (agg:=true) (k:=5) rfl hk_b85)
 have R85:RowV w_b85 true 5 (.slice (some ⟨b85,0,none⟩) 1 1) [encRd (((p.1,p.2.1,2):Pl),3,Y)]:=hR_b85
 have e85:Ext w_b14 w_b85:=e5.trans hS_b85.ext
 have C14':At w_b85 b14 0 [.int .u8 3,.int .i64 1,.int .i64 1]:=C14.ext hS_b85.ext
 refine Ops.appendL (OwnL.nil w_b85 w_b85.heap.size 186 true 5) (Nat.le_refl _) R85 rfl rfl rfl rfl rfl ?_ ?_ ?_
 ·simp
 ·simp
 intro v6 w6 hA6 hO6 _ _
 obtain ⟨a6,c6,rfl⟩:=hO6.slice
 have hOn6:Only C.mb V w6:=(hO14.trans (.ofExt e85)).app hA6 (by have:=hO14.size;have:=e85.size;omega)
 obtain ⟨m6,hm6,hok6⟩:=(hK14.ext e85).km
 have hK6:RF C w6:=hK.only hOn6 ⟨m6,hm6.app hA6 (by simp [Value.ownBlock]),hok6⟩
 have D14:At w6 b14 0 [.int .u8 3,.int .i64 1,.int .i64 1]:=hA6.at_ C14' (by simp [Value.ownBlock])
 (refine jJ (eS rfl) (jz ?_))
 refine W.draw (fun w'=>Ext w6 w') ?_
 intro u7 hu7
 have D15:=D14.ext hu7.ext
 (refine jjV [0,1,2,3,4,5,6,7,8,9] ?_ ?_ ?_;(decide +kernel);(exact hu7.ext);(((apply jjT;exact rfl;rintro w' hq;have:=D14.ext hq;have:=hq.toStep;refine jI (eI rfl) (jz ?_);exact ⟨rfl,rfl⟩;apply jjT;exact rfl;rintro w' hq;have:=D14.ext hq;have:=hq.toStep;refine jm (jn rfl (jz ?_));exact ⟨rfl,rfl⟩;apply jjT;exact rfl;rintro w' hq;have:=D14.ext hq;have:=hq.toStep;refine jN rfl rfl rfl (jz ?_);exact ⟨rfl,rfl⟩;apply jjT;exact rfl;rintro w' hq;have:=D14.ext hq;have:=hq.toStep;refine jY rfl rfl (by omega) (jz ?_);exact ⟨rfl,rfl⟩;apply jjT;exact rfl;rintro w' hq;have:=D14.ext hq;have:=hq.toStep;refine jI (eI rfl) (jz ?_);exact ⟨rfl,rfl⟩;apply jjT;exact rfl;rintro w' hq;have:=D14.ext hq;have:=hq.toStep;refine jm (jn rfl (jz ?_));exact ⟨rfl,rfl⟩;apply jjT;exact rfl;rintro w' hq;have:=D14.ext hq;have:=hq.toStep;refine jN rfl rfl rfl (jz ?_);exact ⟨rfl,rfl⟩;apply jjT;exact rfl;rintro w' hq;have:=D14.ext hq;have:=hq.toStep;refine jY rfl rfl (by omega) (jz ?_);exact ⟨rfl,rfl⟩;apply jjT;exact rfl;rintro w' hq;have:=D14.ext hq;have:=hq.toStep;refine jJ (eI rfl) (jz ?_);exact ⟨rfl,rfl⟩;apply jjT;exact rfl;rintro w' hq;have:=D14.ext hq;have:=hq.toStep;refine jJ (eI rfl) (jz ?_);exact ⟨rfl,rfl⟩;refine jjU ?_))))
 refine jjX (by decide +kernel) hu7.ext ?_
 skip
 exact ⟨rfl,by (((iterate 76 refine Same.upd rfl ?_);exact Same.ovN)),0,by omega,3,_,congrArg (Value.int .i64) (by omega),congrArg (Value.int .i64) (by omega),rfl,rfl,by omega,hOn6.trans (.ofExt hu7.ext),hK6.ext hu7.ext,fun h=>by omega,fun _=>⟨a6,c6,_,rfl,hO6.row.ext hu7.ext⟩⟩

set_option maxHeartbeats 4000000 in
theorem alike1_leaf (x y:Ch) (w:World) (h1:x.1=y.1) (h2:x.2.2.2.length=y.2.2.2.length):Ct Tryz.prog 176 [encCh x,encCh y] w fun v _=>v=.bool true:=by
 refine Ct.ofW (by simp) ?_
 (refine jjB (jjC ?_))
 (refine jy rfl ?_;intro b2 w_b2 hb_b2 hs_b2 hS_b2 hk_b2;have hA_b2:=At.ofBlock hk_b2)
 skip
 (refine jy rfl ?_;intro b3 w_b3 hb_b3 hs_b3 hS_b3 hk_b3;have hA_b3:=At.ofBlock hk_b3)
 have A2:At w_b3 b2 0 [.int .i64 x.1,.slice x.2.1 x.2.2.2.length x.2.2.1]:=(At.ofBlock hk_b2).ext hS_b3.ext
 have A3:At w_b3 b3 0 [.int .i64 y.1,.slice y.2.1 y.2.2.2.length y.2.2.1]:=At.ofBlock hk_b3
 (refine jJ (eB rfl) (jz (jjB (jjC (jm (jn rfl ?_)))));refine jN rfl rfl rfl (jm (jn rfl (jN rfl rfl rfl (jjh rfl rfl (by omega) (jI (eB rfl) ?_)))));refine jT rfl rfl rfl (jm (jn rfl (jT rfl rfl rfl (jN rfl rfl rfl (jT rfl rfl rfl ?_)))));refine jh rfl (jT rfl rfl rfl (jm (jn rfl (jT rfl rfl rfl (jN rfl rfl rfl ?_)))));refine jT rfl rfl rfl (jh rfl (jT rfl rfl rfl (jjh rfl rfl (by omega) (jK rfl (eB rfl) (jJ (eB rfl) ?_)))));refine jz (jjF ?_);refine jB rfl rfl ⟨inferInstance,?_⟩)
 exact rfl
set_option maxHeartbeats 4000000 in
theorem EqualFunc_chs (a1 a2:Option Addr) (c1 c2:Nat) (xs ys:List Ch) (w:World) [hx:RowI w (.slice a1 xs.length c1) true 2 (xs.map encCh)] [hy:RowI w (.slice a2 ys.length c2) true 2 (ys.map encCh)] (hl:xs.length=ys.length) (hlen:xs.length≤1000000) (hall:∀ k (h:k<xs.length),xs[k].1=(ys[k]'(by omega)).1∧xs[k].2.2.2.length=(ys[k]'(by omega)).2.2.2.length) :
  Ct Tryz.prog 175 [.slice a1 xs.length c1,.slice a2 ys.length c2,.func (.func 176) #[] #[]] w fun v _=>v=.bool true:=by
 refine Ct.ofW (by simp) ?_
 (refine jjB (jjC (jJ (eB rfl) (jz (jjB (jjB ?_)))));refine jjC (jI (eS rfl) (jh rfl (jI (eS rfl) (jh rfl (jjk rfl rfl (by omega) ?_)))));refine jz (jjK rfl (jjG (jjB (jjB (jjC ?_)))));refine jI (eS rfl) (jh rfl (jI (eI rfl) (jz (jjD ?_)))))
 refine W.keep0 [(0,.slice a1 xs.length c1),(1,.slice a2 ys.length c2),(2,.func (.func 176) #[] #[]),(15,.slice a1 xs.length c1),(16,.int .i64 (xs.length:Int)),(17,.int .i64 ((0:Nat):Int))] ⟨eS rfl,eS rfl,eF rfl,eS rfl,eI rfl,eI rfl,trivial⟩ fun s0=>?_
 refine W.loop (18::19::20::21::8::7::22::23::24::25::9::26::27::28::29::30::6::31::17::[]) (fun g s' V=>∃ k:Nat,s' 17=.int .i64 ((k:Nat):Int)∧g=xs.length-k∧k≤xs.length) xs.length ⟨0,rfl,rfl,Nat.zero_le _⟩ ?_
 rintro _ sd w1 hS1 ⟨k,h17,rfl,hk⟩
 refine W.fix h17 ?_
 clear h17
 by_cases hk1:k<xs.length
 rotate_left
 ·(refine jjB (jjC (jja rfl rfl (by omega) (jz (jjB (jjK rfl ?_)))));refine jjE (jjB (jjC (jJ (eB rfl) (jz (jjF ?_)))));refine jB rfl rfl ⟨inferInstance,?_⟩)
  exact rfl
 have hk2:k<ys.length:=by omega
 (refine jjB (jjC (jjZ rfl rfl (by omega) (jz (jjB (jjJ rfl ?_)))));refine jjG (jjB (jjD (jjB (jjC (jI (eI rfl) ?_)))));refine jF rfl rfl rfl (map_get (by omega)) ?_;intro _ _ _;refine jQ rfl rfl ?_)
 ((skip);refine jjY ?_;intro b8 w_b8 hb_b8 hs_b8 hS_b8 hk_b8;have hA_b8:=Bk.of hk_b8)
 (apply jJ;exact eI rfl)
 refine Ops.store rfl rfl rfl rfl rfl ?_
 intro V2 hp2
 have A8:At V2 b8 0 [.int .i64 xs[k].1,.slice xs[k].2.1 xs[k].2.2.2.length xs[k].2.2.1]:=Bk.toAt (h:=⟨hp2.new⟩)
 have e2:Ext w1 V2:=hp2.ext hS_b8.ext (by omega)
 have e2':=e2.toStep
 (refine jz (jjB (jjC (jI (eS rfl) (jI (eI rfl) ?_))));refine jF rfl rfl rfl (map_get (by omega)) ?_;intro _ _ _;refine jQ rfl rfl ?_)
 (apply jjR rfl;(intro _;first|exact eI rfl|exact eB rfl|exact eP rfl|exact eS rfl|exact eT rfl|exact eA rfl|exact eU rfl|exact eF rfl|exact eM rfl|exact eN rfl|exact rfl);exact rfl;exact rfl;exact rfl;exact rfl;intro b9 w_b9 hb_b9 hs_b9 hS_b9 hk_b9;have hA_b9:=Bk.of hk_b9)
 have A9:At w_b9 b9 0 [.int .i64 ys[k].1,.slice ys[k].2.1 ys[k].2.2.2.length ys[k].2.2.1]:=Bk.toAt (h:=hA_b9)
 have A8':At w_b9 b8 0 [.int .i64 xs[k].1,.slice xs[k].2.1 xs[k].2.2.2.length xs[k].2.2.1]:=A8.ext hS_b9.ext
 (refine jz (jjB (jjC (jI (eF rfl) (jO rfl rfl rfl rfl (jO rfl rfl rfl rfl ?_))))))
 refine jjQ (alike1_leaf xs[k] ys[k] _ (hall k hk1).1 (hall k hk1).2) rfl rfl ?_
 rintro _ w3 hS3 rfl
 (refine jp rfl (jz (jjK rfl (jjG (jjC (jY rfl rfl (by omega) ?_)))));refine jI (eI rfl) (jz ?_))
 exact ⟨rfl,by (((iterate 19 refine Same.upd rfl ?_);exact Same.ovN)),xs.length-(k+1),by omega,hS1.ext.trans (e2.trans (hS_b9.ext.trans hS3.ext)),k+1,congrArg (Value.int .i64) (by omega),rfl,by omega⟩
set_option maxHeartbeats 4000000 in
theorem alike_leaf (a1 a2:Option Addr) (c1 c2:Nat) (cs ds:List Ch) (w:World) [hr1:RowI w (.slice a1 cs.length c1) true 2 (cs.map encCh)] [hT1:TextI w cs] [hr2:RowI w (.slice a2 ds.length c2) true 2 (ds.map encCh)] [hT2:TextI w ds] (h1:SmallT cs) (h2:SmallT ds) (t1:textB (txF cs)=true) (t2:textB (txF ds)=true) (hl:cs.length=ds.length) (hall:∀ k (h:k<cs.length),cs[k].1=(ds[k]'(by omega)).1∧cs[k].2.2.2.length=(ds[k]'(by omega)).2.2.2.length) :
  Ct Tryz.prog 173 [.agg #[.slice a1 cs.length c1],.agg #[.slice a2 ds.length c2]] w fun v _=>v=.int .i64 0:=by
 have hlen:=h1.1
 refine Ct.ofW (by simp) ?_
 (refine jjB (jjC ?_))
 (refine jy rfl ?_;intro b2 w_b2 hb_b2 hs_b2 hS_b2 hk_b2;have hA_b2:=At.ofBlock hk_b2)
 skip
 (refine jy rfl ?_;intro b3 w_b3 hb_b3 hs_b3 hS_b3 hk_b3;have hA_b3:=At.ofBlock hk_b3)
 have A2:At w_b3 b2 0 [.slice a1 cs.length c1]:=(At.ofBlock hk_b2).ext hS_b3.ext
 have A3:At w_b3 b3 0 [.slice a2 ds.length c2]:=At.ofBlock hk_b3
 (refine jJ (eI rfl) (jz (jjB (jjB (jjC (jO rfl rfl rfl rfl ?_))))))
 refine jjQ ((Check_leaf a1 c1 cs _ h1).mono fun v _ _ h=>h.trans (by rw [t1])) rfl rfl ?_
 rintro _ w1 hS1 rfl
 (refine jc rfl rfl (jI (eB rfl) (jT rfl rfl rfl (jO rfl rfl rfl rfl (jT rfl rfl rfl ?_)))))
 refine jjQ ((Check_leaf a2 c2 ds _ h2).mono fun v _ _ h=>h.trans (by rw [t2])) rfl rfl ?_
 rintro _ w2 hS2 rfl
 (refine jT rfl rfl rfl (jc rfl rfl (jL rfl (eB rfl) (jz (jjK rfl (jjG ?_)))));refine jjB (jjC (jm (jn rfl (jN rfl rfl rfl (jm ?_)))));refine jn rfl (jN rfl rfl rfl ?_))
 refine jjQ (EqualFunc_chs a1 a2 c1 c2 cs ds _ hl (by omega) hall) rfl rfl ?_
 rintro _ w3 hS3 rfl
 (refine jJ (eB rfl) (jz (jjB (jjB (jjC (jI (eB rfl) ?_)))));refine jp rfl (jz (jjK rfl (jjG (jjB (jjC ?_)))));refine jJ (eI rfl) (jz (jjF ?_));refine jB rfl rfl ⟨inferInstance,?_⟩)
 exact rfl
set_option maxHeartbeats 8000000 in
theorem apAll_leaf (a1 a2 xa ya:Option Addr) (c1 c2 xc yc:Nat) (xi yi:Int) (l m:Ln) (w:World) [hr1:RowI w (.slice a1 1 c1) true 2 [encCh (xi,xa,xc,[l])]] [hT1:TextI w [(xi,xa,xc,[l])]] [hr2:RowI w (.slice a2 1 c2) true 2 [encCh (yi,ya,yc,[m])]] [hT2:TextI w [(yi,ya,yc,[m])]]
  (hA:l.2.2.length=3) (hB:m.2.2.length=3) (h0:l.2.2[0]?=m.2.2[0]?) (h1:l.2.2[1]?=m.2.2[1]?) (h2:l.2.2[2]?≠m.2.2[2]?) :
  Ct Tryz.prog 174 [.agg #[.slice a1 1 c1],.agg #[.slice a2 1 c2]] w fun v w'=>∃ (a:Option Addr) (c:Nat),v=.slice a 1 c:=by
 obtain ⟨p1,o1,rfl,P1⟩:=hr1.h.place' (j:=0) rfl
 obtain ⟨p2,o2,rfl,P2⟩:=hr2.h.place' (j:=0) rfl
 have hl1:=hT1.lines _ (List.mem_singleton.2 rfl)
 have hl2:=hT2.lines _ (List.mem_singleton.2 rfl)
 have hw1:=hT1.words _ (List.mem_singleton.2 rfl) l (List.mem_singleton.2 rfl)
 have hw2:=hT2.words _ (List.mem_singleton.2 rfl) m (List.mem_singleton.2 rfl)
 obtain ⟨p3,o3,rfl,P3⟩:=hl1.place' (j:=0) rfl
 obtain ⟨p4,o4,rfl,P4⟩:=hl2.place' (j:=0) rfl
 refine Ct.ofW (by simp) ?_
 (refine jjB (jjC ?_))
 (refine jy rfl ?_;intro b2 w_b2 hb_b2 hs_b2 hS_b2 hk_b2;have hA_b2:=At.ofBlock hk_b2)
 skip
 (refine jy rfl ?_;intro b3 w_b3 hb_b3 hs_b3 hS_b3 hk_b3;have hA_b3:=At.ofBlock hk_b3)
 have A2:At w_b3 b2 0 [.slice (some ⟨p1,o1,none⟩) 1 c1]:=(At.ofBlock hk_b2).ext hS_b3.ext
 have A3:At w_b3 b3 0 [.slice (some ⟨p2,o2,none⟩) 1 c2]:=At.ofBlock hk_b3
 have e3:Ext w w_b3:=hS_b2.ext.trans hS_b3.ext
 (refine jJ (eS rfl) (jz (jjB (jjC (jJ (eS rfl) (jz ?_)))));refine jjB (jjB (jjC (jm (jn rfl (jN rfl rfl rfl ?_)))));refine jh rfl (jI (eI rfl) (jz (jjD ?_))))
 refine W.keep0 [(2,.pointer (some ⟨b2,0,none⟩)),(3,.pointer (some ⟨b3,0,none⟩)),(5,.slice none 0 0),(10,.slice (some ⟨p1,o1,none⟩) 1 c1),(11,.int .i64 1),(12,.int .i64 ((0:Nat):Int))] ⟨eP rfl,eP rfl,eS rfl,eS rfl,eI rfl,eI rfl,trivial⟩ fun s0=>?_
 refine W.loop (13::14::15::16::7::6::17::18::19::20::21::22::8::23::24::25::26::27::28::29::30::31::32::33::34::35::36::37::38::39::40::41::42::5::43::44::12::[]) (fun g s' V=>∃ (k:Nat) (lv:Value),s' 12=.int .i64 (k:Int)∧s' 5=lv∧g=1-k∧k≤1∧(k=0→lv=.slice none 0 0)∧(k=1→∃ (a:Option Addr) (c:Nat),lv=.slice a 1 c)) 1 ⟨0,_,rfl,rfl,rfl,by omega,fun _=>rfl,fun h=>by omega⟩ ?_
 rintro _ sd V hSV ⟨k,lv,h12,h5,rfl,hk,hk0,hk1⟩
 by_cases hkz:k=1
 ·subst hkz
  obtain ⟨a,c,rfl⟩:=hk1 rfl
  refine W.fix h12 (W.fix (d:=5) h5 ?_)
  clear h12 h5
  (refine jjB (jjC (jja rfl rfl (by omega) (jz (jjB (jjK rfl ?_)))));refine jjE (jjB (jjC (jI (eS rfl) (jJ (eS rfl) (jz ?_)))));refine jjF ?_;refine jB rfl rfl ⟨inferInstance,?_⟩)
  exact ⟨a,c,rfl⟩
 obtain rfl:k=0:=by omega
 obtain rfl:=hk0 rfl
 refine W.fix h12 (W.fix (d:=5) h5 ?_)
 clear h12 h5
 have eV:=e3.trans hSV.ext
 have Q1:=P1.ext eV
 (refine jjB (jjC (jjZ rfl rfl (by omega) (jz (jjB (jjJ rfl ?_)))));refine jjG (jjB (jjD (jjB (jjC (jI (eI rfl) ?_))))))
 refine jH 0 rfl rfl rfl (by omega) ?_
 (refine jQ rfl rfl ?_)
 ((skip);refine jjY ?_;intro b7 w_b7 hb_b7 hs_b7 hS_b7 hk_b7;have hA_b7:=Bk.of hk_b7)
 (apply jJ;exact eI rfl)
 refine Ops.store rfl rfl rfl rfl rfl ?_
 intro V2 hp2
 have A7:At V2 b7 0 [.int .i64 xi,.slice (some ⟨p3,o3,none⟩) 1 xc]:=Bk.toAt (h:=⟨hp2.new⟩)
 have e2:Ext V V2:=hp2.ext hS_b7.ext (by omega)
 have e2':=e2.toStep
 (refine jz (jjB (jjC (jm (jn rfl (jN rfl rfl rfl ?_)))));refine jh rfl (jI (eI rfl) (jz (jjD ?_))))
 refine W.keep [(2,.pointer (some ⟨b2,0,none⟩)),(3,.pointer (some ⟨b3,0,none⟩)),(5,.slice none 0 0),(6,.int .i64 0),(7,.pointer (some ⟨b7,0,none⟩)),(10,.slice (some ⟨p1,o1,none⟩) 1 c1),(11,.int .i64 1),(12,.int .i64 0),(19,.int .i64 1),(20,.int .i64 ((0:Nat):Int))] (D:=(13::14::15::16::7::6::17::18::19::20::21::22::8::23::24::25::26::27::28::29::30::31::32::33::34::35::36::37::38::39::40::41::42::5::43::44::12::[])) (sO:=upds s0 _) (by (((iterate 12 refine Same.upd rfl ?_);exact Same.ovN))) ⟨eP rfl,eP rfl,eS rfl,eI rfl,eP rfl,eS rfl,eI rfl,eI rfl,eI rfl,eI rfl,trivial⟩ fun s1 hs1=>?_
 refine W.loop (21::22::8::23::24::25::26::27::28::29::30::31::32::33::34::35::36::37::38::39::40::41::42::5::43::20::[]) (fun g s' U=>∃ (n:Nat) (lv:Value),s' 20=.int .i64 (n:Int)∧s' 5=lv∧g=1-n∧n≤1∧(n=0→lv=.slice none 0 0)∧(n=1→∃ (a:Option Addr) (c:Nat),lv=.slice a 1 c)) 1 ⟨0,_,rfl,rfl,rfl,by omega,fun _=>rfl,fun h=>by omega⟩ ?_
 rintro _ sd1 U hSU ⟨n,lv,h20,h5,rfl,hn,hn0,hn1⟩
 by_cases hnz:n=1
 ·subst hnz
  obtain ⟨a,c,rfl⟩:=hn1 rfl
  refine W.fix h20 (W.fix (d:=5) h5 ?_)
  clear h20 h5
  (refine jjB (jjC (jja rfl rfl (by omega) (jz (jjB (jjK rfl ?_)))));refine jjE (jjC (jY rfl rfl (by omega) (jI (eI rfl) (jz ?_)))))
  exact ⟨rfl,by (((iterate 5 refine Same.upd rfl ?_);refine Same.ovN' rfl ?_;assumption)),0,by omega,hSV.ext.trans (e2.trans hSU.ext),1,_,rfl,rfl,rfl,by omega,fun h=>by omega,fun _=>⟨a,c,rfl⟩⟩
 obtain rfl:n=0:=by omega
 obtain rfl:=hn0 rfl
 refine W.fix h20 (W.fix (d:=5) h5 ?_)
 clear h20 h5
 have eU:=eV.trans (e2.trans hSU.ext)
 have B7:=A7.ext hSU.ext
 have B3:=A3.ext (hSV.ext.trans (e2.trans hSU.ext))
 have hel:encLn l=.slice l.1 3 l.2.1:=by rw [encLn,hA]
 have hem:encLn m=.slice m.1 3 m.2.1:=by rw [encLn,hB]
 have B1:At U p3 (o3+0 * 1) [.slice l.1 3 l.2.1]:=by rw [←hel];exact P3.ext eU
 have B2:=P2.ext eU
 have B4:At U p4 (o4+0 * 1) [.slice m.1 3 m.2.1]:=by rw [←hem];exact P4.ext eU
 (refine jjB (jjC (jjZ rfl rfl (by omega) (jz (jjB (jjJ rfl ?_)))));refine jjG (jjB (jjD (jjB (jjC (jI (eI rfl) ?_)))));refine jJ (eI rfl) (jz ?_))
 refine W.draw (fun w'=>Ext U w') ?_
 intro u1 hu1
 (refine jjV [0,1,2,3] ?_ ?_ ?_;(decide +kernel);(exact hu1.ext);(((apply jjT;exact rfl;rintro w' hq;have:=B7.ext hq;have:=hq.toStep;refine jI (eS rfl) (jz ?_);exact ⟨rfl,rfl⟩;apply jjT;exact rfl;rintro w' hq;have:=B7.ext hq;have:=hq.toStep;refine jm (jn rfl (jz ?_));exact ⟨rfl,rfl⟩;apply jjT;exact rfl;rintro w' hq;have:=B7.ext hq;have:=hq.toStep;refine jN rfl rfl rfl (jz ?_);exact ⟨rfl,rfl⟩;apply jjT;exact rfl;rintro w' hq;have:=B7.ext hq;have:=hq.toStep;refine jI (eI rfl) (jz ?_);exact ⟨rfl,rfl⟩;refine jjU ?_))))
 refine jjV [4] (by decide +kernel) hu1.ext (jjT (v:=.pointer (some ⟨p3,o3,none⟩)) rfl (fun w' q1=>?_) (jjU ?_));(refine jH 0 rfl rfl rfl (by omega) ?_;refine jz ?_;exact ⟨rfl,rfl⟩)
 refine jjV [5] (by decide +kernel) hu1.ext (jjT (v:=.slice l.1 3 l.2.1) rfl (fun w' q1=>?_) (jjU ?_));(refine jR ((B1.ext q1).get (i:=0) rfl) rfl rfl ?_;refine jz ?_;exact ⟨rfl,rfl⟩)
 (refine jjV [6,7,8] ?_ ?_ ?_;(decide +kernel);(exact hu1.ext);(((apply jjT;exact rfl;rintro w' hq;have:=B3.ext hq;have:=hq.toStep;refine jm (jn rfl (jz ?_));exact ⟨rfl,rfl⟩;apply jjT;exact rfl;rintro w' hq;have:=B3.ext hq;have:=hq.toStep;refine jN rfl rfl rfl (jz ?_);exact ⟨rfl,rfl⟩;apply jjT;exact rfl;rintro w' hq;have:=B3.ext hq;have:=hq.toStep;refine jI (eI rfl) (jz ?_);exact ⟨rfl,rfl⟩;refine jjU ?_))))
 refine jjV [9] (by decide +kernel) hu1.ext (jjT (v:=.pointer (some ⟨p2,o2,none⟩)) rfl (fun w' q1=>?_) (jjU ?_));(refine jH 0 rfl rfl rfl (by omega) ?_;refine jz ?_;exact ⟨rfl,rfl⟩)
 (refine jjV [10] ?_ ?_ ?_;(decide +kernel);(exact hu1.ext);(((apply jjT;exact rfl;rintro w' hq;have:=hq.toStep;refine jm (jn rfl (jz ?_));exact ⟨rfl,rfl⟩;refine jjU ?_))))
 refine jjV [11] (by decide +kernel) hu1.ext (jjT (v:=.slice (some ⟨p4,o4,none⟩) 1 yc) rfl (fun w' q1=>?_) (jjU ?_));(refine jR ((B2.ext q1).get (i:=1) rfl) rfl rfl ?_;refine jz ?_;exact ⟨rfl,rfl⟩)
 (refine jjV [12] ?_ ?_ ?_;(decide +kernel);(exact hu1.ext);(((refine jjT rfl (fun _ _=>jI (eI rfl) (jz ⟨rfl,rfl⟩)) (jjU ?_)))))
 refine jjV [13] (by decide +kernel) hu1.ext (jjT (v:=.pointer (some ⟨p4,o4,none⟩)) rfl (fun w' q1=>?_) (jjU ?_));(refine jH 0 rfl rfl rfl (by omega) ?_;refine jz ?_;exact ⟨rfl,rfl⟩)
 refine jjV [14] (by decide +kernel) hu1.ext (jjT (v:=.slice m.1 3 m.2.1) rfl (fun w' q1=>?_) (jjU ?_));(refine jR ((B4.ext q1).get (i:=0) rfl) rfl rfl ?_;refine jz ?_;exact ⟨rfl,rfl⟩)
 (refine jjV [15,16] ?_ ?_ ?_;(decide +kernel);(exact hu1.ext);(((refine jjT rfl (fun _ _=>jI (eI rfl) (jz ⟨rfl,rfl⟩)) (jjT rfl (fun _ _=>jI (eI rfl) (jz ⟨rfl,rfl⟩)) (jjU ?_))))))
 refine jjV [17] (by decide +kernel) hu1.ext (jjT (v:=encPl (0,0,0)) rfl (fun w' q1=>?_) (jjU ?_));(refine jjS (cells:=[.int .i64 0,.int .i64 0,.int .i64 0]) ?_ ?_;exact rfl;refine jz ?_;exact ⟨rfl,rfl⟩)
 (apply jjW 18;(decide +kernel);exact rfl;(exact hu1.ext))
 have R1:RowV u1 false 1 (.slice l.1 3 l.2.1) (l.2.2.map strV):=by have:=hw1.ext (eU.trans hu1.ext);rw [encLn,hA] at this;exact this
 have R2:RowV u1 false 1 (.slice m.1 3 m.2.1) (m.2.2.map strV):=by have:=hw2.ext (eU.trans hu1.ext);rw [encLn,hB] at this;exact this
 refine jjQ (readings_leaf l.1 m.1 l.2.1 m.2.1 l.2.2 m.2.2 (0,0,0) _ hA hB h0 h1 h2 R1 R2) rfl rfl ?_
 rintro _ w5 hS5 ⟨a5,c5,x5,rfl,hR5⟩
 refine jz ?_
 have e5:Ext U w5:=hu1.ext.trans hS5.ext
 (apply jjW 19;(decide +kernel);exact rfl;(exact e5))
 refine Ops.appendL (OwnL.nil w5 w5.heap.size 186 true 5) (Nat.le_refl _) hR5 rfl rfl rfl rfl rfl ?_ ?_ ?_
 ·simp
 ·simp
 intro v6 w6 hA6 hO6 _ _
 obtain ⟨a6,c6,rfl⟩:=hO6.slice
 have e6:Ext U w6:=hA6.ext e5 e5.size
 refine jz ?_
 (refine jjV [20] ?_ ?_ ?_;(decide +kernel);(exact e6);(((refine jjT rfl (fun _ _=>jJ (eS rfl) (jz ⟨rfl,rfl⟩)) (jjU ?_)))))
 refine jjX (by decide +kernel) e6 ?_
 (refine jjC (jY rfl rfl (by omega) (jI (eI rfl) (jz ?_))))
 exact ⟨rfl,by (((iterate 28 refine Same.upd rfl ?_);exact Same.ovN)),0,by omega,hSU.ext.trans e6,1,_,rfl,rfl,rfl,by omega,fun h=>by omega,fun _=>⟨a6,c6,rfl⟩⟩
theorem one_line {cs:List Ch} {x:List ByteArray} (h:txF cs=[(0,[x])]):∃ (xa:Option Addr) (xc:Nat) (l:Ln),cs=[(0,xa,xc,[l])]∧l.2.2=x:=by
 match cs,h with
 | [(i,xa,xc,ls)],h =>
   simp only [txF,List.map_cons,List.map_nil,txC,List.cons.injEq,Prod.mk.injEq,and_true] at h
   obtain ⟨rfl,h⟩:=h
   match ls,h with
   | [l],h =>
     simp only [List.map_cons,List.map_nil,List.cons.injEq,and_true] at h
     exact ⟨xa,xc,l,rfl,h⟩
 | [],h=>simp [txF] at h
 | _::_::_,h=>simp [txF] at h
set_option maxHeartbeats 4000000 in
theorem Apart_leaf (a1 a2:Option Addr) (c1 c2:Nat) (cs ds:List Ch) (x y:List ByteArray) (w:World) [hr1:RowI w (.slice a1 cs.length c1) true 2 (cs.map encCh)] [hT1:TextI w cs] [hr2:RowI w (.slice a2 ds.length c2) true 2 (ds.map encCh)] [hT2:TextI w ds] (s1:SmallT cs) (s2:SmallT ds) (t1:textB (txF cs)=true) (t2:textB (txF ds)=true) (h1:txF cs=[(0,[x])]) (h2:txF ds=[(0,[y])])
  (hA:x.length=3) (hB:y.length=3) (g0:x[0]?=y[0]?) (g1:x[1]?=y[1]?) (g2:x[2]?≠y[2]?) :
  Ct Tryz.prog 171 [.agg #[.slice a1 cs.length c1],.agg #[.slice a2 ds.length c2]] w fun v _=>v=.tuple #[.int .i64 1,.int .i64 0]:=by
 obtain ⟨xa,xc,l,rfl,rfl⟩:=one_line h1
 obtain ⟨ya,yc,m,rfl,rfl⟩:=one_line h2
 have i1:RowI w (.slice a1 1 c1) true 2 [encCh (0,xa,xc,[l])]:=hr1
 have i2:RowI w (.slice a2 1 c2) true 2 [encCh (0,ya,yc,[m])]:=hr2
 refine Ct.ofW (by simp) ?_
 (refine jjB (jjC ?_))
 (refine jy rfl ?_;intro b2 w_b2 hb_b2 hs_b2 hS_b2 hk_b2;have hA_b2:=At.ofBlock hk_b2)
 skip
 (refine jy rfl ?_;intro b3 w_b3 hb_b3 hs_b3 hS_b3 hk_b3;have hA_b3:=At.ofBlock hk_b3)
 have A2:At w_b3 b2 0 [.slice a1 1 c1]:=(At.ofBlock hk_b2).ext hS_b3.ext
 have A3:At w_b3 b3 0 [.slice a2 1 c2]:=At.ofBlock hk_b3
 (refine jJ (eI rfl) (jJ (eI rfl) (jz (jjB (jjB (jjC ?_)))));refine jO rfl rfl rfl rfl (jO rfl rfl rfl rfl ?_))
 refine jjQ (alike_leaf a1 a2 c1 c2 [(0,xa,xc,[l])] [(0,ya,yc,[m])] _ s1 s2 t1 t2 rfl (fun k h=>by
  obtain rfl:k=0:=by simp at h;omega
  exact ⟨rfl,rfl⟩)) rfl rfl ?_
 rintro _ w4 hS4 rfl
 (refine jJ (eI rfl) (jz (jjB (jjC (jI (eI rfl) (jjk rfl rfl (by omega) ?_)))));refine jz (jjK rfl (jjG (jjB (jjC (jO rfl rfl rfl rfl ?_)))));refine jO rfl rfl rfl rfl ?_)
 refine jjQ (apAll_leaf a1 a2 xa ya c1 c2 xc yc 0 0 l m _ hA hB g0 g1 g2) rfl rfl ?_
 rintro _ w5 hS5 ⟨a5,c5,rfl⟩
 (refine jh rfl (jJ (eI rfl) (jJ (eI rfl) (jz (jjF ?_))));refine jC rfl rfl rfl ⟨inferInstance,?_⟩)
 exact rfl

abbrev Wr:=Int×Int×Bool
abbrev encWr (x:Wr):Value:=.agg #[.int .i64 x.1,.int .i64 x.2.1,.bool x.2.2]
section
variable {P:Program}
theorem eqBool (w:World) (d:Nat) {t:Nat} (u:TU P t .bool) (a b:Bool):(Op.equalIn (d+1) t (.bool a) (.bool b)).run P w=.ok (decide (a=b)) w:=by
 rw [run_equalIn_bool w d t a b u.h]
 cases a<;>cases b<;>rfl
theorem eqIn_wr {t:Nat} {f0 f1 f2:Field} (hu:P.underlying t=some (.struct #[f0,f1,f2])) (h0:f0.name ≠ "_") (h0':f0.offset=0) (h1:f1.name ≠ "_") (h1':f1.offset=1) (h2:f2.name ≠ "_") (h2':f2.offset=2)
  (u0:TU P f0.type (.int .i64)) (u1:TU P f1.type (.int .i64)) (u2:TU P f2.type .bool) (hp:P.stoodInHeld t=false) (w:World) (d:Nat) (a b:Wr):(Op.equalIn (d+2) t (encWr a) (encWr b)).run P w=.ok (decide (a=b)) w:=by
 have hf:P.fieldsOf t=#[f0,f1,f2]:=by simp [Program.fieldsOf,hu]
 have ht:P.underlying t=some (.struct (P.fieldsOf t)):=by rw [hf];exact hu
 rw [run_equalIn_struct w (d+1) t _ _ ht hp,hf]
 obtain ⟨a1,a2,a3⟩:=a
 obtain ⟨b1,b2,b3⟩:=b
 rw [eqFields_cons h0 (part_cell u0 rfl (by rw [h0'];rfl)) (part_cell u0 rfl (by rw [h0'];rfl)) (eqInt w d u0 a1 b1)]
 by_cases c0:a1=b1
 ·rw [decide_eq_true c0,if_pos rfl,eqFields_cons h1 (part_cell u1 rfl (by rw [h1'];rfl)) (part_cell u1 rfl (by rw [h1'];rfl)) (eqInt w d u1 a2 b2)]
  by_cases c1:a2=b2
  ·rw [decide_eq_true c1,if_pos rfl,eqFields_cons h2 (part_cell u2 rfl (by rw [h2'];rfl)) (part_cell u2 rfl (by rw [h2'];rfl)) (eqBool w d u2 a3 b3)]
   by_cases c2:a3=b3
   ·simp [c0,c1,c2,Op.eqFields]
   ·simp [c2]
  ·simp [c1]
 ·simp [c0]
theorem eqT_wr {t:Nat} (h:∀ (w:World) (d:Nat) (a b:Wr),(Op.equalIn (d+2) t (encWr a) (encWr b)).run P w=.ok (decide (a=b)) w) (hg:P.eqGuardType P.depth t=false):EqT P t encWr where
 eq w a b:=h w 9998 a b
 guard op x y w a b:=by
  cases op<;>simp [encWr,eqGuard,hg]
 kind a b:=⟨fun w=>by simp [encWr,binOp],fun w=>by simp [encWr,binOp]⟩
end
theorem eqIn_writer (w:World) (d:Nat) (a b:Wr):(Op.equalIn (d+2) 163 (encWr a) (encWr b)).run Tryz.prog w=.ok (decide (a=b)) w :=
 eqIn_wr Tryz.underlying163 (by decide) rfl (by decide) rfl (by decide) rfl inferInstance inferInstance inferInstance (of_decide_eq_true (by kernel_rfl)) w d a b
instance eqT_writer:EqT Tryz.prog 163 encWr:=eqT_wr eqIn_writer (of_decide_eq_true (by kernel_rfl))
theorem chk_writer (em:Bool) (w:World) (n:Nat) (p:Wr):(Instr.checkKey em (n+2) 163 (encWr p)).run Tryz.prog w=.ok () w:=by
 have h:=Tryz.underlying163
 have hi:=Tryz.underlying3
 have hb:=Tryz.underlying4
 simp [Instr.checkKey,run_underlying h,run_underlying hi,run_underlying hb,part,run_isAgg w tu3,run_isAgg w tu4,TypeDesc.isAgg]
instance keyL_writer:KeyL Tryz.prog 163 encWr:=keyL_struct Tryz.underlying163 (fun k=>⟨_,rfl⟩) (fun em w k=>chk_writer em w 9998 k) (fun k=>by simp [Instr.sameBits])

theorem Clone_str (a:Option Addr) (c:Nat) (l:List ByteArray) (w:World) (hl:l.length≤1000000) [hrow:RowI w (.slice a l.length c) false 1 (l.map strV)] :
  Ct Tryz.prog 74 [.slice a l.length c] w fun v w'=>∃ (a2:Option Addr) (c2:Nat),v=.slice a2 l.length c2∧RowV w' false 1 (.slice a2 l.length c2) (l.map strV):=by
 refine Ct.ofW (by simp) ?_
 (refine jjB (jjC (jJ (eS rfl) (jz (jjB (jjB ?_)))));refine jjC (jI (eS rfl) ?_))
 refine Ops.eqlNil rfl rfl ?_
 repeat' (first|(apply jJ;exact eS rfl)|refine jz ?_|(refine jjA ?_;(first|refine jjB ?_|refine jjC ?_|refine jjF ?_|refine jjG ?_))|(refine jjA ?_;(refine jjO rfl ?_ ?_<;>intro _))|refine jB rfl rfl ⟨inferInstance,?_⟩)
 ·obtain rfl:a=none:=by cases a with
   | none=>rfl
   | some x=>cases ‹(some x).isNone=true›
  have e:l=[]:=by have:=row_none hrow.h;simpa using this
  subst e
  exact ⟨none,0,rfl,RowV.nilS _ _ _ _ _⟩
 ·refine Ops.buildSlice0 ?_
  intro b3 w4 hb3 hs4 hS4 hk4
  have hO4:=OwnL.empty (agg:=false) (k:=1) (B:=w.heap.size) (by omega) hk4
  (apply jI;exact eS rfl)
  refine Ops.appendL hO4 (by omega) (hrow.h.ext inferInstance) rfl rfl rfl rfl (all_strC l) ?_ ?_ ?_
  ·simp only [List.length_map,List.length_nil];omega
  ·simp only [List.length_map,List.length_nil];omega
  intro v5 w5 hA hO5 _ _
  rw [List.nil_append] at hO5
  obtain ⟨a5,c5,rfl⟩:=hO5.slice
  rw [List.length_map] at hO5 ⊢
  have hE5:Ext w w5:=hA.ext inferInstance (Nat.le_refl _)
  have hS5:=hE5.toStep
  (refine jJ (eS rfl) (jz (jjF ?_));refine jB rfl rfl ⟨inferInstance,?_⟩)
  exact ⟨a5,c5,rfl,hO5.row⟩
section
variable (a:Option Addr) (c:Nat) (cs:List Ch) (ha:Option Addr) (hc:Nat) (hs:List Hp) (sa:Option Addr) (sc:Nat) (ss:List Shr) (xa:Option Addr) (xc:Nat) (xs:List Sht) (w:World)
 [hrow:RowI w (.slice a cs.length c) true 2 (cs.map encCh)] [hT:TextI w cs] [hhs:RowI w (.slice ha hs.length hc) true 3 (hs.map encHp)] [hss:RowI w (.slice sa ss.length sc) true 4 (ss.map encShr)] [hxs:RowI w (.slice xa xs.length xc) true 2 (xs.map encSht)] [hxi:ShtI w xs]
set_option maxHeartbeats 8000000 in
theorem Line_hand (hsm:SmallT cs) (ht:textB (txF cs)=true) (hp:RoundOk (lnK cs cs.length).length hs ss xs) (n:Nat) (hn:n<(lnK cs cs.length).length):Ct Tryz.prog 34 [.agg #[.slice a cs.length c,.slice ha hs.length hc,.slice sa ss.length sc,.slice xa xs.length xc],.int .i64 (n:Int)] w fun v _=>∃ (a2:Option Addr) (c2:Nat),v=.tuple #[.slice a2 (lnK cs cs.length)[n].2.2.length c2,.int .i64 0]:=by
 have hfew:=hp.few
 have hmem:∀ k,k≤cs.length→∀ y∈lnK cs k,∃ x∈cs,y∈x.2.2.2:=fun k hk y hy=>by
  rw [lnK,List.mem_flatMap] at hy
  obtain ⟨x,hx,hy⟩:=hy
  exact ⟨x,List.mem_of_mem_take hx,hy⟩
 obtain ⟨x,hxm,hym⟩:=hmem cs.length (Nat.le_refl _) _ (List.getElem_mem hn)
 have hwl:=((hsm.2 x hxm).2 _ hym).1
 refine Ct.ofW (by simp) ?_
 (refine jjB (jjC ?_))
 (refine jy rfl ?_;intro b2 w_b2 hb_b2 hs_b2 hS_b2 hk_b2;have hA_b2:=At.ofBlock hk_b2)
 have A2:At w_b2 b2 0 [.slice a cs.length c,.slice ha hs.length hc,.slice sa ss.length sc,.slice xa xs.length xc]:=At.ofBlock hk_b2
 (refine jJ (eS rfl) (jJ (eI rfl) (jz (jjB (jjC (jO rfl rfl rfl rfl ?_))))))
 refine jjQ (open_hand a c cs ha hc hs sa sc ss xa xc xs _ hsm ht hp) rfl rfl ?_
 rintro _ w4 hS4 ⟨bd,rfl,hD⟩
 obtain ⟨la,lc,pa,pc,D1,D2,D3⟩:=hD.h
 (refine jI (eU rfl) (ju rfl rfl (ju rfl rfl (jJ (eP rfl) (jJ (eI rfl) (jz ?_)))));refine jjB (jjB (jjC (jI (eI rfl) (jjk rfl rfl (by omega) (jz ?_)))));refine jjK rfl (jjG (jjB (jjB (jjC (jI (eP rfl) ?_)))));refine jw rfl (jm (jn rfl (jN rfl rfl rfl (jh rfl (jZ rfl rfl (by omega) ?_)))));refine jI (eI rfl) ?_)
 (refine jjP (v:=.int _ _) rfl (by exact rfl) (by exact rfl) (by exact rfl) (by exact rfl) ?_;intro b23 w_b23 hb_b23 hs_b23 hS_b23 hk_b23;have hR_b23:=RowV.one (agg:=false) (k:=1) rfl hk_b23)
 skip
 refine jjQ (inOne_hand 0 (((lnK cs cs.length).length:Int)-1) (n:Int) b23 _ (by omega) hR_b23) rfl rfl ?_
 rintro _ w5 hS5 rfl
 have e5:Ext w4 w5:=hS_b23.ext.trans hS5.ext
 have hEw:Ext w w5:=inferInstance
 have i5:RowI w5 (.slice la (lnK cs cs.length).length lc) false 1 ((lnK cs cs.length).map encLn):=⟨D2.ext e5⟩
 have i6:RowI w5 (.slice (lnK cs cs.length)[n].1 (lnK cs cs.length)[n].2.2.length (lnK cs cs.length)[n].2.1) false 1 ((lnK cs cs.length)[n].2.2.map strV):=⟨(hT.words x hxm _ hym).ext hEw⟩
 (refine jp rfl (jz (jjK rfl (jjG (jjB (jjC ?_)))));refine jI (eP rfl) (jw rfl (jm (jn rfl (jN rfl rfl rfl (jI (eI rfl) ?_)))));refine jF rfl rfl rfl (map_get (by omega)) ?_;intro _ _ _;refine jQ rfl rfl ?_)
 refine jjQ (Clone_str _ _ (lnK cs cs.length)[n].2.2 _ (by omega)) rfl rfl ?_
 rintro _ w6 hS6 ⟨a2,c2,rfl,-⟩
 (refine jJ (eS rfl) (jJ (eI rfl) (jz (jjF ?_)));refine jC rfl rfl rfl ⟨inferInstance,?_⟩)
 exact ⟨a2,c2,rfl⟩
end

section
variable (a:Option Addr) (c:Nat) (cs:List Ch) (ha:Option Addr) (hc:Nat) (hs:List Hp) (sa:Option Addr) (sc:Nat) (ss:List Shr) (xa:Option Addr) (xc:Nat) (xs:List Sht) (w:World)
 [hrow:RowI w (.slice a cs.length c) true 2 (cs.map encCh)] [hT:TextI w cs] [hhs:RowI w (.slice ha hs.length hc) true 3 (hs.map encHp)] [hss:RowI w (.slice sa ss.length sc) true 4 (ss.map encShr)] [hxs:RowI w (.slice xa xs.length xc) true 2 (xs.map encSht)] [hxi:ShtI w xs]
set_option maxHeartbeats 4000000 in
theorem part_hand (hsm:SmallT cs) (ht:textB (txF cs)=true) (hp:RoundOk (lnK cs cs.length).length hs ss xs) (n:Nat) (hn:n<ss.length):Ct Tryz.prog 40 [.agg #[.slice a cs.length c,.slice ha hs.length hc,.slice sa ss.length sc,.slice xa xs.length xc],.int .i64 (n:Int)] w fun v w'=>∃ bd,v=.tuple #[.pointer (some ⟨bd,0,none⟩),.int .i64 0]∧DeskR bd a c cs ha hc hs sa sc ss xa xc xs w':=by
 have hs8:=hp.s1
 refine Ct.ofW (by simp) ?_
 (refine jjB (jjC ?_))
 (refine jy rfl ?_;intro b2 w_b2 hb_b2 hs_b2 hS_b2 hk_b2;have hA_b2:=At.ofBlock hk_b2)
 have A2:At w_b2 b2 0 [.slice a cs.length c,.slice ha hs.length hc,.slice sa ss.length sc,.slice xa xs.length xc]:=At.ofBlock hk_b2
 (refine jJ (eN rfl) (jJ (eI rfl) (jz (jjB (jjC (jO rfl rfl rfl rfl ?_))))))
 refine jjQ (open_hand a c cs ha hc hs sa sc ss xa xc xs _ hsm ht hp) rfl rfl ?_
 rintro _ w4 hS4 ⟨bd,rfl,hD⟩
 obtain ⟨la,lc,pa,pc,D1,D2,D3⟩:=hD.h
 (refine jI (eU rfl) (ju rfl rfl (ju rfl rfl (jJ (eP rfl) (jJ (eI rfl) (jz ?_)))));refine jjB (jjB (jjC (jI (eI rfl) (jjk rfl rfl (by omega) (jz ?_)))));refine jjK rfl (jjG (jjB (jjB (jjC (jI (eP rfl) ?_)))));refine jw rfl (jm (jn rfl (jm (jn rfl (jN rfl rfl rfl ?_)))));refine jh rfl (jZ rfl rfl (by omega) (jI (eI rfl) ?_)))
 (refine jjP (v:=.int _ _) rfl (by exact rfl) (by exact rfl) (by exact rfl) (by exact rfl) ?_;intro b24 w_b24 hb_b24 hs_b24 hS_b24 hk_b24;have hR_b24:=RowV.one (agg:=false) (k:=1) rfl hk_b24)
 skip
 refine jjQ (inOne_hand 0 ((ss.length:Int)-1) (n:Int) b24 _ (by omega) hR_b24) rfl rfl ?_
 rintro _ w5 hS5 rfl
 have e5:Ext w4 w5:=hS_b24.ext.trans hS5.ext
 (refine jp rfl (jz (jjK rfl (jjG (jjB (jjC ?_)))));refine jI (eP rfl) (jJ (eP rfl) (jJ (eI rfl) (jz (jjF ?_))));refine jC rfl rfl rfl ⟨inferInstance,?_⟩)
 exact ⟨bd,rfl,hD.ext (e:=e5)⟩
end
section
variable (bd:Nat) (v0 v4 v5:Value) (ha:Option Addr) (hc:Nat) (sa:Option Addr) (sc:Nat) (ss:List Shr) (xa:Option Addr) (xc:Nat) (xs:List Sht) (w:World)
 [hd:At w bd 0 [v0,.slice ha trH.length hc,.slice sa ss.length sc,.slice xa xs.length xc,v4,v5]] [hhs:RowI w (.slice ha trH.length hc) true 3 (trH.map encHp)] [hss:RowI w (.slice sa ss.length sc) true 4 (ss.map encShr)]
include hd hhs hss in
set_option maxHeartbeats 4000000 in
theorem days_hand {nl:Nat} (hp:PartsOk nl ss xs) (i:Nat) (hi:i<ss.length):Ct Tryz.prog 44 [.pointer (some ⟨bd,0,none⟩),.int .i64 (i:Int),.int .i64 0] w fun v _=>v=.int .i64 (sizeF ss[i]):=by
 have h1:=hp.at_ i hi
 have h2:=hp.few
 have hsz:1≤sizeF ss[i]∧sizeF ss[i]≤1000000:=by unfold sizeF;omega
 have gs:(trH.map encHp)[0]?=some (encHp (1,1,1)):=rfl
 obtain ⟨pb,po,rfl,hA⟩:=hhs.h.place' gs
 have A1:At w pb (po+0 * 3) [.int .i64 1,.int .i64 1,.int .i64 1]:=place_k hhs.h gs
 refine Ct.ofW (by simp) ?_
 (refine jjB (jjC (jJ (eI rfl) (jz (jjB (jjC ?_)))));refine jI (eP rfl) (jw rfl (jm (jn rfl (jm (jn rfl ?_)))));refine jN rfl rfl rfl (jI (eI rfl) ?_))
 refine jH 0 rfl rfl rfl (by decide) ?_
 (refine jm (jn rfl (jP rfl rfl rfl (jJ (eI rfl) (jz (jjB ?_)))));refine jjC (jI (eP rfl) (jI (eI rfl) ?_)))
 refine jjQ (size_hand bd _ _ _ _ sa sc ss xa xc xs _ hp i hi) rfl rfl ?_
 rintro _ w2 hS2 rfl
 (refine jI (eI rfl) (jY rfl rfl (by omega) (jZ rfl rfl (by omega) (jI (eI rfl) ?_))))
 refine Ops.quo rfl rfl (by omega) (by omega) (by decide) ?_
 (refine jJ (eI rfl) (jz (jjF ?_));refine jB rfl rfl ⟨inferInstance,?_⟩)
 exact congrArg (Value.int .i64) (by omega)
end
section
variable (a:Option Addr) (c:Nat) (cs:List Ch) (ha:Option Addr) (hc:Nat) (sa:Option Addr) (sc:Nat) (xa:Option Addr) (xc b8 b9:Nat) (w:World)
 [hrow:RowI w (.slice a cs.length c) true 2 (cs.map encCh)] [hT:TextI w cs] [hhs:RowI w (.slice ha trH.length hc) true 3 (trH.map encHp)] [hss:RowI w (.slice sa trS.length sc) true 4 (trS.map encShr)] [hxs:RowI w (.slice xa (trX b8 b9).length xc) true 2 ((trX b8 b9).map encSht)] [hxi:ShtI w (trX b8 b9)]
def dayK (k:Nat):Int:=if k=0 then 0 else (k:Int)+1
set_option maxHeartbeats 8000000 in
theorem Back_hand (hsm:SmallT cs) (ht:textB (txF cs)=true) (hp:RoundOk (lnK cs cs.length).length trH trS (trX b8 b9)):Ct Tryz.prog 16 [.agg #[.slice a cs.length c,.slice ha trH.length hc,.slice sa trS.length sc,.slice xa (trX b8 b9).length xc],.int .i64 1] w fun v _=>v=.tuple #[.int .i64 4,.int .i64 0]:=by
 refine Ct.ofW (by simp) ?_
 (refine jjB (jjC ?_))
 (refine jy rfl ?_;intro b2 w_b2 hb_b2 hs_b2 hS_b2 hk_b2;have hA_b2:=At.ofBlock hk_b2)
 have A2:At w_b2 b2 0 [.slice a cs.length c,.slice ha trH.length hc,.slice sa trS.length sc,.slice xa (trX b8 b9).length xc]:=At.ofBlock hk_b2
 (refine jJ (eI rfl) (jJ (eI rfl) (jz (jjB (jjC (jO rfl rfl rfl rfl ?_)))));refine jI (eI rfl) ?_)
 refine jjQ (part_hand a c cs ha hc trH sa sc trS xa xc (trX b8 b9) _ hsm ht hp 1 (by decide)) rfl rfl ?_
 rintro _ w4 hS4 ⟨bd,rfl,hD⟩
 obtain ⟨la,lc,pa,pc,D1,D2,D3⟩:=hD.h
 have ih:RowI w4 (.slice ha trH.length hc) true 3 (trH.map encHp):=inferInstance
 have is:RowI w4 (.slice sa trS.length sc) true 4 (trS.map encShr):=inferInstance
 have gs:(trS.map encShr)[1]?=some (encShr (1,1,0,0)):=rfl
 have gh:(trH.map encHp)[0]?=some (encHp (1,1,1)):=rfl
 obtain ⟨sb,so,rfl,-⟩:=is.h.place' gs
 obtain ⟨hb,ho,rfl,-⟩:=ih.h.place' gh
 have S1:At w4 sb (so+1 * 4) [.int .i64 1,.int .i64 1,.int .i64 0,.int .i64 0]:=place_k is.h gs
 have H1:At w4 hb (ho+0 * 3) [.int .i64 1,.int .i64 1,.int .i64 1]:=place_k ih.h gh
 (refine jI (eU rfl) (ju rfl rfl (ju rfl rfl (jJ (eP rfl) (jJ (eI rfl) (jz ?_)))));refine jjB (jjB (jjC (jI (eI rfl) (jjk rfl rfl (by omega) (jz ?_)))));refine jjK rfl (jjG (jjB (jjC (jI (eP rfl) (jw rfl ?_)))));refine jm (jn rfl (jm (jn rfl (jN rfl rfl rfl (jI (eI rfl) ?_))))))
 refine jH 1 rfl rfl rfl (by decide) ?_
 (refine jm (jn rfl (jP rfl rfl rfl (jJ (eI rfl) (jz (jjB ?_)))));refine jjC (jI (eP rfl) (jw rfl (jm (jn rfl (jm ?_)))));refine jn rfl (jN rfl rfl rfl (jI (eI rfl) ?_)))
 refine jH 0 rfl rfl rfl (by decide) ?_
 (refine jm (jn rfl (jP rfl rfl rfl (jJ (eI rfl) (jz (jjB ?_)))));refine jjC (jJ (eI rfl) (jz (jjB (jjB (jjC ?_)))));refine jI (eP rfl) (jw rfl (jm (jn rfl (jm (jn rfl ?_)))));refine jN rfl rfl rfl (jI (eI rfl) (jY rfl rfl (by omega) ?_)))
 refine Ops.sliceH is.h rfl rfl (hi:=2) rfl (by decide) ?_
 rintro _ hRs ⟨a',c',rfl⟩
 have iR:RowI w4 (.slice a' 2 c') true 4 (trS.map encShr):=⟨hRs⟩
 (refine jh rfl (jI (eI rfl) (jz (jjD ?_))))
 refine W.keep0 [(6,.pointer (some ⟨bd,0,none⟩)),(8,.int .i64 0),(9,.int .i64 1),(10,.int .i64 0),(47,.slice a' 2 c'),(48,.int .i64 2),(49,.int .i64 ((0:Nat):Int))] ⟨eP rfl,eI rfl,eI rfl,eI rfl,eS rfl,eI rfl,eI rfl,trivial⟩ fun s0=>?_
 refine W.loop (50::51::52::53::12::11::54::55::56::57::58::59::60::61::62::63::64::65::66::67::68::10::69::49::[]) (fun g s' V=>∃ (k:Nat),s' 49=.int .i64 (k:Int)∧s' 10=.int .i64 (dayK k)∧g=2-k∧k≤2) 2 ⟨0,rfl,rfl,rfl,by omega⟩ ?_
 rintro _ sd V hSV ⟨k,h49,h10,rfl,hk⟩
 obtain ⟨dy,hdy⟩:∃ x,dayK k=x:=⟨_,rfl⟩
 rw [hdy] at h10
 refine W.fix h49 (W.fix (d:=10) h10 ?_)
 clear h49 h10
 by_cases hk1:k<2
 ·have gk:(trS.map encShr)[k]?=some (encShr ((k:Int),(k:Int),0,0)):=by
   have:k=0∨k=1:=by omega
   rcases this with rfl|rfl<;>rfl
  have hsz:sizeF (trS[k]'hk1)=1:=by
   have:k=0∨k=1:=by omega
   rcases this with rfl|rfl<;>rfl
  have hdb:0≤dy∧dy≤3:=by rw [←hdy,dayK];split<;>omega
  have hdn:max dy 1+1=dayK (k+1):=by
   have:k=0∨k=1:=by omega
   rcases this with rfl|rfl<;>(rw [←hdy];rfl)
  have hm:1≤max dy 1∧max dy 1≤3:=by omega
  have iRV:RowI V (.slice a' 2 c') true 4 (trS.map encShr):=inferInstance
  obtain ⟨qb,qo,rfl,-⟩:=iRV.h.place' gk
  have Q1:At V qb (qo+k * 4) [.int .i64 (k:Int),.int .i64 (k:Int),.int .i64 0,.int .i64 0]:=place_k iRV.h gk
  (refine jjB (jjC (jjZ rfl rfl (by omega) (jz (jjB (jjJ rfl ?_)))));refine jjG (jjB (jjD (jjB (jjC (jI (eI rfl) ?_)))));refine jF rfl rfl rfl (map_get (by omega)) ?_;intro _ _ _;refine jQ rfl rfl ?_)
  ((skip);refine jjY ?_;intro b12 w_b12 hb_b12 hs_b12 hS_b12 hk_b12;have hA_b12:=Bk.of hk_b12)
  (apply jJ;exact eI rfl)
  refine Ops.store rfl rfl rfl rfl rfl ?_
  intro V2 hp2
  have A12:At V2 b12 0 [.int .i64 (trS[k]'hk1).1,.int .i64 (trS[k]'hk1).2.1,.int .i64 (trS[k]'hk1).2.2.1,.int .i64 (trS[k]'hk1).2.2.2]:=Bk.toAt (h:=⟨hp2.new⟩)
  have htk:(trS[k]'hk1)=((k:Int),(k:Int),0,0):=by
   have:k=0∨k=1:=by omega
   rcases this with rfl|rfl<;>rfl
  replace A12:At V2 b12 0 [.int .i64 (k:Int),.int .i64 (k:Int),.int .i64 0,.int .i64 0]:=by rw [htk] at A12;exact A12
  have e2:Ext V V2:=hp2.ext hS_b12.ext (by omega)
  have D12:=D1.ext (hSV.ext.trans e2)
  have ih2:RowI V2 (.slice (some ⟨hb,ho,none⟩) trH.length hc) true 3 (trH.map encHp):=⟨ih.h.ext (hSV.ext.trans e2)⟩
  have is2:RowI V2 (.slice (some ⟨sb,so,none⟩) trS.length sc) true 4 (trS.map encShr):=⟨is.h.ext (hSV.ext.trans e2)⟩
  (refine jz (jjB (jjC (jm (jn rfl (jN rfl rfl rfl ?_)))));refine jI (eI rfl) (jjh rfl rfl (by omega) (jz (jjJ rfl ?_))))
  refine W.draw (fun w'=>Ext V2 w') ?_
  intro w5 hS5
  have A15:=A12.ext hS5.ext
  (refine jjV [0,1,2,3,4] ?_ ?_ ?_;(decide +kernel);(exact hS5.ext);(((apply jjT;exact rfl;rintro w' hq;have:=A12.ext hq;have:=hq.toStep;refine jI (eI rfl) (jz ?_);exact ⟨rfl,rfl⟩;apply jjT;exact rfl;rintro w' hq;have:=A12.ext hq;have:=hq.toStep;refine jm (jn rfl (jz ?_));exact ⟨rfl,rfl⟩;apply jjT;exact rfl;rintro w' hq;have:=A12.ext hq;have:=hq.toStep;refine jN rfl rfl rfl (jz ?_);exact ⟨rfl,rfl⟩;apply jjT;exact rfl;rintro w' hq;have:=A12.ext hq;have:=hq.toStep;refine jI (eI rfl) (jz ?_);exact ⟨rfl,rfl⟩;apply jjT;exact rfl;rintro w' hq;have:=A12.ext hq;have:=hq.toStep;refine jY rfl rfl (by omega) (jz ?_);exact ⟨rfl,rfl⟩;refine jjU ?_))))
  refine jjV [5] (by decide +kernel) hS5.ext (jjT (v:=.int .i64 (max dy 1)) rfl (fun w' q1=>?_) (jjU ?_));(refine jk rfl rfl ?_;rw [show (0:Int)+1=1 from rfl];refine jz ?_;exact ⟨rfl,rfl⟩)
  (refine jjV [6,7,8] ?_ ?_ ?_;(decide +kernel);(exact hS5.ext);(((refine jjT rfl (fun _ _=>jI (eP rfl) (jz ⟨rfl,rfl⟩)) (jjT rfl (fun _ _=>jI (eI rfl) (jz ⟨rfl,rfl⟩)) (jjT rfl (fun _ _=>jI (eI rfl) (jz ⟨rfl,rfl⟩)) (jjU ?_)))))))
  (apply jjW 9;(decide +kernel);exact rfl;(exact hS5.ext))
  refine jjQ (days_hand bd _ _ _ _ hc _ sc trS xa xc (trX b8 b9) _ (hd:=D12.ext hS5.ext) (hhs:=⟨ih2.h.ext hS5.ext⟩) (hss:=⟨is2.h.ext hS5.ext⟩) hp.parts k hk1) rfl rfl ?_
  rintro _ w6 hS6 rfl
  rw [hsz]
  have e6:Ext V2 w6:=hS5.ext.trans hS6.ext
  refine jz ?_
  (refine jjV [10,11] ?_ ?_ ?_;(decide +kernel);(exact e6);(((refine jjT rfl (fun _ _=>jY rfl rfl (by omega) (jz ⟨rfl,rfl⟩)) (jjT rfl (fun _ _=>jJ (eI rfl) (jz ⟨rfl,rfl⟩)) (jjU ?_))))))
  refine jjX (by decide +kernel) e6 ?_
  (refine jjC (jY rfl rfl (by omega) (jI (eI rfl) (jz ?_))))
  exact ⟨rfl,by (((iterate 26 refine Same.upd rfl ?_);exact Same.ovN)),2-(k+1),by omega,hSV.ext.trans (e2.trans e6),k+1,congrArg (Value.int .i64) (by omega),congrArg (Value.int .i64) hdn,rfl,by omega⟩
 obtain rfl:k=2:=by omega
 obtain rfl:dy=3:=hdy.symm
 (refine jjB (jjC (jja rfl rfl (by omega) (jz (jjB (jjK rfl ?_)))));refine jjE (jjB (jjC (jI (eI rfl) (jI (eI rfl) (jY rfl rfl (by omega) ?_)))));refine jJ (eI rfl) (jJ (eI rfl) (jz (jjF ?_)));refine jC rfl rfl rfl ⟨inferInstance,?_⟩)
 exact rfl
end

theorem fin3TCT {P:Program} {fn:Func} {n t t1 ty1 b1 size1 bytes1 t2:Nat} {R:Value→World→Prop} {s:Sl} {w:World} {cs1:List Value} {dd1:TypeDesc} {z1:Value} (hf:fn.results=#[.tmp t,.cell t1 ty1,.tmp t2]) (ht:Nat.blt t n=true) (ht1:Nat.blt t1 n=true) (ht2:Nat.blt t2 n=true) (hs1:s t1=.pointer (some ⟨b1,0,none⟩)) (hb1:At w b1 0 cs1) [hu1:TU P ty1 dd1] (hag1:TypeDesc.isAgg dd1=true) [hz1:TS P ty1 z1 size1 bytes1] (hl1:cs1.length=size1)
  (h:R (.tuple #[s t,.agg cs1.toArray,s t2]) w):finR P fn n R s [] w:=by
 unfold finR
 refine ⟨rfl,.tuple #[s t,.agg cs1.toArray,s t2],?_,h⟩
 have e:(mkA n s []).tmps[t]?.getD undef=s t:=by rw [mkA_getElem?,if_pos (by simpa using ht)];rfl
 have e1:(mkA n s []).tmps[t1]?.getD undef=.pointer (some ⟨b1,0,none⟩):=by
  rw [mkA_getElem?,if_pos (by simpa using ht1)];exact hs1
 have e2:(mkA n s []).tmps[t2]?.getD undef=s t2:=by rw [mkA_getElem?,if_pos (by simpa using ht2)];rfl
 have r1:=run_loadVar_agg (P:=P) (t:=ty1) (w:=w) (b:=b1) (o:=0) hu1 hag1 hz1 (cs:=cs1) hl1 (fun i v hv=>by have:=hb1.h i v hv;simpa using this)
 simp [results,hf,e,e1,e2,asAddr,r1]
def stepF (j:Nat) (x:Wr):Int×Wr×Bool :=
 if j=0 then (1,(x.1,x.2.1+1,true),false) else if j=1 then (if x.1=0 then (1,(1,1,true),true) else (0,x,false)) else (1,(x.1+1,x.2.1,false),decide (x.1<1))
abbrev encStp (r:Int×Wr×Bool):Value:=.tuple #[.int .i64 r.1,encWr r.2.1,.bool r.2.2]
def okWr (x:Wr):Prop:=x=(0,0,false)∨x=(1,1,true)∨x=(1,0,false)
section
variable (a1 a2:Option Addr) (c1 c2:Nat) (w:World)
set_option maxHeartbeats 4000000 in
theorem steps3_hand (x:Wr) (hx:okWr x):Ct Tryz.prog 172 [.slice a1 1 c1,.slice a2 1 c2,encWr x] w fun v _=>v=encStp (stepF 2 x):=by
 have hb:0≤x.1∧x.1≤1∧0≤x.2.1∧x.2.1≤1:=by rcases hx with rfl|rfl|rfl<;>decide
 refine Ct.ofW (by simp) ?_
 (refine jjB (jjC ?_))
 (refine jy rfl ?_;intro b5 w_b5 hb_b5 hs_b5 hS_b5 hk_b5;have hA_b5:=At.ofBlock hk_b5)
 (apply jJ;exact eI rfl)
 ((skip);refine jjY ?_;intro b7 w_b7 hb_b7 hs_b7 hS_b7 hk_b7;have hA_b7:=Bk.of hk_b7)
 (refine jJ (eB rfl) (jz (jjB ?_)))
 have A5:At w_b7 b5 0 [.int .i64 x.1,.int .i64 x.2.1,.bool x.2.2]:=(At.ofBlock hk_b5).ext hS_b7.ext
 have B7:Bk w_b7 b7 [.int .i64 0,.int .i64 0,.bool false] 163:=inferInstance
 have e7:Ext w w_b7:=hS_b5.ext.trans hS_b7.ext
 refine W.draw (fun w'=>At w' b5 0 [.int .i64 x.1,.int .i64 x.2.1,.bool x.2.2]∧Ext w w') ?_
 intro u1 hu1
 have g1:At u1 b5 0 [.int .i64 x.1,.int .i64 x.2.1,.bool x.2.2]∧Ext w u1:=⟨A5.ext hu1.ext,e7.trans hu1.ext⟩
 (refine jjV [0,1,2,3,4] ?_ ?_ ?_;(decide +kernel);(exact g1);(((apply jjT;exact rfl;rintro w' ⟨hq,_⟩;refine jm (jn rfl (jz ?_));exact ⟨rfl,rfl⟩;apply jjT;exact rfl;rintro w' ⟨hq,_⟩;refine jN rfl rfl rfl (jz ?_);exact ⟨rfl,rfl⟩;refine jjT rfl (fun _ _=>jY rfl rfl (by omega) (jz ⟨rfl,rfl⟩)) ?_;apply jjT;exact rfl;rintro w' ⟨hq,_⟩;refine jm (jn rfl (jz ?_));exact ⟨rfl,rfl⟩;apply jjT;exact rfl;rintro w' ⟨hq,_⟩;refine jN rfl rfl rfl (jz ?_);exact ⟨rfl,rfl⟩;refine jjU ?_))))
 refine jjV [5] (by decide +kernel) g1 (jjT (v:=encWr (x.1+1,x.2.1,false)) rfl (fun w' q1=>?_) (jjU ?_));(refine jjS (cells:=[.int .i64 (x.1+1),.int .i64 x.2.1,.bool false]) ?_ ?_;exact rfl;refine jz ?_;exact ⟨rfl,rfl⟩)
 (refine jjV [6,7,8,9,10,11] ?_ ?_ ?_;(decide +kernel);(exact g1);(((apply jjT;exact rfl;rintro w' ⟨hq,_⟩;refine jm (jn rfl (jz ?_));exact ⟨rfl,rfl⟩;apply jjT;exact rfl;rintro w' ⟨hq,_⟩;refine jN rfl rfl rfl (jz ?_);exact ⟨rfl,rfl⟩;refine jjT rfl (fun _ _=>jI (eS rfl) (jz ⟨rfl,rfl⟩)) (jjT rfl (fun _ _=>jh rfl (jz ⟨rfl,rfl⟩)) (jjT rfl (fun _ _=>jX rfl rfl (jz ⟨rfl,rfl⟩)) (jjT rfl (fun _ _=>jJ (eI rfl) (jz ⟨rfl,rfl⟩)) (jjU ?_))))))))
 have B71:=B7.ext hu1.ext
 (apply jjW 12;(decide +kernel);exact rfl;(exact g1))
 refine Ops.store rfl rfl rfl rfl rfl ?_
 intro w5 hp5
 have A7:At w5 b7 0 [.int .i64 (x.1+1),.int .i64 x.2.1,.bool false]:=Bk.toAt (h:=⟨hp5.new⟩)
 have e5:Ext w w5:=hp5.ext (e7.trans hu1.ext) (by omega)
 have g2:At w5 b5 0 [.int .i64 x.1,.int .i64 x.2.1,.bool x.2.2]∧Ext w w5:=⟨hp5.at_ g1.1 (by omega),e5⟩
 refine jz ?_
 (refine jjV [13] ?_ ?_ ?_;(decide +kernel);(exact g2);(((refine jjT rfl (fun _ _=>jJ (eB rfl) (jz ⟨rfl,rfl⟩)) (jjU ?_)))))
 refine jjX (by decide +kernel) g2 ?_
 (refine jjF ?_)
 refine fin3TCT rfl rfl rfl rfl rfl A7 rfl rfl ⟨e5,rfl⟩
set_option maxHeartbeats 8000000 in
theorem steps1_hand (x:Wr) (hx:okWr x):Ct Tryz.prog 169 [.slice a1 1 c1,.slice a2 1 c2,encWr x] w fun v _=>v=encStp (stepF 0 x):=by
 rcases hx with rfl|rfl|rfl
 ·refine Ct.ofW (by simp) ?_
  (refine jjB (jjC ?_))
  (refine jy rfl ?_;intro b5 w_b5 hb_b5 hs_b5 hS_b5 hk_b5;have hA_b5:=At.ofBlock hk_b5)
  (apply jJ;exact eI rfl)
  ((skip);refine jjY ?_;intro b7 w_b7 hb_b7 hs_b7 hS_b7 hk_b7;have hA_b7:=Bk.of hk_b7)
  (refine jJ (eB rfl) (jz (jjB ?_)))
  have A5:At w_b7 b5 0 [.int .i64 0,.int .i64 0,.bool false]:=(At.ofBlock hk_b5).ext hS_b7.ext
  have B7:Bk w_b7 b7 [.int .i64 0,.int .i64 0,.bool false] 163:=inferInstance
  have e7:Ext w w_b7:=hS_b5.ext.trans hS_b7.ext
  refine W.draw (fun w'=>Ext w_b7 w') ?_
  intro u1 hu1
  (refine jjV [0,1,2,3,4,5,6,7,8,9,10,11,12,13,14,15,16,17,18,19,20,21,22,23] ?_ ?_ ?_;(decide +kernel);(exact hu1.ext);(((apply jjT;exact rfl;rintro w' hq;have:=A5.ext hq;have:=hq.toStep;refine jm (jn rfl (jz ?_));exact ⟨rfl,rfl⟩;apply jjT;exact rfl;rintro w' hq;have:=A5.ext hq;have:=hq.toStep;refine jN rfl rfl rfl (jz ?_);exact ⟨rfl,rfl⟩;apply jjT;exact rfl;rintro w' hq;have:=A5.ext hq;have:=hq.toStep;refine jI (eB rfl) (jz ?_);exact ⟨rfl,rfl⟩;apply jjT;exact rfl;rintro w' hq;have:=A5.ext hq;have:=hq.toStep;refine jU rfl rfl rfl rfl (jz ?_);exact ⟨rfl,rfl⟩;apply jjT;exact rfl;rintro w' hq;have:=A5.ext hq;have:=hq.toStep;refine jU rfl rfl rfl rfl (jz ?_);exact ⟨rfl,rfl⟩;apply jjT;exact rfl;rintro w' hq;have:=A5.ext hq;have:=hq.toStep;refine jU rfl rfl rfl rfl (jz ?_);exact ⟨rfl,rfl⟩;apply jjT;exact rfl;rintro w' hq;have:=A5.ext hq;have:=hq.toStep;refine jU rfl rfl rfl rfl (jz ?_);exact ⟨rfl,rfl⟩;apply jjT;exact rfl;rintro w' hq;have:=A5.ext hq;have:=hq.toStep;refine jU rfl rfl rfl rfl (jz ?_);exact ⟨rfl,rfl⟩;apply jjT;exact rfl;rintro w' hq;have:=A5.ext hq;have:=hq.toStep;refine jL rfl (eB rfl) (jz ?_);exact ⟨rfl,rfl⟩;apply jjT;exact rfl;rintro w' hq;have:=A5.ext hq;have:=hq.toStep;refine jI (eB rfl) (jz ?_);exact ⟨rfl,rfl⟩;apply jjT;exact rfl;rintro w' hq;have:=A5.ext hq;have:=hq.toStep;refine jU rfl rfl rfl rfl (jz ?_);exact ⟨rfl,rfl⟩;apply jjT;exact rfl;rintro w' hq;have:=A5.ext hq;have:=hq.toStep;refine jU rfl rfl rfl rfl (jz ?_);exact ⟨rfl,rfl⟩;apply jjT;exact rfl;rintro w' hq;have:=A5.ext hq;have:=hq.toStep;refine jU rfl rfl rfl rfl (jz ?_);exact ⟨rfl,rfl⟩;apply jjT;exact rfl;rintro w' hq;have:=A5.ext hq;have:=hq.toStep;refine jU rfl rfl rfl rfl (jz ?_);exact ⟨rfl,rfl⟩;apply jjT;exact rfl;rintro w' hq;have:=A5.ext hq;have:=hq.toStep;refine jU rfl rfl rfl rfl (jz ?_);exact ⟨rfl,rfl⟩;apply jjT;exact rfl;rintro w' hq;have:=A5.ext hq;have:=hq.toStep;refine jU rfl rfl rfl rfl (jz ?_);exact ⟨rfl,rfl⟩;apply jjT;exact rfl;rintro w' hq;have:=A5.ext hq;have:=hq.toStep;refine jU rfl rfl rfl rfl (jz ?_);exact ⟨rfl,rfl⟩;apply jjT;exact rfl;rintro w' hq;have:=A5.ext hq;have:=hq.toStep;refine jU rfl rfl rfl rfl (jz ?_);exact ⟨rfl,rfl⟩;apply jjT;exact rfl;rintro w' hq;have:=A5.ext hq;have:=hq.toStep;refine jU rfl rfl rfl rfl (jz ?_);exact ⟨rfl,rfl⟩;apply jjT;exact rfl;rintro w' hq;have:=A5.ext hq;have:=hq.toStep;refine jU rfl rfl rfl rfl (jz ?_);exact ⟨rfl,rfl⟩;apply jjT;exact rfl;rintro w' hq;have:=A5.ext hq;have:=hq.toStep;refine jU rfl rfl rfl rfl (jz ?_);exact ⟨rfl,rfl⟩;apply jjT;exact rfl;rintro w' hq;have:=A5.ext hq;have:=hq.toStep;refine jU rfl rfl rfl rfl (jz ?_);exact ⟨rfl,rfl⟩;apply jjT;exact rfl;rintro w' hq;have:=A5.ext hq;have:=hq.toStep;refine jL rfl (eB rfl) (jz ?_);exact ⟨rfl,rfl⟩;apply jjT;exact rfl;rintro w' hq;have:=A5.ext hq;have:=hq.toStep;refine jJ (eB rfl) (jz ?_);exact ⟨rfl,rfl⟩;refine jjU ?_))))
  refine jjX (by decide +kernel) hu1.ext ?_
  (refine jjB ?_)
  refine W.draw (fun w'=>At w' b5 0 [.int .i64 0,.int .i64 0,.bool false]∧Ext w w') ?_
  intro u2 hu2
  have g1:At u2 b5 0 [.int .i64 0,.int .i64 0,.bool false]∧Ext w u2:=⟨A5.ext (hu1.ext.trans hu2.ext),e7.trans (hu1.ext.trans hu2.ext)⟩
  (refine jjV [0,1,2,3,4] ?_ ?_ ?_;(decide +kernel);(exact g1);(((apply jjT;exact rfl;rintro w' ⟨hq,_⟩;refine jm (jn rfl (jz ?_));exact ⟨rfl,rfl⟩;apply jjT;exact rfl;rintro w' ⟨hq,_⟩;refine jN rfl rfl rfl (jz ?_);exact ⟨rfl,rfl⟩;apply jjT;exact rfl;rintro w' ⟨hq,_⟩;refine jm (jn rfl (jz ?_));exact ⟨rfl,rfl⟩;apply jjT;exact rfl;rintro w' ⟨hq,_⟩;refine jN rfl rfl rfl (jz ?_);exact ⟨rfl,rfl⟩;refine jjT rfl (fun _ _=>jY rfl rfl (by omega) (jz ⟨rfl,rfl⟩)) (jjU ?_)))))
  refine jjV [5] (by decide +kernel) g1 (jjT (v:=.agg #[.int .i64 0,.int .i64 1,.bool true]) rfl (fun w' q1=>?_) (jjU ?_));(refine jjS (cells:=[.int .i64 0,.int .i64 1,.bool true]) ?_ ?_;exact rfl;refine jz ?_;exact ⟨rfl,rfl⟩)
  (refine jjV [6,7] ?_ ?_ ?_;(decide +kernel);(exact g1);(((refine jjT rfl (fun _ _=>jI (eB rfl) (jz ⟨rfl,rfl⟩)) (jjT rfl (fun _ _=>jJ (eI rfl) (jz ⟨rfl,rfl⟩)) (jjU ?_))))))
  have B71:=B7.ext (hu1.ext.trans hu2.ext)
  (apply jjW 8;(decide +kernel);exact rfl;(exact g1))
  refine Ops.store rfl rfl rfl rfl rfl ?_
  intro w5 hp5
  have A7:At w5 b7 0 [.int .i64 0,.int .i64 1,.bool true]:=Bk.toAt (h:=⟨hp5.new⟩)
  have e5:Ext w w5:=hp5.ext g1.2 (by omega)
  have g2:At w5 b5 0 [.int .i64 0,.int .i64 0,.bool false]∧Ext w w5:=⟨hp5.at_ g1.1 (by omega),e5⟩
  refine jz ?_
  (refine jjV [9] ?_ ?_ ?_;(decide +kernel);(exact g2);(((refine jjT rfl (fun _ _=>jJ (eB rfl) (jz ⟨rfl,rfl⟩)) (jjU ?_)))))
  refine jjX (by decide +kernel) g2 ?_
  (refine jjF ?_)
  exact fin3TCT rfl rfl rfl rfl rfl A7 rfl rfl ⟨e5,rfl⟩
 ·refine Ct.ofW (by simp) ?_
  (refine jjB (jjC ?_))
  (refine jy rfl ?_;intro b5 w_b5 hb_b5 hs_b5 hS_b5 hk_b5;have hA_b5:=At.ofBlock hk_b5)
  (apply jJ;exact eI rfl)
  ((skip);refine jjY ?_;intro b7 w_b7 hb_b7 hs_b7 hS_b7 hk_b7;have hA_b7:=Bk.of hk_b7)
  (refine jJ (eB rfl) (jz (jjB ?_)))
  have A5:At w_b7 b5 0 [.int .i64 1,.int .i64 1,.bool true]:=(At.ofBlock hk_b5).ext hS_b7.ext
  have B7:Bk w_b7 b7 [.int .i64 0,.int .i64 0,.bool false] 163:=inferInstance
  have e7:Ext w w_b7:=hS_b5.ext.trans hS_b7.ext
  refine W.draw (fun w'=>Ext w_b7 w') ?_
  intro u1 hu1
  (refine jjV [0,1,2,3,4,5,6,7,8,9,10,11,12,13,14,15,16,17,18,19,20,21,22,23] ?_ ?_ ?_;(decide +kernel);(exact hu1.ext);(((apply jjT;exact rfl;rintro w' hq;have:=A5.ext hq;have:=hq.toStep;refine jm (jn rfl (jz ?_));exact ⟨rfl,rfl⟩;apply jjT;exact rfl;rintro w' hq;have:=A5.ext hq;have:=hq.toStep;refine jN rfl rfl rfl (jz ?_);exact ⟨rfl,rfl⟩;apply jjT;exact rfl;rintro w' hq;have:=A5.ext hq;have:=hq.toStep;refine jI (eB rfl) (jz ?_);exact ⟨rfl,rfl⟩;apply jjT;exact rfl;rintro w' hq;have:=A5.ext hq;have:=hq.toStep;refine jT rfl rfl rfl (jm (jn rfl (jz ?_)));exact ⟨rfl,rfl⟩;apply jjT;exact rfl;rintro w' hq;have:=A5.ext hq;have:=hq.toStep;refine jT rfl rfl rfl (jN rfl rfl rfl (jz ?_));exact ⟨rfl,rfl⟩;apply jjT;exact rfl;rintro w' hq;have:=A5.ext hq;have:=hq.toStep;refine jT rfl rfl rfl (jI (eS rfl) (jz ?_));exact ⟨rfl,rfl⟩;apply jjT;exact rfl;rintro w' hq;have:=A5.ext hq;have:=hq.toStep;refine jT rfl rfl rfl (jh rfl (jz ?_));exact ⟨rfl,rfl⟩;apply jjT;exact rfl;rintro w' hq;have:=A5.ext hq;have:=hq.toStep;refine jT rfl rfl rfl (jX rfl rfl (jz ?_));exact ⟨rfl,rfl⟩;apply jjT;exact rfl;rintro w' hq;have:=A5.ext hq;have:=hq.toStep;refine jK rfl (eB rfl) (jz ?_);exact ⟨rfl,rfl⟩;apply jjT;exact rfl;rintro w' hq;have:=A5.ext hq;have:=hq.toStep;refine jI (eB rfl) (jz ?_);exact ⟨rfl,rfl⟩;apply jjT;exact rfl;rintro w' hq;have:=A5.ext hq;have:=hq.toStep;refine jU rfl rfl rfl rfl (jz ?_);exact ⟨rfl,rfl⟩;apply jjT;exact rfl;rintro w' hq;have:=A5.ext hq;have:=hq.toStep;refine jU rfl rfl rfl rfl (jz ?_);exact ⟨rfl,rfl⟩;apply jjT;exact rfl;rintro w' hq;have:=A5.ext hq;have:=hq.toStep;refine jU rfl rfl rfl rfl (jz ?_);exact ⟨rfl,rfl⟩;apply jjT;exact rfl;rintro w' hq;have:=A5.ext hq;have:=hq.toStep;refine jU rfl rfl rfl rfl (jz ?_);exact ⟨rfl,rfl⟩;apply jjT;exact rfl;rintro w' hq;have:=A5.ext hq;have:=hq.toStep;refine jU rfl rfl rfl rfl (jz ?_);exact ⟨rfl,rfl⟩;apply jjT;exact rfl;rintro w' hq;have:=A5.ext hq;have:=hq.toStep;refine jU rfl rfl rfl rfl (jz ?_);exact ⟨rfl,rfl⟩;apply jjT;exact rfl;rintro w' hq;have:=A5.ext hq;have:=hq.toStep;refine jU rfl rfl rfl rfl (jz ?_);exact ⟨rfl,rfl⟩;apply jjT;exact rfl;rintro w' hq;have:=A5.ext hq;have:=hq.toStep;refine jU rfl rfl rfl rfl (jz ?_);exact ⟨rfl,rfl⟩;apply jjT;exact rfl;rintro w' hq;have:=A5.ext hq;have:=hq.toStep;refine jU rfl rfl rfl rfl (jz ?_);exact ⟨rfl,rfl⟩;apply jjT;exact rfl;rintro w' hq;have:=A5.ext hq;have:=hq.toStep;refine jU rfl rfl rfl rfl (jz ?_);exact ⟨rfl,rfl⟩;apply jjT;exact rfl;rintro w' hq;have:=A5.ext hq;have:=hq.toStep;refine jU rfl rfl rfl rfl (jz ?_);exact ⟨rfl,rfl⟩;apply jjT;exact rfl;rintro w' hq;have:=A5.ext hq;have:=hq.toStep;refine jU rfl rfl rfl rfl (jz ?_);exact ⟨rfl,rfl⟩;apply jjT;exact rfl;rintro w' hq;have:=A5.ext hq;have:=hq.toStep;refine jL rfl (eB rfl) (jz ?_);exact ⟨rfl,rfl⟩;apply jjT;exact rfl;rintro w' hq;have:=A5.ext hq;have:=hq.toStep;refine jJ (eB rfl) (jz ?_);exact ⟨rfl,rfl⟩;refine jjU ?_))))
  refine jjX (by decide +kernel) hu1.ext ?_
  (refine jjB ?_)
  refine W.draw (fun w'=>At w' b5 0 [.int .i64 1,.int .i64 1,.bool true]∧Ext w w') ?_
  intro u2 hu2
  have g1:At u2 b5 0 [.int .i64 1,.int .i64 1,.bool true]∧Ext w u2:=⟨A5.ext (hu1.ext.trans hu2.ext),e7.trans (hu1.ext.trans hu2.ext)⟩
  (refine jjV [0,1,2,3,4] ?_ ?_ ?_;(decide +kernel);(exact g1);(((apply jjT;exact rfl;rintro w' ⟨hq,_⟩;refine jm (jn rfl (jz ?_));exact ⟨rfl,rfl⟩;apply jjT;exact rfl;rintro w' ⟨hq,_⟩;refine jN rfl rfl rfl (jz ?_);exact ⟨rfl,rfl⟩;apply jjT;exact rfl;rintro w' ⟨hq,_⟩;refine jm (jn rfl (jz ?_));exact ⟨rfl,rfl⟩;apply jjT;exact rfl;rintro w' ⟨hq,_⟩;refine jN rfl rfl rfl (jz ?_);exact ⟨rfl,rfl⟩;refine jjT rfl (fun _ _=>jY rfl rfl (by omega) (jz ⟨rfl,rfl⟩)) (jjU ?_)))))
  refine jjV [5] (by decide +kernel) g1 (jjT (v:=.agg #[.int .i64 1,.int .i64 2,.bool true]) rfl (fun w' q1=>?_) (jjU ?_));(refine jjS (cells:=[.int .i64 1,.int .i64 2,.bool true]) ?_ ?_;exact rfl;refine jz ?_;exact ⟨rfl,rfl⟩)
  (refine jjV [6,7] ?_ ?_ ?_;(decide +kernel);(exact g1);(((refine jjT rfl (fun _ _=>jI (eB rfl) (jz ⟨rfl,rfl⟩)) (jjT rfl (fun _ _=>jJ (eI rfl) (jz ⟨rfl,rfl⟩)) (jjU ?_))))))
  have B71:=B7.ext (hu1.ext.trans hu2.ext)
  (apply jjW 8;(decide +kernel);exact rfl;(exact g1))
  refine Ops.store rfl rfl rfl rfl rfl ?_
  intro w5 hp5
  have A7:At w5 b7 0 [.int .i64 1,.int .i64 2,.bool true]:=Bk.toAt (h:=⟨hp5.new⟩)
  have e5:Ext w w5:=hp5.ext g1.2 (by omega)
  have g2:At w5 b5 0 [.int .i64 1,.int .i64 1,.bool true]∧Ext w w5:=⟨hp5.at_ g1.1 (by omega),e5⟩
  refine jz ?_
  (refine jjV [9] ?_ ?_ ?_;(decide +kernel);(exact g2);(((refine jjT rfl (fun _ _=>jJ (eB rfl) (jz ⟨rfl,rfl⟩)) (jjU ?_)))))
  refine jjX (by decide +kernel) g2 ?_
  (refine jjF ?_)
  exact fin3TCT rfl rfl rfl rfl rfl A7 rfl rfl ⟨e5,rfl⟩
 ·refine Ct.ofW (by simp) ?_
  (refine jjB (jjC ?_))
  (refine jy rfl ?_;intro b5 w_b5 hb_b5 hs_b5 hS_b5 hk_b5;have hA_b5:=At.ofBlock hk_b5)
  (apply jJ;exact eI rfl)
  ((skip);refine jjY ?_;intro b7 w_b7 hb_b7 hs_b7 hS_b7 hk_b7;have hA_b7:=Bk.of hk_b7)
  (refine jJ (eB rfl) (jz (jjB ?_)))
  have A5:At w_b7 b5 0 [.int .i64 1,.int .i64 0,.bool false]:=(At.ofBlock hk_b5).ext hS_b7.ext
  have B7:Bk w_b7 b7 [.int .i64 0,.int .i64 0,.bool false] 163:=inferInstance
  have e7:Ext w w_b7:=hS_b5.ext.trans hS_b7.ext
  refine W.draw (fun w'=>Ext w_b7 w') ?_
  intro u1 hu1
  (refine jjV [0,1,2,3,4,5,6,7,8,9,10,11,12,13,14,15,16,17,18,19,20,21,22,23] ?_ ?_ ?_;(decide +kernel);(exact hu1.ext);(((apply jjT;exact rfl;rintro w' hq;have:=A5.ext hq;have:=hq.toStep;refine jm (jn rfl (jz ?_));exact ⟨rfl,rfl⟩;apply jjT;exact rfl;rintro w' hq;have:=A5.ext hq;have:=hq.toStep;refine jN rfl rfl rfl (jz ?_);exact ⟨rfl,rfl⟩;apply jjT;exact rfl;rintro w' hq;have:=A5.ext hq;have:=hq.toStep;refine jI (eB rfl) (jz ?_);exact ⟨rfl,rfl⟩;apply jjT;exact rfl;rintro w' hq;have:=A5.ext hq;have:=hq.toStep;refine jU rfl rfl rfl rfl (jz ?_);exact ⟨rfl,rfl⟩;apply jjT;exact rfl;rintro w' hq;have:=A5.ext hq;have:=hq.toStep;refine jU rfl rfl rfl rfl (jz ?_);exact ⟨rfl,rfl⟩;apply jjT;exact rfl;rintro w' hq;have:=A5.ext hq;have:=hq.toStep;refine jU rfl rfl rfl rfl (jz ?_);exact ⟨rfl,rfl⟩;apply jjT;exact rfl;rintro w' hq;have:=A5.ext hq;have:=hq.toStep;refine jU rfl rfl rfl rfl (jz ?_);exact ⟨rfl,rfl⟩;apply jjT;exact rfl;rintro w' hq;have:=A5.ext hq;have:=hq.toStep;refine jU rfl rfl rfl rfl (jz ?_);exact ⟨rfl,rfl⟩;apply jjT;exact rfl;rintro w' hq;have:=A5.ext hq;have:=hq.toStep;refine jL rfl (eB rfl) (jz ?_);exact ⟨rfl,rfl⟩;apply jjT;exact rfl;rintro w' hq;have:=A5.ext hq;have:=hq.toStep;refine jI (eB rfl) (jz ?_);exact ⟨rfl,rfl⟩;apply jjT;exact rfl;rintro w' hq;have:=A5.ext hq;have:=hq.toStep;refine jU rfl rfl rfl rfl (jz ?_);exact ⟨rfl,rfl⟩;apply jjT;exact rfl;rintro w' hq;have:=A5.ext hq;have:=hq.toStep;refine jU rfl rfl rfl rfl (jz ?_);exact ⟨rfl,rfl⟩;apply jjT;exact rfl;rintro w' hq;have:=A5.ext hq;have:=hq.toStep;refine jU rfl rfl rfl rfl (jz ?_);exact ⟨rfl,rfl⟩;apply jjT;exact rfl;rintro w' hq;have:=A5.ext hq;have:=hq.toStep;refine jU rfl rfl rfl rfl (jz ?_);exact ⟨rfl,rfl⟩;apply jjT;exact rfl;rintro w' hq;have:=A5.ext hq;have:=hq.toStep;refine jU rfl rfl rfl rfl (jz ?_);exact ⟨rfl,rfl⟩;apply jjT;exact rfl;rintro w' hq;have:=A5.ext hq;have:=hq.toStep;refine jU rfl rfl rfl rfl (jz ?_);exact ⟨rfl,rfl⟩;apply jjT;exact rfl;rintro w' hq;have:=A5.ext hq;have:=hq.toStep;refine jU rfl rfl rfl rfl (jz ?_);exact ⟨rfl,rfl⟩;apply jjT;exact rfl;rintro w' hq;have:=A5.ext hq;have:=hq.toStep;refine jU rfl rfl rfl rfl (jz ?_);exact ⟨rfl,rfl⟩;apply jjT;exact rfl;rintro w' hq;have:=A5.ext hq;have:=hq.toStep;refine jU rfl rfl rfl rfl (jz ?_);exact ⟨rfl,rfl⟩;apply jjT;exact rfl;rintro w' hq;have:=A5.ext hq;have:=hq.toStep;refine jU rfl rfl rfl rfl (jz ?_);exact ⟨rfl,rfl⟩;apply jjT;exact rfl;rintro w' hq;have:=A5.ext hq;have:=hq.toStep;refine jU rfl rfl rfl rfl (jz ?_);exact ⟨rfl,rfl⟩;apply jjT;exact rfl;rintro w' hq;have:=A5.ext hq;have:=hq.toStep;refine jU rfl rfl rfl rfl (jz ?_);exact ⟨rfl,rfl⟩;apply jjT;exact rfl;rintro w' hq;have:=A5.ext hq;have:=hq.toStep;refine jL rfl (eB rfl) (jz ?_);exact ⟨rfl,rfl⟩;apply jjT;exact rfl;rintro w' hq;have:=A5.ext hq;have:=hq.toStep;refine jJ (eB rfl) (jz ?_);exact ⟨rfl,rfl⟩;refine jjU ?_))))
  refine jjX (by decide +kernel) hu1.ext ?_
  (refine jjB ?_)
  refine W.draw (fun w'=>At w' b5 0 [.int .i64 1,.int .i64 0,.bool false]∧Ext w w') ?_
  intro u2 hu2
  have g1:At u2 b5 0 [.int .i64 1,.int .i64 0,.bool false]∧Ext w u2:=⟨A5.ext (hu1.ext.trans hu2.ext),e7.trans (hu1.ext.trans hu2.ext)⟩
  (refine jjV [0,1,2,3,4] ?_ ?_ ?_;(decide +kernel);(exact g1);(((apply jjT;exact rfl;rintro w' ⟨hq,_⟩;refine jm (jn rfl (jz ?_));exact ⟨rfl,rfl⟩;apply jjT;exact rfl;rintro w' ⟨hq,_⟩;refine jN rfl rfl rfl (jz ?_);exact ⟨rfl,rfl⟩;apply jjT;exact rfl;rintro w' ⟨hq,_⟩;refine jm (jn rfl (jz ?_));exact ⟨rfl,rfl⟩;apply jjT;exact rfl;rintro w' ⟨hq,_⟩;refine jN rfl rfl rfl (jz ?_);exact ⟨rfl,rfl⟩;refine jjT rfl (fun _ _=>jY rfl rfl (by omega) (jz ⟨rfl,rfl⟩)) (jjU ?_)))))
  refine jjV [5] (by decide +kernel) g1 (jjT (v:=.agg #[.int .i64 1,.int .i64 1,.bool true]) rfl (fun w' q1=>?_) (jjU ?_));(refine jjS (cells:=[.int .i64 1,.int .i64 1,.bool true]) ?_ ?_;exact rfl;refine jz ?_;exact ⟨rfl,rfl⟩)
  (refine jjV [6,7] ?_ ?_ ?_;(decide +kernel);(exact g1);(((refine jjT rfl (fun _ _=>jI (eB rfl) (jz ⟨rfl,rfl⟩)) (jjT rfl (fun _ _=>jJ (eI rfl) (jz ⟨rfl,rfl⟩)) (jjU ?_))))))
  have B71:=B7.ext (hu1.ext.trans hu2.ext)
  (apply jjW 8;(decide +kernel);exact rfl;(exact g1))
  refine Ops.store rfl rfl rfl rfl rfl ?_
  intro w5 hp5
  have A7:At w5 b7 0 [.int .i64 1,.int .i64 1,.bool true]:=Bk.toAt (h:=⟨hp5.new⟩)
  have e5:Ext w w5:=hp5.ext g1.2 (by omega)
  have g2:At w5 b5 0 [.int .i64 1,.int .i64 0,.bool false]∧Ext w w5:=⟨hp5.at_ g1.1 (by omega),e5⟩
  refine jz ?_
  (refine jjV [9] ?_ ?_ ?_;(decide +kernel);(exact g2);(((refine jjT rfl (fun _ _=>jJ (eB rfl) (jz ⟨rfl,rfl⟩)) (jjU ?_)))))
  refine jjX (by decide +kernel) g2 ?_
  (refine jjF ?_)
  exact fin3TCT rfl rfl rfl rfl rfl A7 rfl rfl ⟨e5,rfl⟩
end

theorem small_single {cs:List Ch} {x:List ByteArray} (ht:txF cs=[(0,[x])]) (hok:lineB x=true):SmallT cs∧textB (txF cs)=true:=by
 have hl:=hok
 simp only [lineB,Bool.and_eq_true,inB,decide_eq_true_eq,List.all_eq_true] at hl
 refine ⟨?_,by rw [ht];simp [textB,chapB,hok,inB]⟩
 have hlen:cs.length=1:=by rw [←txF_len,ht];rfl
 have hx:∀ z∈cs,z.2.2.2.map (·.2.2)=[x]:=fun z hz=>by
  have:txC z∈txF cs:=List.mem_map.2 ⟨z,hz,rfl⟩
  rw [ht,List.mem_singleton] at this
  exact congrArg Prod.snd this
 refine ⟨by omega,fun z h=>⟨?_,fun y hy=>?_⟩⟩
 ·have:=congrArg List.length (hx z h)
  rw [List.length_map] at this
  simp only [List.length_cons,List.length_nil] at this
  omega
 ·have:y.2.2∈z.2.2.2.map (·.2.2):=List.mem_map.2 ⟨y,hy,rfl⟩
  rw [hx z h,List.mem_singleton] at this
  rw [this]
  exact ⟨by omega,fun s hs=>word_small (hl.2 s hs)⟩
structure LnsOk (x y:List ByteArray):Prop where
 hA:x.length=3
 hB:y.length=3
 g0:x[0]?=y[0]?
 g1:x[1]?=y[1]?
 g2:x[2]?≠y[2]?
 o1:lineB x=true
 o2:lineB y=true
section
variable (a1 a2:Option Addr) (c1 c2:Nat) (l m:Ln) (w:World)
set_option maxHeartbeats 8000000 in
theorem steps2_hand (hR1:RowV w false 1 (.slice a1 1 c1) [encLn l]) (hW1:RowV w false 1 (encLn l) (l.2.2.map strV)) (hR2:RowV w false 1 (.slice a2 1 c2) [encLn m]) (hW2:RowV w false 1 (encLn m) (m.2.2.map strV)) (hok:LnsOk l.2.2 m.2.2) (x:Wr) (hx:okWr x):Ct Tryz.prog 170 [.slice a1 1 c1,.slice a2 1 c2,encWr x] w fun v _=>v=encStp (stepF 1 x):=by
 obtain ⟨p1,o1,rfl,P1⟩:=hR1.place' (j:=0) rfl
 obtain ⟨p2,o2,rfl,P2⟩:=hR2.place' (j:=0) rfl
 have hel:encLn l=.slice l.1 3 l.2.1:=by rw [encLn,hok.hA]
 have hem:encLn m=.slice m.1 3 m.2.1:=by rw [encLn,hok.hB]
 replace P1:At w p1 (o1+0 * 1) [.slice l.1 3 l.2.1]:=by rw [←hel];exact P1
 replace P2:At w p2 (o2+0 * 1) [.slice m.1 3 m.2.1]:=by rw [←hem];exact P2
 rcases hx with rfl|rfl|rfl
 ·refine Ct.ofW (by simp) ?_
  (refine jjB (jjC ?_))
  (refine jy rfl ?_;intro b5 w_b5 hb_b5 hs_b5 hS_b5 hk_b5;have hA_b5:=At.ofBlock hk_b5)
  (apply jJ;exact eI rfl)
  ((skip);refine jjY ?_;intro b7 w_b7 hb_b7 hs_b7 hS_b7 hk_b7;have hA_b7:=Bk.of hk_b7)
  have A5:At w_b7 b5 0 [.int .i64 0,.int .i64 0,.bool false]:=(At.ofBlock hk_b5).ext hS_b7.ext
  have B7:Bk w_b7 b7 [.int .i64 0,.int .i64 0,.bool false] 163:=inferInstance
  have e7:Ext w w_b7:=hS_b5.ext.trans hS_b7.ext
  (refine jJ (eB rfl) (jz (jjB (jjB (jjC (jm ?_)))));refine jn rfl (jN rfl rfl rfl (jI (eS rfl) (jh rfl (jji rfl rfl (by omega) (jI (eB rfl) ?_)))));refine jT rfl rfl rfl (jm (jn rfl (jT rfl rfl rfl (jN rfl rfl rfl (jT rfl rfl rfl ?_)))));refine jI (eS rfl) (jT rfl rfl rfl (jh rfl (jT rfl rfl rfl (jji rfl rfl (by omega) (jL rfl (eB rfl) ?_)))));refine jz (jjK rfl (jjG (jjB ?_))))
  refine W.draw (fun w'=>Ext w_b7 w') ?_
  intro u1 hu1
  (refine jjV [0,1,2] ?_ ?_ ?_;(decide +kernel);(exact hu1.ext);(((apply jjT;exact rfl;rintro w' hq;have:=A5.ext hq;have:=hq.toStep;refine jI (eS rfl) (jz ?_);exact ⟨rfl,rfl⟩;apply jjT;exact rfl;rintro w' hq;have:=A5.ext hq;have:=hq.toStep;refine jm (jn rfl (jz ?_));exact ⟨rfl,rfl⟩;apply jjT;exact rfl;rintro w' hq;have:=A5.ext hq;have:=hq.toStep;refine jN rfl rfl rfl (jz ?_);exact ⟨rfl,rfl⟩;refine jjU ?_))))
  refine jjV [3] (by decide +kernel) hu1.ext (jjT (v:=.pointer (some ⟨p1,o1,none⟩)) rfl (fun w' q1=>?_) (jjU ?_));(refine jH 0 rfl rfl rfl (by omega) ?_;refine jz ?_;exact ⟨rfl,rfl⟩)
  refine jjV [4] (by decide +kernel) hu1.ext (jjT (v:=.slice l.1 3 l.2.1) rfl (fun w' q1=>?_) (jjU ?_));(refine jR ((P1.ext (e7.trans q1)).get (i:=0) rfl) rfl rfl ?_;refine jz ?_;exact ⟨rfl,rfl⟩)
  (refine jjV [6,7,8] ?_ ?_ ?_;(decide +kernel);(exact hu1.ext);(((apply jjT;exact rfl;rintro w' hq;have:=A5.ext hq;have:=hq.toStep;refine jI (eS rfl) (jz ?_);exact ⟨rfl,rfl⟩;apply jjT;exact rfl;rintro w' hq;have:=A5.ext hq;have:=hq.toStep;refine jm (jn rfl (jz ?_));exact ⟨rfl,rfl⟩;apply jjT;exact rfl;rintro w' hq;have:=A5.ext hq;have:=hq.toStep;refine jN rfl rfl rfl (jz ?_);exact ⟨rfl,rfl⟩;refine jjU ?_))))
  refine jjV [9] (by decide +kernel) hu1.ext (jjT (v:=.pointer (some ⟨p2,o2,none⟩)) rfl (fun w' q1=>?_) (jjU ?_));(refine jH 0 rfl rfl rfl (by omega) ?_;refine jz ?_;exact ⟨rfl,rfl⟩)
  refine jjV [10] (by decide +kernel) hu1.ext (jjT (v:=.slice m.1 3 m.2.1) rfl (fun w' q1=>?_) (jjU ?_));(refine jR ((P2.ext (e7.trans q1)).get (i:=0) rfl) rfl rfl ?_;refine jz ?_;exact ⟨rfl,rfl⟩)
  (apply jjW 5;(decide +kernel);exact rfl;(exact hu1.ext))
  refine jjQ (single_hand l _ (hW1.ext (e7.trans hu1.ext))) rfl (by rw [hel];rfl) ?_
  rintro _ w4 hS4 ⟨a4,c4,cs,rfl,hRc,hTc,hc⟩
  refine jz ?_
  have e4:Ext w_b7 w4:=hu1.ext.trans hS4.ext
  (apply jjW 11;(decide +kernel);exact rfl;(exact e4))
  refine jjQ (single_hand m _ (hW2.ext (e7.trans e4))) rfl (by rw [hem];rfl) ?_
  rintro _ w5 hS5 ⟨a5,c5,ds,rfl,hRd,hTd,hd⟩
  refine jz ?_
  have e5:Ext w_b7 w5:=e4.trans hS5.ext
  obtain ⟨s1,t1⟩:=small_single hc hok.o1
  obtain ⟨s2,t2⟩:=small_single hd hok.o2
  have i1:RowI w5 (.slice a4 cs.length c4) true 2 (cs.map encCh):=⟨hRc.ext hS5.ext⟩
  have j1:TextI w5 cs:=hTc.ext hS5.ext
  have i2:RowI w5 (.slice a5 ds.length c5) true 2 (ds.map encCh):=⟨hRd⟩
  (apply jjW 12;(decide +kernel);exact rfl;(exact e5))
  refine jjQ (Apart_leaf a4 a5 c4 c5 cs ds l.2.2 m.2.2 _ s1 s2 t1 t2 hc hd hok.hA hok.hB hok.g0 hok.g1 hok.g2) rfl rfl ?_
  rintro _ w6 hS6 rfl
  refine jz ?_
  have e6:Ext w_b7 w6:=e5.trans hS6.ext
  (refine jjV [13,14,15,16,17] ?_ ?_ ?_;(decide +kernel);(exact e6);(((refine jjT rfl (fun _ _=>jI (eU rfl) (jz ⟨rfl,rfl⟩)) (jjT rfl (fun _ _=>ju rfl rfl (jz ⟨rfl,rfl⟩)) (jjT rfl (fun _ _=>ju rfl rfl (jz ⟨rfl,rfl⟩)) (jjT rfl (fun _ _=>jJ (eI rfl) (jz ⟨rfl,rfl⟩)) (jjT rfl (fun _ _=>jJ (eI rfl) (jz ⟨rfl,rfl⟩)) (jjU ?_)))))))))
  refine jjX (by decide +kernel) e6 ?_
  have A56:=A5.ext e6
  have B76:=B7.ext e6
  (refine jjB ?_)
  refine W.draw (fun w'=>At w' b5 0 [.int .i64 0,.int .i64 0,.bool false]∧Ext w w') ?_
  intro u2 hu2
  have g1:At u2 b5 0 [.int .i64 0,.int .i64 0,.bool false]∧Ext w u2:=⟨A56.ext hu2.ext,e7.trans (e6.trans hu2.ext)⟩
  (refine jjV [0,1,2,3,4,5,6] ?_ ?_ ?_;(decide +kernel);(exact g1);(((refine jjT rfl (fun _ _=>jI (eI rfl) (jz ⟨rfl,rfl⟩)) ?_;apply jjT;exact rfl;rintro w' ⟨hq,_⟩;refine jm (jn rfl (jz ?_));exact ⟨rfl,rfl⟩;apply jjT;exact rfl;rintro w' ⟨hq,_⟩;refine jN rfl rfl rfl (jz ?_);exact ⟨rfl,rfl⟩;refine jjT rfl (fun _ _=>jY rfl rfl (by omega) (jz ⟨rfl,rfl⟩)) ?_;apply jjT;exact rfl;rintro w' ⟨hq,_⟩;refine jm (jn rfl (jz ?_));exact ⟨rfl,rfl⟩;apply jjT;exact rfl;rintro w' ⟨hq,_⟩;refine jN rfl rfl rfl (jz ?_);exact ⟨rfl,rfl⟩;refine jjT rfl (fun _ _=>jY rfl rfl (by omega) (jz ⟨rfl,rfl⟩)) (jjU ?_)))))
  refine jjV [7] (by decide +kernel) g1 (jjT (v:=.agg #[.int .i64 1,.int .i64 1,.bool true]) rfl (fun w' q1=>?_) (jjU ?_));(refine jjS (cells:=[.int .i64 1,.int .i64 1,.bool true]) ?_ ?_;exact rfl;refine jz ?_;exact ⟨rfl,rfl⟩)
  (refine jjV [8] ?_ ?_ ?_;(decide +kernel);(exact g1);(((refine jjT rfl (fun _ _=>jJ (eI rfl) (jz ⟨rfl,rfl⟩)) (jjU ?_)))))
  have B77:=B76.ext hu2.ext
  (apply jjW 9;(decide +kernel);exact rfl;(exact g1))
  refine Ops.store rfl rfl rfl rfl rfl ?_
  intro w7 hp7
  have A7:At w7 b7 0 [.int .i64 1,.int .i64 1,.bool true]:=Bk.toAt (h:=⟨hp7.new⟩)
  have e8:Ext w w7:=hp7.ext g1.2 (by omega)
  have g2:At w7 b5 0 [.int .i64 0,.int .i64 0,.bool false]∧Ext w w7:=⟨hp7.at_ g1.1 (by omega),e8⟩
  refine jz ?_
  (refine jjV [10] ?_ ?_ ?_;(decide +kernel);(exact g2);(((refine jjT rfl (fun _ _=>jJ (eB rfl) (jz ⟨rfl,rfl⟩)) (jjU ?_)))))
  refine jjX (by decide +kernel) g2 ?_
  (refine jjF ?_)
  exact fin3TCT rfl rfl rfl rfl rfl A7 rfl rfl ⟨e8,rfl⟩
 ·refine Ct.ofW (by simp) ?_
  (refine jjB (jjC ?_))
  (refine jy rfl ?_;intro b5 w_b5 hb_b5 hs_b5 hS_b5 hk_b5;have hA_b5:=At.ofBlock hk_b5)
  (apply jJ;exact eI rfl)
  ((skip);refine jjY ?_;intro b7 w_b7 hb_b7 hs_b7 hS_b7 hk_b7;have hA_b7:=Bk.of hk_b7)
  have A5:At w_b7 b5 0 [.int .i64 1,.int .i64 1,.bool true]:=(At.ofBlock hk_b5).ext hS_b7.ext
  have B7:Bk w_b7 b7 [.int .i64 0,.int .i64 0,.bool false] 163:=inferInstance
  have e7:Ext w w_b7:=hS_b5.ext.trans hS_b7.ext
  (refine jJ (eB rfl) (jz (jjB (jjB (jjC (jm ?_)))));refine jn rfl (jN rfl rfl rfl (jI (eS rfl) (jh rfl (jjh rfl rfl (by omega) (jI (eB rfl) ?_)))));refine jU rfl rfl rfl rfl (jU rfl rfl rfl rfl (jU rfl rfl rfl rfl (jU rfl rfl rfl rfl (jU rfl rfl rfl rfl (jK rfl (eB rfl) ?_)))));refine jz (jjJ rfl (jjB ?_)))
  refine W.draw (fun w'=>At w' b5 0 [.int .i64 1,.int .i64 1,.bool true]∧Ext w w') ?_
  intro u2 hu2
  have g1:At u2 b5 0 [.int .i64 1,.int .i64 1,.bool true]∧Ext w u2:=⟨A5.ext hu2.ext,e7.trans hu2.ext⟩
  refine jjV [0] (by decide +kernel) g1 (jjT (v:=.agg #[.int .i64 1,.int .i64 1,.bool true]) rfl (fun w' q1=>?_) (jjU ?_));(refine Ops.loadOA (off:=0) q1.1 rfl rfl rfl rfl ?_;refine jz ?_;exact ⟨rfl,rfl⟩)
  (refine jjV [1] ?_ ?_ ?_;(decide +kernel);(exact g1);(((refine jjT rfl (fun _ _=>jJ (eI rfl) (jz ⟨rfl,rfl⟩)) (jjU ?_)))))
  have B77:=B7.ext hu2.ext
  (apply jjW 2;(decide +kernel);exact rfl;(exact g1))
  refine Ops.store rfl rfl rfl rfl rfl ?_
  intro w7 hp7
  have A7:At w7 b7 0 [.int .i64 1,.int .i64 1,.bool true]:=Bk.toAt (h:=⟨hp7.new⟩)
  have e8:Ext w w7:=hp7.ext g1.2 (by omega)
  have g2:At w7 b5 0 [.int .i64 1,.int .i64 1,.bool true]∧Ext w w7:=⟨hp7.at_ g1.1 (by omega),e8⟩
  refine jz ?_
  (refine jjV [3] ?_ ?_ ?_;(decide +kernel);(exact g2);(((refine jjT rfl (fun _ _=>jJ (eB rfl) (jz ⟨rfl,rfl⟩)) (jjU ?_)))))
  refine jjX (by decide +kernel) g2 ?_
  (refine jjF ?_)
  exact fin3TCT rfl rfl rfl rfl rfl A7 rfl rfl ⟨e8,rfl⟩
 ·refine Ct.ofW (by simp) ?_
  (refine jjB (jjC ?_))
  (refine jy rfl ?_;intro b5 w_b5 hb_b5 hs_b5 hS_b5 hk_b5;have hA_b5:=At.ofBlock hk_b5)
  (apply jJ;exact eI rfl)
  ((skip);refine jjY ?_;intro b7 w_b7 hb_b7 hs_b7 hS_b7 hk_b7;have hA_b7:=Bk.of hk_b7)
  have A5:At w_b7 b5 0 [.int .i64 1,.int .i64 0,.bool false]:=(At.ofBlock hk_b5).ext hS_b7.ext
  have B7:Bk w_b7 b7 [.int .i64 0,.int .i64 0,.bool false] 163:=inferInstance
  have e7:Ext w w_b7:=hS_b5.ext.trans hS_b7.ext
  (refine jJ (eB rfl) (jz (jjB (jjB (jjC (jm ?_)))));refine jn rfl (jN rfl rfl rfl (jI (eS rfl) (jh rfl (jjh rfl rfl (by omega) (jI (eB rfl) ?_)))));refine jU rfl rfl rfl rfl (jU rfl rfl rfl rfl (jU rfl rfl rfl rfl (jU rfl rfl rfl rfl (jU rfl rfl rfl rfl (jK rfl (eB rfl) ?_)))));refine jz (jjJ rfl (jjB ?_)))
  refine W.draw (fun w'=>At w' b5 0 [.int .i64 1,.int .i64 0,.bool false]∧Ext w w') ?_
  intro u2 hu2
  have g1:At u2 b5 0 [.int .i64 1,.int .i64 0,.bool false]∧Ext w u2:=⟨A5.ext hu2.ext,e7.trans hu2.ext⟩
  refine jjV [0] (by decide +kernel) g1 (jjT (v:=.agg #[.int .i64 1,.int .i64 0,.bool false]) rfl (fun w' q1=>?_) (jjU ?_));(refine Ops.loadOA (off:=0) q1.1 rfl rfl rfl rfl ?_;refine jz ?_;exact ⟨rfl,rfl⟩)
  (refine jjV [1] ?_ ?_ ?_;(decide +kernel);(exact g1);(((refine jjT rfl (fun _ _=>jJ (eI rfl) (jz ⟨rfl,rfl⟩)) (jjU ?_)))))
  have B77:=B7.ext hu2.ext
  (apply jjW 2;(decide +kernel);exact rfl;(exact g1))
  refine Ops.store rfl rfl rfl rfl rfl ?_
  intro w7 hp7
  have A7:At w7 b7 0 [.int .i64 1,.int .i64 0,.bool false]:=Bk.toAt (h:=⟨hp7.new⟩)
  have e8:Ext w w7:=hp7.ext g1.2 (by omega)
  have g2:At w7 b5 0 [.int .i64 1,.int .i64 0,.bool false]∧Ext w w7:=⟨hp7.at_ g1.1 (by omega),e8⟩
  refine jz ?_
  (refine jjV [3] ?_ ?_ ?_;(decide +kernel);(exact g2);(((refine jjT rfl (fun _ _=>jJ (eB rfl) (jz ⟨rfl,rfl⟩)) (jjU ?_)))))
  refine jjX (by decide +kernel) g2 ?_
  (refine jjF ?_)
  exact fin3TCT rfl rfl rfl rfl rfl A7 rfl rfl ⟨e8,rfl⟩
end

abbrev neverI:Int:=1073741824
def costF (x:Wr):Int:=if x.1=0 then 1 else if x.2.1=1 then 0 else neverI
def nK (x:Wr) (j:Nat):Int:=if x.1=0 then (if j≤1 then neverI else 1) else if x.2.1=1 then 0 else neverI
def stepG (j:Nat):Nat:=if j=0 then 169 else if j=1 then 170 else 172
def kindG (j:Nat):Int:=if j=0 then 2 else if j=1 then 3 else 1
theorem three {j:Nat} (h:j<3):j=0∨j=1∨j=2:=by omega
theorem stepG_idx {j:Nat} (hj:j<3):(stepsC.drop (j * 2)).take 2=[.int .u8 (kindG j),.func (.func (stepG j)) #[] #[]]:=by
 rcases three hj with rfl|rfl|rfl<;>rfl
instance enters_step (j:Nat):Enters Tryz.prog (stepG j):=by
 unfold stepG
 split
 ·infer_instance
 ·split<;>infer_instance
theorem step_ok {x:Wr} (hx:okWr x) {j:Nat} (hj:j<3):∃ (q:Int) (y:Wr) (b:Bool),stepF j x=(q,y,b)∧0≤q∧q≤1∧(b=true→x.1=0∧okWr y∧y.1=1∧min (nK x j) (q+costF y)=nK x (j+1))∧(b=false→nK x j=nK x (j+1)):=by
 rcases hx with rfl|rfl|rfl<;>rcases three hj with rfl|rfl|rfl<;>refine ⟨_,_,_,rfl,by decide,by decide,?_,?_⟩<;>first|(intro h;exact absurd h (by decide))|(intro _;decide)|(intro _;exact ⟨by decide,by simp [okWr],by decide,by decide⟩)
theorem cost_bd (x:Wr):0≤costF x∧costF x≤neverI:=by unfold costF neverI;split<;>(try split)<;>omega
theorem nK_bd (x:Wr) (j:Nat):0≤nK x j∧nK x j≤neverI:=by unfold nK neverI;split<;>split<;>omega
theorem nK_three {x:Wr} (hx:okWr x):nK x 3=costF x:=by rcases hx with rfl|rfl|rfl<;>rfl
structure TcC where
 bk:Nat
 ba:Nat
 bb:Nat
 bc:Nat
 mb:Nat
 a1:Option Addr
 c1:Nat
 a2:Option Addr
 c2:Nat
 l:Ln
 m:Ln
def TcC.args (c:TcC):List Value:=[.pointer (some ⟨c.bk,0,none⟩),.pointer (some ⟨c.ba,0,none⟩),.pointer (some ⟨c.bb,0,none⟩),.pointer (some ⟨c.bc,0,none⟩)]
def costOk (m:List (Wr×Value)):Prop:=∀ k v,mget m k=some v→okWr k→v=.int .i64 (costF k)
structure TF (c:TcC) (w:World):Prop where
 hk:At w c.bk 0 [.map (some c.mb)]
 ha:At w c.ba 0 [.slice c.a1 1 c.c1]
 hb:At w c.bb 0 [.slice c.a2 1 c.c2]
 hc:At w c.bc 0 [.func (.func 81) #[] c.args.toArray]
 hs:At w 0 0 stepsC
 r1:RowV w false 1 (.slice c.a1 1 c.c1) [encLn c.l]
 w1:RowV w false 1 (encLn c.l) (c.l.2.2.map strV)
 r2:RowV w false 1 (.slice c.a2 1 c.c2) [encLn c.m]
 w2:RowV w false 1 (encLn c.m) (c.m.2.2.map strV)
 ok:LnsOk c.l.2.2 c.m.2.2
 km:∃ m,MapE encWr w c.mb m∧costOk m
 ne:c.bk≠c.mb∧c.ba≠c.mb∧c.bb≠c.mb∧c.bc≠c.mb∧0≠c.mb
 o1:(Value.slice c.a1 1 c.c1).ownBlock≠some c.mb
 o2:(encLn c.l).ownBlock≠some c.mb
 o3:(Value.slice c.a2 1 c.c2).ownBlock≠some c.mb
 o4:(encLn c.m).ownBlock≠some c.mb
theorem TF.only {c:TcC} {w w':World} (f:TF c w) (o:Only c.mb w w') (h:∃ m,MapE encWr w' c.mb m∧costOk m):TF c w' :=
 ⟨o.at_ f.hk f.ne.1,o.at_ f.ha f.ne.2.1,o.at_ f.hb f.ne.2.2.1,o.at_ f.hc f.ne.2.2.2.1,o.at_ f.hs f.ne.2.2.2.2,o.row f.r1 f.o1,o.row f.w1 f.o2,o.row f.r2 f.o3,o.row f.w2 f.o4,f.ok,h,f.ne,f.o1,f.o2,f.o3,f.o4⟩
theorem TF.ext {c:TcC} {w w':World} (f:TF c w) (e:Ext w w'):TF c w':=f.only (.ofExt e) (f.km.imp fun _ h=>⟨h.1.ext e,h.2⟩)
theorem step_hand {c:TcC} {w:World} (hK:TF c w) {x:Wr} (hx:okWr x) {j:Nat} (hj:j<3):Ct Tryz.prog (stepG j) [.slice c.a1 1 c.c1,.slice c.a2 1 c.c2,encWr x] w fun v _=>v=encStp (stepF j x):=by
 rcases three hj with rfl|rfl|rfl
 ·exact steps1_hand c.a1 c.a2 c.c1 c.c2 w x hx
 ·exact steps2_hand c.a1 c.a2 c.c1 c.c2 c.l c.m w hK.r1 hK.w1 hK.r2 hK.w2 hK.ok x hx
 ·exact steps3_hand c.a1 c.a2 c.c1 c.c2 w x hx
def CostR (c:TcC) (x:Wr) (w:World) (e:Ending) (w':World):Prop:=e=.returned (.int .i64 (costF x))∧Only c.mb w w'∧TF c w'
set_option maxHeartbeats 16000000 in
theorem cost_step (c:TcC) (x:Wr) (hx:okWr x) (w:World) (hK:TF c w) (hrec:x.1=0→∀ (y:Wr) (w:World),okWr y→y.1=1→TF c w→Calls Tryz.prog 81 ([encWr y]++c.args).toArray w (CostR c y w)) :
  Calls Tryz.prog 81 ([encWr x]++c.args).toArray w (CostR c x w):=by
 obtain ⟨m,hm,hok⟩:=hK.km
 have hlt:=hm.lt
 rcases hx with rfl|rfl|rfl
 ·have hx:okWr ((0,0,false):Wr):=by simp [okWr]
  have hst:=hK.hs
  have h1:=hK.hk
  have h2:=hK.ha
  have h3:=hK.hb
  refine Calls.ofW (by simp [TcC.args]) ?_
  (refine jjB (jjC ?_))
  (refine jy rfl ?_;intro b5 w_b5 hb_b5 hs_b5 hS_b5 hk_b5;have hA_b5:=At.ofBlock hk_b5)
  have A5:At w_b5 b5 0 [.int .i64 0,.int .i64 0,.bool false]:=At.ofBlock hk_b5
  have e5:=hS_b5.ext
  (refine jJ (eI rfl) (jz (jjB (jjB (jjC (jN rfl rfl rfl ?_)))));refine jO rfl rfl rfl rfl ?_)
  refine Ops.lookupOk (k:=((0,0,false):Wr)) (hm.ext e5) rfl rfl ?_
  cases hg:mget m ((0,0,false):Wr) with
  | some v =>
    obtain rfl:=hok _ v hg hx
    (refine jI (eU rfl) (ju rfl rfl (ju rfl rfl (jJ (eI rfl) (jJ (eB rfl) (jz ?_)))));refine jjB (jjC (jI (eB rfl) (jz (jjJ rfl (jjB ?_)))));refine jjC (jI (eI rfl) (jJ (eI rfl) (jz (jjF ?_)))))
    exact jB rfl rfl ⟨rfl,.ofExt e5,hK.ext e5⟩
  | none =>
  (refine jI (eU rfl) (ju rfl rfl (ju rfl rfl (jJ (eI rfl) (jJ (eB rfl) (jz ?_)))));refine jjB (jjC (jI (eB rfl) (jz (jjK rfl (jjG ?_)))));refine jjB (jjC (jJ (eI rfl) (jz (jjB (jjB ?_)))));refine jjC (jm (jn rfl (jN rfl rfl rfl (jN rfl rfl rfl (jh rfl ?_)))));refine jji rfl rfl (by omega) (jI (eB rfl) (jU rfl rfl rfl rfl (jU rfl rfl rfl rfl (jU rfl rfl rfl rfl (jU rfl rfl rfl rfl ?_)))));refine jU rfl rfl rfl rfl (jL rfl (eB rfl) (jz (jjK rfl (jjG (jjB ?_)))));refine jjB (jjC (jO rfl rfl rfl rfl (jI (eI rfl) (jz (jjD ?_))))))
  refine W.keep0 [(1,.pointer (some ⟨c.bk,0,none⟩)),(2,.pointer (some ⟨c.ba,0,none⟩)),(3,.pointer (some ⟨c.bb,0,none⟩)),(4,.pointer (some ⟨c.bc,0,none⟩)),(5,.pointer (some ⟨b5,0,none⟩)),(9,.int .i64 1073741824),(35,.agg stepsC.toArray),(36,.int .i64 ((0:Nat):Int))] ⟨eP rfl,eP rfl,eP rfl,eP rfl,eP rfl,eI rfl,eA rfl,eI rfl,trivial⟩ fun s0=>?_
  refine W.loopG (37::38::11::40::41::42::43::44::45::39::46::47::48::13::12::14::49::50::51::52::53::54::55::56::9::57::36::[]) (fun g s' V=>∃ j:Nat,s' 36=.int .i64 (j:Int)∧s' 9=.int .i64 (nK ((0,0,false):Wr) j)∧g=3-j∧j≤3∧Only c.mb w V∧TF c V∧At V b5 0 [.int .i64 0,.int .i64 0,.bool false]) 3 ⟨0,rfl,rfl,rfl,by omega,.ofExt e5,hK.ext e5,A5⟩ ?_
  rintro _ sd V ⟨j,h36,h9,rfl,hj,hOn,hKj,hA⟩
  have hnb:0≤nK ((0,0,false):Wr) j∧nK ((0,0,false):Wr) j≤1073741824:=nK_bd ((0,0,false):Wr) j
  obtain ⟨n,hn⟩:∃ n,nK ((0,0,false):Wr) j=n:=⟨_,rfl⟩
  rw [hn] at h9 hnb
  refine W.fix h36 (W.fix (d:=9) h9 ?_)
  clear h36 h9
  have zb5:b5≠c.mb:=by omega
  by_cases hj1:j<3
  ·obtain ⟨q,y,b,hsf,hq0,hq1,hyes,hno⟩:=step_ok hx hj1
   (refine jjB (jjC (jjZ rfl rfl (by omega) (jz (jjB (jjJ rfl ?_)))));refine jjG (jjB (jjD (jjB (jjC ?_)))))
   refine Ops.indexA (j:=j) rfl rfl rfl (by simp;omega) rfl (stepG_idx hj1) ?_
   (apply jjR rfl;(intro _;first|exact eI rfl|exact eB rfl|exact eP rfl|exact eS rfl|exact eT rfl|exact eA rfl|exact eU rfl|exact eF rfl|exact eM rfl|exact eN rfl|exact rfl);exact rfl;exact rfl;exact rfl;exact rfl;intro b11 w_b11 hb_b11 hs_b11 hS_b11 hk_b11;have hA_b11:=Bk.of hk_b11)
   have A11:At w_b11 b11 0 [.int .u8 (kindG j),.func (.func (stepG j)) #[] #[]]:=Bk.toAt (h:=hA_b11)
   have e11:=hS_b11.ext
   have hK11:=hKj.ext e11
   have k2:=hK11.ha
   have k3:=hK11.hb
   have k5:At w_b11 b5 0 [.int .i64 0,.int .i64 0,.bool false]:=hA.ext e11
   (refine jz (jjB (jjC (jm (jn rfl (jN rfl rfl rfl ?_)))));refine jN rfl rfl rfl (jN rfl rfl rfl (jO rfl rfl rfl rfl ?_)))
   refine jjQ ((step_hand hK11 hx hj1).mono fun v _ _ h=>h.trans (by rw [hsf])) rfl rfl ?_
   rintro _ w12 hS12 rfl
   (refine jI (eU rfl) (ju rfl rfl (ju rfl rfl (ju rfl rfl ?_))))
   ((skip);refine jjY ?_;intro b13 w_b13 hb_b13 hs_b13 hS_b13 hk_b13;have hA_b13:=Bk.of hk_b13)
   (apply jJ;exact eI rfl)
   refine Ops.store rfl rfl rfl rfl rfl ?_
   intro w14 hp14
   have A13:At w14 b13 0 [.int .i64 y.1,.int .i64 y.2.1,.bool y.2.2]:=Bk.toAt (h:=⟨hp14.new⟩)
   have e14:Ext V w14:=hp14.ext (e11.trans (hS12.ext.trans hS_b13.ext)) (by have:=e11.size;have:=hS12.size;omega)
   have hOn14:=hOn.trans (.ofExt e14)
   have hK14:=hKj.ext e14
   have hA14:=hA.ext e14
   have k4:=hK14.hc
   cases b with
   | false =>
     (refine jJ (eB rfl) (jz (jjB (jjC (jI (eB rfl) (jz ?_)))));refine jjK rfl (jjG (jjC (jY rfl rfl (by omega) (jI (eI rfl) (jz ?_))))))
     exact ⟨rfl,by (((iterate 21 refine Same.upd rfl ?_);exact Same.ovN)),3-(j+1),by omega,j+1,congrArg (Value.int .i64) (by omega),congrArg (Value.int .i64) (by rw [←hno rfl,hn]),rfl,by omega,hOn14,hK14,hA14⟩
   | true =>
     obtain ⟨-,hyo,hy1,hmin⟩:=hyes rfl
     have hcb:0≤costF y∧costF y≤1073741824:=cost_bd y
     (refine jJ (eB rfl) (jz (jjB (jjC (jI (eB rfl) (jz ?_)))));refine jjJ rfl (jjC (jI (eI rfl) (jI (eI rfl) (jN rfl rfl rfl (jO rfl rfl rfl rfl ?_))))))
     refine Ops.callR rfl (Enters.h (P:=Tryz.prog) (g:=81)) rfl (hrec rfl y _ hyo hy1 hK14) ?_
     rintro _ w15 ⟨rfl,hOn15,hK15⟩
     refine ⟨_,rfl,?_⟩
     (refine jY rfl rfl (by omega) (jj rfl rfl (jJ (eI rfl) (jz (jjC (jY rfl rfl (by omega) ?_)))));refine jI (eI rfl) (jz ?_))
     exact ⟨rfl,by (((iterate 29 refine Same.upd rfl ?_);exact Same.ovN)),3-(j+1),by omega,j+1,congrArg (Value.int .i64) (by omega),congrArg (Value.int .i64) (by rw [←hmin,hn]),rfl,by omega,hOn14.trans hOn15,hK15,hOn15.at_ hA14 zb5⟩
  obtain rfl:j=3:=by omega
  have k1:=hKj.hk
  obtain ⟨m2,hm2,hok2⟩:=hKj.km
  have hn3:n=costF ((0,0,false):Wr):=by rw [←hn];exact nK_three hx
  (refine jjB (jjC (jja rfl rfl (by omega) (jz (jjB (jjK rfl ?_)))));refine jjE (jjB (jjC (jN rfl rfl rfl (jO rfl rfl rfl rfl (jI (eI rfl) ?_))))))
  refine Ops.mapUpdate (k:=((0,0,false):Wr)) (v:=.int .i64 n) hm2 rfl rfl rfl ?_
  intro w7 o7 hp7 hM7
  have hOn7:Only c.mb w w7:=hOn.trans (.ofPut hp7)
  have hok7:costOk (mset m2 ((0,0,false):Wr) (.int .i64 n)):=fun z v hz hzo=>by
   by_cases e:z=((0,0,false):Wr)
   ·subst e;rw [mget_set_same] at hz;cases hz;rw [hn3]
   ·rw [mget_set_other _ _ e] at hz;exact hok2 z v hz hzo
  have hK7:=hK.only hOn7 ⟨_,hM7,hok7⟩
  (refine jz (jjB (jjC (jI (eI rfl) (jJ (eI rfl) (jz ?_)))));refine jjF ?_)
  exact jB rfl rfl ⟨by rw [←hn3];rfl,hOn7,hK7⟩
 ·have hx:okWr ((1,1,true):Wr):=by simp [okWr]
  have hst:=hK.hs
  have h1:=hK.hk
  have h2:=hK.ha
  have h3:=hK.hb
  refine Calls.ofW (by simp [TcC.args]) ?_
  (refine jjB (jjC ?_))
  (refine jy rfl ?_;intro b5 w_b5 hb_b5 hs_b5 hS_b5 hk_b5;have hA_b5:=At.ofBlock hk_b5)
  have A5:At w_b5 b5 0 [.int .i64 1,.int .i64 1,.bool true]:=At.ofBlock hk_b5
  have e5:=hS_b5.ext
  (refine jJ (eI rfl) (jz (jjB (jjB (jjC (jN rfl rfl rfl ?_)))));refine jO rfl rfl rfl rfl ?_)
  refine Ops.lookupOk (k:=((1,1,true):Wr)) (hm.ext e5) rfl rfl ?_
  cases hg:mget m ((1,1,true):Wr) with
  | some v =>
    obtain rfl:=hok _ v hg hx
    (refine jI (eU rfl) (ju rfl rfl (ju rfl rfl (jJ (eI rfl) (jJ (eB rfl) (jz ?_)))));refine jjB (jjC (jI (eB rfl) (jz (jjJ rfl (jjB ?_)))));refine jjC (jI (eI rfl) (jJ (eI rfl) (jz (jjF ?_)))))
    exact jB rfl rfl ⟨rfl,.ofExt e5,hK.ext e5⟩
  | none =>
  (refine jI (eU rfl) (ju rfl rfl (ju rfl rfl (jJ (eI rfl) (jJ (eB rfl) (jz ?_)))));refine jjB (jjC (jI (eB rfl) (jz (jjK rfl (jjG ?_)))));refine jjB (jjC (jJ (eI rfl) (jz (jjB (jjB ?_)))));refine jjC (jm (jn rfl (jN rfl rfl rfl (jN rfl rfl rfl (jh rfl ?_)))));refine jjh rfl rfl (by omega) (jI (eB rfl) (jT rfl rfl rfl (jm (jn rfl (jT rfl rfl rfl ?_)))));refine jN rfl rfl rfl (jT rfl rfl rfl (jN rfl rfl rfl (jT rfl rfl rfl (jh rfl (jT rfl rfl rfl ?_)))));refine jjh rfl rfl (by omega) (jK rfl (eB rfl) (jz (jjJ rfl (jjC (jJ (eI rfl) ?_)))));refine jz (jjB (jjB (jjC (jO rfl rfl rfl rfl (jI (eI rfl) ?_)))));refine jz (jjD ?_))
  refine W.keep0 [(1,.pointer (some ⟨c.bk,0,none⟩)),(2,.pointer (some ⟨c.ba,0,none⟩)),(3,.pointer (some ⟨c.bb,0,none⟩)),(4,.pointer (some ⟨c.bc,0,none⟩)),(5,.pointer (some ⟨b5,0,none⟩)),(9,.int .i64 0),(35,.agg stepsC.toArray),(36,.int .i64 ((0:Nat):Int))] ⟨eP rfl,eP rfl,eP rfl,eP rfl,eP rfl,eI rfl,eA rfl,eI rfl,trivial⟩ fun s0=>?_
  refine W.loopG (37::38::11::40::41::42::43::44::45::39::46::47::48::13::12::14::49::50::51::52::53::54::55::56::9::57::36::[]) (fun g s' V=>∃ j:Nat,s' 36=.int .i64 (j:Int)∧s' 9=.int .i64 (nK ((1,1,true):Wr) j)∧g=3-j∧j≤3∧Only c.mb w V∧TF c V∧At V b5 0 [.int .i64 1,.int .i64 1,.bool true]) 3 ⟨0,rfl,rfl,rfl,by omega,.ofExt e5,hK.ext e5,A5⟩ ?_
  rintro _ sd V ⟨j,h36,h9,rfl,hj,hOn,hKj,hA⟩
  have hnb:0≤nK ((1,1,true):Wr) j∧nK ((1,1,true):Wr) j≤1073741824:=nK_bd ((1,1,true):Wr) j
  obtain ⟨n,hn⟩:∃ n,nK ((1,1,true):Wr) j=n:=⟨_,rfl⟩
  rw [hn] at h9 hnb
  refine W.fix h36 (W.fix (d:=9) h9 ?_)
  clear h36 h9
  have zb5:b5≠c.mb:=by omega
  by_cases hj1:j<3
  ·obtain ⟨q,y,b,hsf,hq0,hq1,hyes,hno⟩:=step_ok hx hj1
   (refine jjB (jjC (jjZ rfl rfl (by omega) (jz (jjB (jjJ rfl ?_)))));refine jjG (jjB (jjD (jjB (jjC ?_)))))
   refine Ops.indexA (j:=j) rfl rfl rfl (by simp;omega) rfl (stepG_idx hj1) ?_
   (apply jjR rfl;(intro _;first|exact eI rfl|exact eB rfl|exact eP rfl|exact eS rfl|exact eT rfl|exact eA rfl|exact eU rfl|exact eF rfl|exact eM rfl|exact eN rfl|exact rfl);exact rfl;exact rfl;exact rfl;exact rfl;intro b11 w_b11 hb_b11 hs_b11 hS_b11 hk_b11;have hA_b11:=Bk.of hk_b11)
   have A11:At w_b11 b11 0 [.int .u8 (kindG j),.func (.func (stepG j)) #[] #[]]:=Bk.toAt (h:=hA_b11)
   have e11:=hS_b11.ext
   have hK11:=hKj.ext e11
   have k2:=hK11.ha
   have k3:=hK11.hb
   have k5:At w_b11 b5 0 [.int .i64 1,.int .i64 1,.bool true]:=hA.ext e11
   (refine jz (jjB (jjC (jm (jn rfl (jN rfl rfl rfl ?_)))));refine jN rfl rfl rfl (jN rfl rfl rfl (jO rfl rfl rfl rfl ?_)))
   refine jjQ ((step_hand hK11 hx hj1).mono fun v _ _ h=>h.trans (by rw [hsf])) rfl rfl ?_
   rintro _ w12 hS12 rfl
   (refine jI (eU rfl) (ju rfl rfl (ju rfl rfl (ju rfl rfl ?_))))
   ((skip);refine jjY ?_;intro b13 w_b13 hb_b13 hs_b13 hS_b13 hk_b13;have hA_b13:=Bk.of hk_b13)
   (apply jJ;exact eI rfl)
   refine Ops.store rfl rfl rfl rfl rfl ?_
   intro w14 hp14
   have A13:At w14 b13 0 [.int .i64 y.1,.int .i64 y.2.1,.bool y.2.2]:=Bk.toAt (h:=⟨hp14.new⟩)
   have e14:Ext V w14:=hp14.ext (e11.trans (hS12.ext.trans hS_b13.ext)) (by have:=e11.size;have:=hS12.size;omega)
   have hOn14:=hOn.trans (.ofExt e14)
   have hK14:=hKj.ext e14
   have hA14:=hA.ext e14
   have k4:=hK14.hc
   cases b with
   | false =>
     (refine jJ (eB rfl) (jz (jjB (jjC (jI (eB rfl) (jz ?_)))));refine jjK rfl (jjG (jjC (jY rfl rfl (by omega) (jI (eI rfl) (jz ?_))))))
     exact ⟨rfl,by (((iterate 21 refine Same.upd rfl ?_);exact Same.ovN)),3-(j+1),by omega,j+1,congrArg (Value.int .i64) (by omega),congrArg (Value.int .i64) (by rw [←hno rfl,hn]),rfl,by omega,hOn14,hK14,hA14⟩
   | true =>
     exact absurd (hyes rfl).1 (by decide)
  obtain rfl:j=3:=by omega
  have k1:=hKj.hk
  obtain ⟨m2,hm2,hok2⟩:=hKj.km
  have hn3:n=costF ((1,1,true):Wr):=by rw [←hn];exact nK_three hx
  (refine jjB (jjC (jja rfl rfl (by omega) (jz (jjB (jjK rfl ?_)))));refine jjE (jjB (jjC (jN rfl rfl rfl (jO rfl rfl rfl rfl (jI (eI rfl) ?_))))))
  refine Ops.mapUpdate (k:=((1,1,true):Wr)) (v:=.int .i64 n) hm2 rfl rfl rfl ?_
  intro w7 o7 hp7 hM7
  have hOn7:Only c.mb w w7:=hOn.trans (.ofPut hp7)
  have hok7:costOk (mset m2 ((1,1,true):Wr) (.int .i64 n)):=fun z v hz hzo=>by
   by_cases e:z=((1,1,true):Wr)
   ·subst e;rw [mget_set_same] at hz;cases hz;rw [hn3]
   ·rw [mget_set_other _ _ e] at hz;exact hok2 z v hz hzo
  have hK7:=hK.only hOn7 ⟨_,hM7,hok7⟩
  (refine jz (jjB (jjC (jI (eI rfl) (jJ (eI rfl) (jz ?_)))));refine jjF ?_)
  exact jB rfl rfl ⟨by rw [←hn3];rfl,hOn7,hK7⟩
 ·have hx:okWr ((1,0,false):Wr):=by simp [okWr]
  have hst:=hK.hs
  have h1:=hK.hk
  have h2:=hK.ha
  have h3:=hK.hb
  refine Calls.ofW (by simp [TcC.args]) ?_
  (refine jjB (jjC ?_))
  (refine jy rfl ?_;intro b5 w_b5 hb_b5 hs_b5 hS_b5 hk_b5;have hA_b5:=At.ofBlock hk_b5)
  have A5:At w_b5 b5 0 [.int .i64 1,.int .i64 0,.bool false]:=At.ofBlock hk_b5
  have e5:=hS_b5.ext
  (refine jJ (eI rfl) (jz (jjB (jjB (jjC (jN rfl rfl rfl ?_)))));refine jO rfl rfl rfl rfl ?_)
  refine Ops.lookupOk (k:=((1,0,false):Wr)) (hm.ext e5) rfl rfl ?_
  cases hg:mget m ((1,0,false):Wr) with
  | some v =>
    obtain rfl:=hok _ v hg hx
    (refine jI (eU rfl) (ju rfl rfl (ju rfl rfl (jJ (eI rfl) (jJ (eB rfl) (jz ?_)))));refine jjB (jjC (jI (eB rfl) (jz (jjJ rfl (jjB ?_)))));refine jjC (jI (eI rfl) (jJ (eI rfl) (jz (jjF ?_)))))
    exact jB rfl rfl ⟨rfl,.ofExt e5,hK.ext e5⟩
  | none =>
  (refine jI (eU rfl) (ju rfl rfl (ju rfl rfl (jJ (eI rfl) (jJ (eB rfl) (jz ?_)))));refine jjB (jjC (jI (eB rfl) (jz (jjK rfl (jjG ?_)))));refine jjB (jjC (jJ (eI rfl) (jz (jjB (jjB ?_)))));refine jjC (jm (jn rfl (jN rfl rfl rfl (jN rfl rfl rfl (jh rfl ?_)))));refine jjh rfl rfl (by omega) (jI (eB rfl) (jT rfl rfl rfl (jm (jn rfl (jT rfl rfl rfl ?_)))));refine jN rfl rfl rfl (jT rfl rfl rfl (jN rfl rfl rfl (jT rfl rfl rfl (jh rfl (jT rfl rfl rfl ?_)))));refine jji rfl rfl (by omega) (jK rfl (eB rfl) (jz (jjK rfl (jjG (jjB ?_)))));refine jjB (jjC (jO rfl rfl rfl rfl (jI (eI rfl) (jz (jjD ?_))))))
  refine W.keep0 [(1,.pointer (some ⟨c.bk,0,none⟩)),(2,.pointer (some ⟨c.ba,0,none⟩)),(3,.pointer (some ⟨c.bb,0,none⟩)),(4,.pointer (some ⟨c.bc,0,none⟩)),(5,.pointer (some ⟨b5,0,none⟩)),(9,.int .i64 1073741824),(35,.agg stepsC.toArray),(36,.int .i64 ((0:Nat):Int))] ⟨eP rfl,eP rfl,eP rfl,eP rfl,eP rfl,eI rfl,eA rfl,eI rfl,trivial⟩ fun s0=>?_
  refine W.loopG (37::38::11::40::41::42::43::44::45::39::46::47::48::13::12::14::49::50::51::52::53::54::55::56::9::57::36::[]) (fun g s' V=>∃ j:Nat,s' 36=.int .i64 (j:Int)∧s' 9=.int .i64 (nK ((1,0,false):Wr) j)∧g=3-j∧j≤3∧Only c.mb w V∧TF c V∧At V b5 0 [.int .i64 1,.int .i64 0,.bool false]) 3 ⟨0,rfl,rfl,rfl,by omega,.ofExt e5,hK.ext e5,A5⟩ ?_
  rintro _ sd V ⟨j,h36,h9,rfl,hj,hOn,hKj,hA⟩
  have hnb:0≤nK ((1,0,false):Wr) j∧nK ((1,0,false):Wr) j≤1073741824:=nK_bd ((1,0,false):Wr) j
  obtain ⟨n,hn⟩:∃ n,nK ((1,0,false):Wr) j=n:=⟨_,rfl⟩
  rw [hn] at h9 hnb
  refine W.fix h36 (W.fix (d:=9) h9 ?_)
  clear h36 h9
  have zb5:b5≠c.mb:=by omega
  by_cases hj1:j<3
  ·obtain ⟨q,y,b,hsf,hq0,hq1,hyes,hno⟩:=step_ok hx hj1
   (refine jjB (jjC (jjZ rfl rfl (by omega) (jz (jjB (jjJ rfl ?_)))));refine jjG (jjB (jjD (jjB (jjC ?_)))))
   refine Ops.indexA (j:=j) rfl rfl rfl (by simp;omega) rfl (stepG_idx hj1) ?_
   (apply jjR rfl;(intro _;first|exact eI rfl|exact eB rfl|exact eP rfl|exact eS rfl|exact eT rfl|exact eA rfl|exact eU rfl|exact eF rfl|exact eM rfl|exact eN rfl|exact rfl);exact rfl;exact rfl;exact rfl;exact rfl;intro b11 w_b11 hb_b11 hs_b11 hS_b11 hk_b11;have hA_b11:=Bk.of hk_b11)
   have A11:At w_b11 b11 0 [.int .u8 (kindG j),.func (.func (stepG j)) #[] #[]]:=Bk.toAt (h:=hA_b11)
   have e11:=hS_b11.ext
   have hK11:=hKj.ext e11
   have k2:=hK11.ha
   have k3:=hK11.hb
   have k5:At w_b11 b5 0 [.int .i64 1,.int .i64 0,.bool false]:=hA.ext e11
   (refine jz (jjB (jjC (jm (jn rfl (jN rfl rfl rfl ?_)))));refine jN rfl rfl rfl (jN rfl rfl rfl (jO rfl rfl rfl rfl ?_)))
   refine jjQ ((step_hand hK11 hx hj1).mono fun v _ _ h=>h.trans (by rw [hsf])) rfl rfl ?_
   rintro _ w12 hS12 rfl
   (refine jI (eU rfl) (ju rfl rfl (ju rfl rfl (ju rfl rfl ?_))))
   ((skip);refine jjY ?_;intro b13 w_b13 hb_b13 hs_b13 hS_b13 hk_b13;have hA_b13:=Bk.of hk_b13)
   (apply jJ;exact eI rfl)
   refine Ops.store rfl rfl rfl rfl rfl ?_
   intro w14 hp14
   have A13:At w14 b13 0 [.int .i64 y.1,.int .i64 y.2.1,.bool y.2.2]:=Bk.toAt (h:=⟨hp14.new⟩)
   have e14:Ext V w14:=hp14.ext (e11.trans (hS12.ext.trans hS_b13.ext)) (by have:=e11.size;have:=hS12.size;omega)
   have hOn14:=hOn.trans (.ofExt e14)
   have hK14:=hKj.ext e14
   have hA14:=hA.ext e14
   have k4:=hK14.hc
   cases b with
   | false =>
     (refine jJ (eB rfl) (jz (jjB (jjC (jI (eB rfl) (jz ?_)))));refine jjK rfl (jjG (jjC (jY rfl rfl (by omega) (jI (eI rfl) (jz ?_))))))
     exact ⟨rfl,by (((iterate 21 refine Same.upd rfl ?_);exact Same.ovN)),3-(j+1),by omega,j+1,congrArg (Value.int .i64) (by omega),congrArg (Value.int .i64) (by rw [←hno rfl,hn]),rfl,by omega,hOn14,hK14,hA14⟩
   | true =>
     exact absurd (hyes rfl).1 (by decide)
  obtain rfl:j=3:=by omega
  have k1:=hKj.hk
  obtain ⟨m2,hm2,hok2⟩:=hKj.km
  have hn3:n=costF ((1,0,false):Wr):=by rw [←hn];exact nK_three hx
  (refine jjB (jjC (jja rfl rfl (by omega) (jz (jjB (jjK rfl ?_)))));refine jjE (jjB (jjC (jN rfl rfl rfl (jO rfl rfl rfl rfl (jI (eI rfl) ?_))))))
  refine Ops.mapUpdate (k:=((1,0,false):Wr)) (v:=.int .i64 n) hm2 rfl rfl rfl ?_
  intro w7 o7 hp7 hM7
  have hOn7:Only c.mb w w7:=hOn.trans (.ofPut hp7)
  have hok7:costOk (mset m2 ((1,0,false):Wr) (.int .i64 n)):=fun z v hz hzo=>by
   by_cases e:z=((1,0,false):Wr)
   ·subst e;rw [mget_set_same] at hz;cases hz;rw [hn3]
   ·rw [mget_set_other _ _ e] at hz;exact hok2 z v hz hzo
  have hK7:=hK.only hOn7 ⟨_,hM7,hok7⟩
  (refine jz (jjB (jjC (jI (eI rfl) (jJ (eI rfl) (jz ?_)))));refine jjF ?_)
  exact jB rfl rfl ⟨by rw [←hn3];rfl,hOn7,hK7⟩
theorem cost_hand (c:TcC) (x:Wr) (hx:okWr x) (w:World) (hK:TF c w):Calls Tryz.prog 81 ([encWr x]++c.args).toArray w (CostR c x w) :=
 cost_step c x hx w hK fun _ y w' hy h1 hK'=>cost_step c y hy w' hK' fun h0=>absurd (h0.symm.trans h1) (by decide)

theorem own_lt1 {w:World} {a:Option Addr} {n c:Nat} {x:Value} {xs:List Value} (h:RowV w false 1 (.slice a n c) (x::xs)) (hx:x.cells.toList=[x]):∃ b o,a=some ⟨b,o,none⟩∧b<w.heap.size:=by
 obtain ⟨b,o,e,hA⟩:=h.place' (j:=0) (x:=x) rfl
 rw [hx] at hA
 exact ⟨b,o,e,hA.lt⟩
theorem TF.other {c:TcC} {w w':World} {b:Nat} (f:TF c w) (o:Only b w w') (h1:c.bk≠b∧c.ba≠b∧c.bb≠b∧c.bc≠b∧0≠b∧c.mb≠b) (g1:(Value.slice c.a1 1 c.c1).ownBlock≠some b) (g2:(encLn c.l).ownBlock≠some b) (g3:(Value.slice c.a2 1 c.c2).ownBlock≠some b) (g4:(encLn c.m).ownBlock≠some b):TF c w' :=
 ⟨o.at_ f.hk h1.1,o.at_ f.ha h1.2.1,o.at_ f.hb h1.2.2.1,o.at_ f.hc h1.2.2.2.1,o.at_ f.hs h1.2.2.2.2.1,o.row f.r1 g1,o.row f.w1 g2,o.row f.r2 g3,o.row f.w2 g4,f.ok,f.km.imp fun _ h=>⟨o.map h.1 h1.2.2.2.2.2,h.2⟩,f.ne,f.o1,f.o2,f.o3,f.o4⟩
abbrev Ft:=Int×Int×Int
abbrev encFt (x:Ft):Value:=.agg #[.int .u8 x.1,.int .i64 x.2.1,.int .i64 x.2.2]
set_option maxHeartbeats 16000000 in
theorem told_hand (a1 a2:Option Addr) (c1 c2:Nat) (l m:Ln) (fr:Int) (w:World) (hfr:0≤fr∧fr≤1000000) (hR1:RowV w false 1 (.slice a1 1 c1) [encLn l]) (hW1:RowV w false 1 (encLn l) (l.2.2.map strV)) (hR2:RowV w false 1 (.slice a2 1 c2) [encLn m]) (hW2:RowV w false 1 (encLn m) (m.2.2.map strV)) (hok:LnsOk l.2.2 m.2.2) (hst:At w 0 0 stepsC) :
  Ct Tryz.prog 42 [.slice a1 1 c1,.slice a2 1 c2,.int .i64 fr] w fun v w'=>∃ (fa:Option Addr) (fc:Nat),v=.tuple #[.slice fa 1 fc,.int .i64 1]∧RowV w' true 3 (.slice fa 1 fc) [encFt (3,fr,1)]:=by
 obtain ⟨p1,o1,rfl,q1⟩:=own_lt1 hR1 rfl
 obtain ⟨p2,o2,rfl,q2⟩:=own_lt1 hR2 rfl
 have qs:=hst.lt
 have q3:∀ b,w.heap.size≤b→(encLn l).ownBlock≠some b:=fun b hb=>by
  obtain ⟨la,lc,lw⟩:=l
  obtain ⟨x,xs,rfl⟩:∃ x xs,lw=x::xs:=by
   have:=hok.hA
   match lw,this with
   | x::xs,_=>exact ⟨x,xs,rfl⟩
  obtain ⟨p,o,rfl,q⟩:=own_lt1 hW1 rfl
  intro e;simp [Value.ownBlock] at e;omega
 have q4:∀ b,w.heap.size≤b→(encLn m).ownBlock≠some b:=fun b hb=>by
  obtain ⟨la,lc,lw⟩:=m
  obtain ⟨x,xs,rfl⟩:∃ x xs,lw=x::xs:=by
   have:=hok.hB
   match lw,this with
   | x::xs,_=>exact ⟨x,xs,rfl⟩
  obtain ⟨p,o,rfl,q⟩:=own_lt1 hW2 rfl
  intro e;simp [Value.ownBlock] at e;omega
 refine Ct.ofW (by simp) ?_
 (refine jjB (jjC ?_))
 (refine jy rfl ?_;intro b3 w_b3 hb_b3 hs_b3 hS_b3 hk_b3;have hA_b3:=At.ofBlock hk_b3)
 skip
 (refine jy rfl ?_;intro b4 w_b4 hb_b4 hs_b4 hS_b4 hk_b4;have hA_b4:=At.ofBlock hk_b4)
 (refine jJ (eS rfl) (jJ (eI rfl) (jz (jjB (jjC ?_)))))
 refine Ops.makeMap encWr ?_
 intro mb w12 hmb hs12 hS12 hM12
 (apply jjR rfl;(intro _;first|exact eI rfl|exact eB rfl|exact eP rfl|exact eS rfl|exact eT rfl|exact eA rfl|exact eU rfl|exact eF rfl|exact eM rfl|exact eN rfl|exact rfl);exact rfl;exact rfl;exact rfl;exact rfl;intro b8 w_b8 hb_b8 hs_b8 hS_b8 hk_b8;have hA_b8:=Bk.of hk_b8)
 (refine jz (jjB (jjC ?_)))
 ((skip);refine jjY ?_;intro b9 w_b9 hb_b9 hs_b9 hS_b9 hk_b9;have hA_b9:=Bk.of hk_b9)
 have X3:At w_b9 b3 0 [.slice (some ⟨p1,o1,none⟩) 1 c1]:=inferInstance
 have X4:At w_b9 b4 0 [.slice (some ⟨p2,o2,none⟩) 1 c2]:=inferInstance
 have X8:At w_b9 b8 0 [.map (some mb)]:=(Bk.toAt (h:=hA_b8)).ext inferInstance
 have XM:MapE encWr w_b9 mb []:=hM12.ext inferInstance
 have eW:Ext w w_b9:=inferInstance
 have z3:=hS_b3.size
 have z4:=hS_b4.size
 have z8:=hS_b8.size
 have z9:=hS_b9.size
 (refine jz (jjB (jjC (jv ?_))))
 refine Ops.store rfl rfl rfl rfl rfl ?_
 intro V hp
 have X9:At V b9 0 [.func (.func 81) #[] (TcC.args ⟨b8,b3,b4,b9,mb,some ⟨p1,o1,none⟩,c1,some ⟨p2,o2,none⟩,c2,l,m⟩).toArray]:=Bk.toAt (h:=⟨hp.new⟩)
 have eV:Ext w V:=hp.ext eW (by omega)
 have zV:=hp.size
 obtain ⟨C,hC⟩:∃ C:TcC,C=⟨b8,b3,b4,b9,mb,some ⟨p1,o1,none⟩,c1,some ⟨p2,o2,none⟩,c2,l,m⟩:=⟨_,rfl⟩
 have hK:TF C V:=by
  subst hC
  exact ⟨hp.at_ X8 (show b8≠b9 by omega),hp.at_ X3 (show b3≠b9 by omega),hp.at_ X4 (show b4≠b9 by omega),X9,hst.ext eV,hR1.ext eV,hW1.ext eV,hR2.ext eV,hW2.ext eV,hok,⟨[],XM.put hp (by omega),fun k v h=>by simp [mget] at h⟩,⟨show b8≠mb by omega,show b3≠mb by omega,show b4≠mb by omega,show b9≠mb by omega,show _≠mb by omega⟩,fun e=>by simp [Value.ownBlock] at e;omega,q3 mb (by omega),fun e=>by simp [Value.ownBlock] at e;omega,q4 mb (by omega)⟩
 (refine jz (jjB (jjC ?_)))
 (refine jjS (cells:=[.int .i64 0,.int .i64 0,.bool false]) ?_ ?_;exact rfl)
 (apply jjR rfl;(intro _;first|exact eI rfl|exact eB rfl|exact eP rfl|exact eS rfl|exact eT rfl|exact eA rfl|exact eU rfl|exact eF rfl|exact eM rfl|exact eN rfl|exact rfl);exact rfl;exact rfl;exact rfl;exact rfl;intro b10 w_b10 hb_b10 hs_b10 hS_b10 hk_b10;have hA_b10:=Bk.of hk_b10)
 have A10:At w_b10 b10 0 [.int .i64 0,.int .i64 0,.bool false]:=Bk.toAt (h:=hA_b10)
 have e10:=hS_b10.ext
 have hmb':C.mb=mb:=by rw [hC]
 have gK:∀ U,TF C U→At U b3 0 [.slice (some ⟨p1,o1,none⟩) 1 c1]∧At U b4 0 [.slice (some ⟨p2,o2,none⟩) 1 c2]∧At U b9 0 [.func (.func 81) #[] C.args.toArray]:=fun U h=>by
  have h1:=h.ha
  have h2:=h.hb
  have h3:=h.hc
  refine ⟨?_,?_,?_⟩
  ·rw [hC] at h1;exact h1
  ·rw [hC] at h2;exact h2
  ·rw [hC] at h3 ⊢;exact h3
 have gP:∀ U U',TF C U→Only b10 U U'→TF C U':=fun U U' h o=>by
  refine h.other o ?_ ?_ ?_ ?_ ?_
  ·subst hC;exact ⟨show b8≠b10 by omega,show b3≠b10 by omega,show b4≠b10 by omega,show b9≠b10 by omega,show _≠b10 by omega,show mb≠b10 by omega⟩
  ·subst hC;exact fun e=>by simp [Value.ownBlock] at e;omega
  ·subst hC;exact q3 b10 (by omega)
  ·subst hC;exact fun e=>by simp [Value.ownBlock] at e;omega
  ·subst hC;exact q4 b10 (by omega)
 have gS:∀ U x j,TF C U→okWr x→j<3→Ct Tryz.prog (stepG j) [.slice (some ⟨p1,o1,none⟩) 1 c1,.slice (some ⟨p2,o2,none⟩) 1 c2,encWr x] U fun v _=>v=encStp (stepF j x):=fun U x j h hx hj=>by
  have:=step_hand h hx hj
  rw [hC] at this
  exact this
 have hKb:=hK.ext e10
 obtain ⟨k3,k4,k9⟩:=gK _ hKb
 clear hC
 (refine jz (jjB (jjC (jN rfl rfl rfl (jO rfl rfl rfl rfl ?_)))))
 refine Ops.callR rfl (Enters.h (P:=Tryz.prog) (g:=81)) rfl (cost_hand C (0,0,false) (by simp [okWr]) _ hKb) ?_
 rintro _ w15 ⟨rfl,hOn15,hK15⟩
 refine ⟨_,rfl,?_⟩
 have zb10:b10≠C.mb:=by omega
 have B15:Bk w15 b10 [.int .i64 0,.int .i64 0,.bool false] 163:=hOn15.bk hA_b10 zb10
 have e15:Ext w w15:=hOn15.ext (eV.trans e10) (by omega)
 (refine jJ (eI rfl) (jz (jjB (jjC (jJ (eS rfl) (jz ?_)))));refine jjB (jjB (jjC (jI (eI rfl) (jf rfl rfl (jz ?_)))));refine jjK rfl (jjG (jjB (jjD ?_))))
 refine W.keep0 [(2,.int .i64 fr),(3,.pointer (some ⟨b3,0,none⟩)),(4,.pointer (some ⟨b4,0,none⟩)),(9,.pointer (some ⟨b9,0,none⟩)),(10,.pointer (some ⟨b10,0,none⟩)),(11,.int .i64 1),(12,.slice none 0 0)] ⟨eI rfl,eP rfl,eP rfl,eP rfl,eP rfl,eI rfl,eS rfl,trivial⟩ fun s0=>?_
 refine W.loopG (28::29::30::31::32::33::34::35::36::37::38::39::40::41::42::43::14::45::46::47::48::49::50::44::51::52::53::16::15::17::54::55::56::57::58::59::60::61::62::63::64::65::66::67::68::69::70::71::72::73::74::18::75::76::77::78::79::80::81::82::83::84::85::12::86::87::[]) (fun g s' V=>∃ (k:Nat) (lv:Value),s' 12=lv∧g=1-k∧k≤1∧Ext w V∧TF C V∧(k=0→lv=.slice none 0 0∧Bk V b10 [.int .i64 0,.int .i64 0,.bool false] 163)∧(k=1→Bk V b10 [.int .i64 1,.int .i64 1,.bool true] 163∧∃ (fa:Option Addr) (fc:Nat),lv=.slice fa 1 fc∧RowV V true 3 (.slice fa 1 fc) [encFt (3,fr,1)])) 1 ⟨0,_,rfl,rfl,by omega,e15,hK15,fun _=>⟨rfl,B15⟩,fun h=>by omega⟩ ?_
 rintro _ sd V1 ⟨k,lv,h12,rfl,hk,hE1,hK1,hk0,hk1⟩
 obtain ⟨y3,y4,y9⟩:=gK _ hK1
 by_cases hkz:k=1
 ·subst hkz
  obtain ⟨B1,fa,fc,rfl,hR⟩:=hk1 rfl
  have:=B1.toAt
  refine W.fix h12 ?_
  clear h12
  (refine jjB (jjB (jjC (jm (jn rfl (jN rfl rfl rfl ?_)))));refine jN rfl rfl rfl (jh rfl (jja rfl rfl (by omega) (jI (eB rfl) (jT rfl rfl rfl (jm ?_)))));refine jn rfl (jT rfl rfl rfl (jN rfl rfl rfl (jT rfl rfl rfl (jN rfl rfl rfl (jT rfl rfl rfl ?_)))));refine jh rfl (jT rfl rfl rfl (jja rfl rfl (by omega) (jL rfl (eB rfl) (jz (jjK rfl ?_)))));refine jjE (jjB (jjC (jI (eS rfl) (jI (eI rfl) (jJ (eS rfl) ?_)))));refine jJ (eI rfl) (jz (jjF ?_));refine jC rfl rfl rfl ⟨inferInstance,?_⟩)
  exact ⟨fa,fc,rfl,hR⟩
 obtain rfl:k=0:=by omega
 obtain ⟨rfl,B1⟩:=hk0 rfl
 refine W.fix h12 ?_
 clear h12 hk0 hk1
 have y10:=B1.toAt
 have yS:=hK1.hs
 (refine jjB (jjB (jjC (jm (jn rfl (jN rfl rfl rfl ?_)))));refine jN rfl rfl rfl (jh rfl (jjZ rfl rfl (by omega) (jI (eB rfl) (jU rfl rfl rfl rfl (jU rfl rfl rfl rfl ?_)))));refine jU rfl rfl rfl rfl (jU rfl rfl rfl rfl (jU rfl rfl rfl rfl (jK rfl (eB rfl) (jz (jjJ rfl ?_)))));refine jjG (jjD (jjB (jjC (jO rfl rfl rfl rfl (jI (eI rfl) ?_)))));refine jz (jjD ?_))
 refine W.keep [(2,.int .i64 fr),(3,.pointer (some ⟨b3,0,none⟩)),(4,.pointer (some ⟨b4,0,none⟩)),(9,.pointer (some ⟨b9,0,none⟩)),(10,.pointer (some ⟨b10,0,none⟩)),(11,.int .i64 1),(12,.slice none 0 0),(40,.agg stepsC.toArray),(41,.int .i64 ((0:Nat):Int))] (D:=(28::29::30::31::32::33::34::35::36::37::38::39::40::41::42::43::14::45::46::47::48::49::50::44::51::52::53::16::15::17::54::55::56::57::58::59::60::61::62::63::64::65::66::67::68::69::70::71::72::73::74::18::75::76::77::78::79::80::81::82::83::84::85::12::86::87::[])) (sO:=upds s0 _) (by (((iterate 15 refine Same.upd rfl ?_);exact Same.ovN))) ⟨eI rfl,eP rfl,eP rfl,eP rfl,eP rfl,eI rfl,eS rfl,eA rfl,eI rfl,trivial⟩ fun s1 hs1=>?_
 refine W.loopG (42::43::14::45::46::47::48::49::50::44::51::52::53::16::15::17::54::55::56::57::58::59::60::61::62::63::64::65::66::67::68::69::70::71::72::73::74::18::75::76::77::78::79::80::81::82::83::84::85::12::86::87::41::[]) (fun g s' U=>∃ j:Nat,s' 41=.int .i64 (j:Int)∧s' 12=.slice none 0 0∧g=2-j∧j≤1∧Ext w U∧TF C U∧Bk U b10 [.int .i64 0,.int .i64 0,.bool false] 163) 2 ⟨0,rfl,rfl,rfl,by omega,hE1,hK1,B1⟩ ?_
 rintro _ sd1 U ⟨j,h41,h12,rfl,hj,hEU,hKU,BU⟩
 refine W.fix h41 (W.fix (d:=12) h12 ?_)
 clear h41 h12
 have zU:=hEU.size
 have zb10U:=BU.lt
 have hj01:j=0∨j=1:=by omega
 (refine jjB (jjC (jjZ rfl rfl (by omega) (jz (jjB (jjJ rfl ?_)))));refine jjG (jjB (jjD (jjB (jjC ?_)))))
 refine Ops.indexA (j:=j) rfl rfl rfl (by simp;omega) rfl (stepG_idx (by omega)) ?_
 (apply jjR rfl;(intro _;first|exact eI rfl|exact eB rfl|exact eP rfl|exact eS rfl|exact eT rfl|exact eA rfl|exact eU rfl|exact eF rfl|exact eM rfl|exact eN rfl|exact rfl);exact rfl;exact rfl;exact rfl;exact rfl;intro b14 w_b14 hb_b14 hs_b14 hS_b14 hk_b14;have hA_b14:=Bk.of hk_b14)
 have A14:At w_b14 b14 0 [.int .u8 (kindG j),.func (.func (stepG j)) #[] #[]]:=Bk.toAt (h:=hA_b14)
 have e14:=hS_b14.ext
 have hK14:=hKU.ext e14
 obtain ⟨u3,u4,u9⟩:=gK _ hK14
 have B14:=BU.ext e14
 have u10:=B14.toAt
 (refine jz (jjB (jjC (jm (jn rfl (jN rfl rfl rfl ?_)))));refine jN rfl rfl rfl (jN rfl rfl rfl (jO rfl rfl rfl rfl ?_)))
 rcases hj01 with rfl|rfl
 ·refine jjQ ((gS _ (0,0,false) 0 hK14 (by simp [okWr]) (by omega)).mono (R':=fun v _=>v=encStp (1,(0,1,true),false)) fun v _ _ h=>h) rfl rfl ?_
  rintro _ w16 hS16 rfl
  (refine jI (eU rfl) (ju rfl rfl (ju rfl rfl (ju rfl rfl ?_))))
  ((skip);refine jjY ?_;intro b16 w_b16 hb_b16 hs_b16 hS_b16 hk_b16;have hA_b16:=Bk.of hk_b16)
  (apply jJ;exact eI rfl)
  refine Ops.store rfl rfl rfl rfl rfl ?_
  intro w17 hp17
  have e17:Ext w_b14 w17:=hp17.ext (hS16.ext.trans hS_b16.ext) (by have:=hS16.size;omega)
  (refine jJ (eB rfl) (jz (jjB (jjB ?_))))
  refine W.draw (fun w'=>Ext w17 w') ?_
  intro u1 hu1
  (refine jjV [0,1,2,3,4,5,6,7,8,9,10,11,12] ?_ ?_ ?_;(decide +kernel);(exact hu1.ext);(((refine jjT rfl (fun _ _=>jI (eB rfl) (jz ⟨rfl,rfl⟩)) (jjT rfl (fun _ _=>jq rfl (jz ⟨rfl,rfl⟩)) (jjT rfl (fun _ _=>jI (eB rfl) (jz ⟨rfl,rfl⟩)) (jjT rfl (fun _ _=>jU rfl rfl rfl rfl (jz ⟨rfl,rfl⟩)) (jjT rfl (fun _ _=>jU rfl rfl rfl rfl (jz ⟨rfl,rfl⟩)) (jjT rfl (fun _ _=>jU rfl rfl rfl rfl (jz ⟨rfl,rfl⟩)) ?_)))));refine jjT rfl (fun _ _=>jU rfl rfl rfl rfl (jz ⟨rfl,rfl⟩)) (jjT rfl (fun _ _=>jU rfl rfl rfl rfl (jz ⟨rfl,rfl⟩)) (jjT rfl (fun _ _=>jU rfl rfl rfl rfl (jz ⟨rfl,rfl⟩)) (jjT rfl (fun _ _=>jU rfl rfl rfl rfl (jz ⟨rfl,rfl⟩)) (jjT rfl (fun _ _=>jU rfl rfl rfl rfl (jz ⟨rfl,rfl⟩)) (jjT rfl (fun _ _=>jU rfl rfl rfl rfl (jz ⟨rfl,rfl⟩)) ?_)))));refine jjT rfl (fun _ _=>jK rfl (eB rfl) (jz ⟨rfl,rfl⟩)) (jjU ?_)))))
  refine jjX (by decide +kernel) hu1.ext ?_
  have eU:=e14.trans (e17.trans hu1.ext)
  (refine jjJ rfl (jjE (jjC (jY rfl rfl (by omega) (jI (eI rfl) (jz ?_))))))
  exact ⟨rfl,by (((iterate 33 refine Same.upd rfl ?_);exact Same.ovN)),1,by omega,1,rfl,rfl,rfl,by omega,hEU.trans eU,hKU.ext eU,BU.ext eU⟩
 refine jjQ ((gS _ (0,0,false) 1 hK14 (by simp [okWr]) (by omega)).mono (R':=fun v _=>v=encStp (1,(1,1,true),true)) fun v _ _ h=>h) rfl rfl ?_
 rintro _ w16 hS16 rfl
 (refine jI (eU rfl) (ju rfl rfl (ju rfl rfl (ju rfl rfl ?_))))
 ((skip);refine jjY ?_;intro b16 w_b16 hb_b16 hs_b16 hS_b16 hk_b16;have hA_b16:=Bk.of hk_b16)
 (apply jJ;exact eI rfl)
 refine Ops.store rfl rfl rfl rfl rfl ?_
 intro w17 hp17
 have e17:Ext w_b14 w17:=hp17.ext (hS16.ext.trans hS_b16.ext) (by have:=hS16.size;omega)
 have A16:At w17 b16 0 [.int .i64 1,.int .i64 1,.bool true]:=Bk.toAt (h:=⟨hp17.new⟩)
 have zs:=hS16.size
 have z16:b16<w17.heap.size:=A16.lt
 have hK17:=hK14.ext e17
 have B17:=B14.ext e17
 have A17:=A14.ext e17
 have E17:=hEU.trans (e14.trans e17)
 have zb16:b16≠C.mb:=by have:=hE1.size;omega
 (refine jJ (eB rfl) (jz (jjB (jjB ?_))))
 refine W.draw (fun w'=>Only C.mb w17 w'∧TF C w') ?_
 intro u1 hu1
 have g1:Only C.mb w17 u1∧TF C u1:=⟨.ofExt hu1.ext,hK17.ext hu1.ext⟩
 (refine jjV [0,1,2,3,4,5,8,9] ?_ ?_ ?_;(decide +kernel);(exact g1);(((apply jjT;exact rfl;rintro w' ⟨q1,q2⟩;have:=(gK _ q2).2.2;have:=q1.at_ A16 zb16;have:=q1.at_ B17.toAt zb10;refine jI (eB rfl) (jz ?_);exact ⟨rfl,rfl⟩;apply jjT;exact rfl;rintro w' ⟨q1,q2⟩;have:=(gK _ q2).2.2;have:=q1.at_ A16 zb16;have:=q1.at_ B17.toAt zb10;refine jp rfl (jz ?_);exact ⟨rfl,rfl⟩;apply jjT;exact rfl;rintro w' ⟨q1,q2⟩;have:=(gK _ q2).2.2;have:=q1.at_ A16 zb16;have:=q1.at_ B17.toAt zb10;refine jI (eB rfl) (jz ?_);exact ⟨rfl,rfl⟩;apply jjT;exact rfl;rintro w' ⟨q1,q2⟩;have:=(gK _ q2).2.2;have:=q1.at_ A16 zb16;have:=q1.at_ B17.toAt zb10;refine jT rfl rfl rfl (jI (eI rfl) (jz ?_));exact ⟨rfl,rfl⟩;apply jjT;exact rfl;rintro w' ⟨q1,q2⟩;have:=(gK _ q2).2.2;have:=q1.at_ A16 zb16;have:=q1.at_ B17.toAt zb10;refine jT rfl rfl rfl (jN rfl rfl rfl (jz ?_));exact ⟨rfl,rfl⟩;apply jjT;exact rfl;rintro w' ⟨q1,q2⟩;have:=(gK _ q2).2.2;have:=q1.at_ A16 zb16;have:=q1.at_ B17.toAt zb10;refine jT rfl rfl rfl (jO rfl rfl rfl rfl (jz ?_));exact ⟨rfl,rfl⟩;apply jjT;exact rfl;rintro w' ⟨q1,q2⟩;have:=(gK _ q2).2.2;have:=q1.at_ A16 zb16;have:=q1.at_ B17.toAt zb10;refine jT rfl rfl rfl (jN rfl rfl rfl (jz ?_));exact ⟨rfl,rfl⟩;apply jjT;exact rfl;rintro w' ⟨q1,q2⟩;have:=(gK _ q2).2.2;have:=q1.at_ A16 zb16;have:=q1.at_ B17.toAt zb10;refine jT rfl rfl rfl (jO rfl rfl rfl rfl (jz ?_));exact ⟨rfl,rfl⟩;refine jjU ?_))))
 (apply jjW 6;(decide +kernel);exact rfl;(exact g1))
 (refine jT rfl rfl rfl ?_)
 refine Ops.callR rfl (Enters.h (P:=Tryz.prog) (g:=81)) rfl (cost_hand C (1,1,true) (by simp [okWr]) _ g1.2) ?_
 rintro _ u2 ⟨rfl,hOu2,hKu2⟩
 refine ⟨_,rfl,?_⟩
 have g2:Only C.mb w17 u2∧TF C u2:=⟨g1.1.trans hOu2,hKu2⟩
 refine jz ?_
 refine jjV [7] (by decide +kernel) g2 (jjT (v:=.int .i64 1) rfl (fun w' q1=>?_) (jjU ?_));(refine jT rfl rfl rfl ?_;refine jY (a:=1) (b:=0) rfl rfl (by decide) ?_;refine jz ?_;exact ⟨rfl,rfl⟩)
 (apply jjW 10;(decide +kernel);exact rfl;(exact g2))
 (refine jT rfl rfl rfl ?_)
 refine Ops.callR rfl (Enters.h (P:=Tryz.prog) (g:=81)) rfl (cost_hand C (0,0,false) (by simp [okWr]) _ g2.2) ?_
 rintro _ u3 ⟨rfl,hOu3,hKu3⟩
 refine ⟨_,rfl,?_⟩
 have g3:Only C.mb w17 u3∧TF C u3:=⟨g2.1.trans hOu3,hKu3⟩
 refine jz ?_
 (refine jjV [11,12] ?_ ?_ ?_;(decide +kernel);(exact g3);(((refine jjT rfl (fun _ _=>jT rfl rfl rfl (jc rfl rfl (jz ⟨rfl,rfl⟩))) (jjT rfl (fun _ _=>jL rfl (eB rfl) (jz ⟨rfl,rfl⟩)) (jjU ?_))))))
 refine jjX (by decide +kernel) g3 ?_
 have C14:At u3 b14 0 [.int .u8 3,.func (.func (stepG 1)) #[] #[]]:=g3.1.at_ A17 (by have:=hE1.size;omega)
 have C16:=g3.1.at_ A16 zb16
 have C10:=g3.1.bk B17 zb10
 have hE3:Ext w u3:=g3.1.ext E17 (by omega)
 have hKf:=g3.2
 (refine jjK rfl (jjG (jjB (jjC (jm (jn rfl ?_)))));refine jN rfl rfl rfl (jI (eI rfl) (jm (jn rfl (jN rfl rfl rfl (jY rfl rfl (by omega) ?_)))));refine jZ rfl rfl (by omega) ?_)
 (refine jjS (cells:=[.int .u8 3,.int .i64 (fr+1-1),.int .i64 0]) ?_ ?_;exact rfl)
 (apply jjR rfl;(intro _;first|exact eI rfl|exact eB rfl|exact eP rfl|exact eS rfl|exact eT rfl|exact eA rfl|exact eU rfl|exact eF rfl|exact eM rfl|exact eN rfl|exact rfl);exact rfl;exact rfl;exact rfl;exact rfl;intro b18 w_b18 hb_b18 hs_b18 hS_b18 hk_b18;have hA_b18:=Bk.of hk_b18)
 have D14:=C14.ext hS_b18.ext
 have z3:=hE3.size
 have z14:b14<u3.heap.size:=C14.lt
 have z16:b16<u3.heap.size:=C16.lt
 have z10:b10<u3.heap.size:=C10.lt
 (refine jz (jjB (jjB (jjC (jm (jn rfl ?_)))));refine jN rfl rfl rfl (jjh rfl rfl (by omega) (jz (jjJ rfl (jjC (jI (eI rfl) ?_)))));refine jm (jn rfl ?_))
 refine Ops.store rfl rfl rfl rfl rfl ?_
 intro v5 hp5
 have B18:Bk v5 b18 [.int .u8 3,.int .i64 (fr+1-1),.int .i64 1] 66:=Bk.of hp5.new
 have e5:Ext u3 v5:=hp5.ext hS_b18.ext (by omega)
 have A18:=B18.toAt
 (refine jz (jjB (jjB (jjC (jI (eI rfl) (jjd rfl rfl (by omega) ?_)))));refine jz (jjJ rfl (jjC (jI (eS rfl) (jO rfl rfl rfl rfl ?_)))))
 (refine jjP (v:=.agg _) rfl (by exact rfl) (by exact rfl) (by exact rfl) (by exact rfl) ?_;intro b84 w_b84 hb_b84 hs_b84 hS_b84 hk_b84;have hR_b84:=RowV.one (agg:=true) (k:=3) rfl hk_b84)
 have e84:=e5.trans hS_b84.ext
 have R84:RowV w_b84 true 3 (.slice (some ⟨b84,0,none⟩) 1 1) [encFt (3,fr,1)]:=by
  have:encFt (3,fr,1)=encFt (3,fr+1-1,1):=by rw [show fr+1-1=fr by omega]
  rw [this];exact hR_b84
 refine Ops.appendL (OwnL.nil w_b84 w_b84.heap.size 66 true 3) (Nat.le_refl _) R84 rfl rfl rfl rfl rfl ?_ ?_ ?_
 ·simp
 ·simp
 intro v6 w6 hA6 hO6 _ _
 obtain ⟨a6,c6,rfl⟩:=hO6.slice
 have e6:Ext u3 w6:=hA6.ext e84 e84.size
 have F16:=C16.ext e6
 have F10:Bk w6 b10 [.int .i64 0,.int .i64 0,.bool false] 163:=C10.ext e6
 (refine jJ (eS rfl) (jz (jjB (jjC (jO rfl rfl rfl rfl ?_)))))
 refine Ops.store rfl rfl rfl rfl rfl ?_
 intro w7 hp7
 have B7:Bk w7 b10 [.int .i64 1,.int .i64 1,.bool true] 163:=Bk.of hp7.new
 have hK7:TF C w7:=gP _ _ (hKf.ext e6) (.ofPut hp7)
 have hE7:Ext w w7:=hp7.ext (hE3.trans e6) (by omega)
 have z84:=e84.size
 (refine jz (jjE ?_))
 exact ⟨rfl,by (((iterate 53 refine Same.upd rfl ?_);refine Same.ovN' rfl ?_;assumption)),0,by omega,1,_,rfl,rfl,by omega,hE7,hK7,fun h=>by omega,fun _=>⟨B7,a6,c6,rfl,hp7.row hO6.row (fun e=>by have:=(hO6.block _ e).1;omega)⟩⟩

structure GrowB (N kb:Nat) (w w':World):Prop where
 os:w'.os=w.os
 tape:w'.tape=w.tape
 output:w'.output=w.output
 size:w.heap.size≤w'.heap.size
 old:∀ (k:Nat),k<N→k≠kb→w'.heap[k]?=w.heap[k]?
 data:∀ (k:Nat) (o:Obj),w.heap[k]?=some o→Obj.loopy o=false→k≠kb→w'.heap[k]?=some o
 kd:(∃ o,w.heap[kb]?=some o∧Obj.loopy o=false)→∃ o,w'.heap[kb]?=some o∧Obj.loopy o=false
theorem Grow.toB {N kb:Nat} {w w':World} (h:Grow N w w'):GrowB N kb w w':=⟨h.os,h.tape,h.output,h.size,fun k hk _=>h.old k hk,fun k o hk ho _=>h.data k o hk ho,fun ⟨o,h1,h2⟩=>⟨o,h.data kb o h1 h2,h2⟩⟩
theorem Only.growB {N kb:Nat} {w0 w w':World} (h:Only kb w0 w) (g:GrowB N kb w w') (hN:w0.heap.size≤N):Only kb w0 w' :=
 ⟨g.os.trans h.os,g.tape.trans h.tape,g.output.trans h.output,Nat.le_trans h.size g.size,fun k hk hn=>(g.old k (by omega) hn).trans (h.other k hk hn)⟩

theorem Yd.mono {P:Program} {l:Nat} {args:List Value} {w:World} {R R':Ending→World→Prop} (h:Yd P l args w R) (hr:∀ e w',R e w'→R' e w'):Yd P l args w R':=by
 obtain ⟨fn,tmps,assign,body,h1,h2⟩:=h
 exact ⟨fn,tmps,assign,body,h1,h2.mono hr⟩
section
variable {P:Program} {ro:Option Nat} {n:Nat} {X:Ctx} {s:Sl} {ds:List Deferred} {w:World}
end

abbrev relXL (L:List Ln) (n:Nat) (vs:List Value) (_:World):Prop:=∃ h:n<L.length,vs=[.int .i64 (n:Int),encLn L[n]]
set_option maxHeartbeats 8000000 in
theorem of1L_hand (b1 b2 bd i:Nat) (v0 v1 v3 v5:Value) (sa:Option Addr) (sc:Nat) (ss:List Shr) (la:Option Addr) (lc:Nat) (L:List Ln) (hi:i<ss.length) (f t:Nat) (hf:ss[i].1=(f:Int)) (ht:ss[i].2.1=(t:Int)) (hft:f≤t) (htl:t<L.length) (hL:L.length≤1000000) :
  IterN Tryz.prog 80 [.pointer (some ⟨b1,0,none⟩),.pointer (some ⟨b2,0,none⟩)] (List.range' f (t+1-f)) (relXL L) (DskF b1 b2 bd i v0 v1 v3 v5 sa sc ss la lc L):=by
 intro l J M w hJ hF hM1 hM2 hY h0
 have gs:(ss.map encShr)[i]?=some (encShr ss[i]):=by rw [List.getElem?_map,List.getElem?_eq_getElem hi];rfl
 have f0:=hF 0 w h0
 obtain ⟨pb,po,rfl,-⟩:=f0.s.place' gs
 have A1:∀ k V,J k V→At V pb (po+i * 4) [.int .i64 (f:Int),.int .i64 (t:Int),.int .i64 ss[i].2.2.1,.int .i64 ss[i].2.2.2]:=fun k V hj=>by
  have:=place_k (hF k V hj).s gs
  rw [←hf,←ht];exact this
 have:=f0.a1
 have:=f0.a2
 have:=f0.d
 refine Calls.ofW (by simp) ?_
 (refine jjB ?_)
 refine W.draw (fun w'=>Ext w w') ?_
 intro w1 hS1
 refine jjV [0,1,2,3,4,5] (by decide +kernel) hS1.ext ?_
 (((apply jjT;exact rfl;rintro w' hq;have:=hq.toStep;refine jN rfl rfl rfl (jz ?_);exact ⟨rfl,rfl⟩;apply jjT;exact rfl;rintro w' hq;have:=hq.toStep;refine jw rfl (jz ?_);exact ⟨rfl,rfl⟩;apply jjT;exact rfl;rintro w' hq;have:=hq.toStep;refine jm (jn rfl (jz ?_));exact ⟨rfl,rfl⟩;apply jjT;exact rfl;rintro w' hq;have:=hq.toStep;refine jm (jn rfl (jz ?_));exact ⟨rfl,rfl⟩;apply jjT;exact rfl;rintro w' hq;have:=hq.toStep;refine jN rfl rfl rfl (jz ?_);exact ⟨rfl,rfl⟩;apply jjT;exact rfl;rintro w' hq;have:=hq.toStep;refine jN rfl rfl rfl (jz ?_);exact ⟨rfl,rfl⟩;refine jjU ?_)))
 refine jjV [6] (by decide +kernel) hS1.ext (jjT (v:=.pointer (some ⟨pb,po+i * 4,none⟩)) rfl (fun w' q1=>?_) (jjU ?_));(refine jH i rfl rfl rfl (by omega) ?_;refine jz ?_;exact ⟨rfl,rfl⟩)
 refine jjV [7] (by decide +kernel) hS1.ext ?_
 (((apply jjT;exact rfl;rintro w' hq;refine jm (jn rfl (jz ?_));exact ⟨rfl,rfl⟩;refine jjU ?_)))
 refine jjV [8] (by decide +kernel) hS1.ext (jjT (v:=.int .i64 (f:Int)) rfl (fun w' q1=>?_) (jjU ?_));(refine jR ((A1 0 _ (hJ _ _ _ h0 q1)).get (i:=0) rfl) rfl rfl ?_;refine jz ?_;exact ⟨rfl,rfl⟩)
 refine jjV [9] (by decide +kernel) hS1.ext ?_
 (((refine jjT rfl (fun _ _=>jJ (eI rfl) (jz ⟨rfl,rfl⟩)) (jjU ?_))))
 refine jjX (by decide +kernel) hS1.ext ?_
 (refine jjD ?_)
 refine W.keep0 [(0,.func (.yield l) #[] #[]),(1,.pointer (some ⟨b1,0,none⟩)),(2,.pointer (some ⟨b2,0,none⟩)),(4,.int .i64 ((f+0:Nat):Int))] ⟨eF rfl,eP rfl,eP rfl,eI rfl,trivial⟩ fun s0=>?_
 refine W.loopG (14::15::16::17::18::19::20::21::22::23::24::27::28::29::30::31::32::33::34::35::36::37::25::26::4::[]) (fun g s' V=>∃ k:Nat,s' 4=.int .i64 ((f+k:Nat):Int)∧g=t+1-f-k∧k≤t+1-f∧J k V) (t+1-f) ⟨0,rfl,rfl,Nat.zero_le _,hJ _ _ _ h0 hS1.ext⟩ ?_
 rintro _ sd V ⟨k,h4,rfl,hk,hj⟩
 refine W.fix h4 ?_
 clear h4
 have fk:=hF k V hj
 have:=fk.a1
 have:=fk.a2
 have:=fk.d
 (refine jjB (jjB ?_))
 refine W.draw (fun w'=>Ext V w') ?_
 intro w2 hS2
 refine jjV [0,1,2,3,4,5,6] (by decide +kernel) hS2.ext ?_
 (((refine jjT rfl (fun _ _=>jI (eI rfl) (jz ⟨rfl,rfl⟩)) ?_;apply jjT;exact rfl;rintro w' hq;have:=hq.toStep;refine jN rfl rfl rfl (jz ?_);exact ⟨rfl,rfl⟩;apply jjT;exact rfl;rintro w' hq;have:=hq.toStep;refine jw rfl (jz ?_);exact ⟨rfl,rfl⟩;apply jjT;exact rfl;rintro w' hq;have:=hq.toStep;refine jm (jn rfl (jz ?_));exact ⟨rfl,rfl⟩;apply jjT;exact rfl;rintro w' hq;have:=hq.toStep;refine jm (jn rfl (jz ?_));exact ⟨rfl,rfl⟩;apply jjT;exact rfl;rintro w' hq;have:=hq.toStep;refine jN rfl rfl rfl (jz ?_);exact ⟨rfl,rfl⟩;apply jjT;exact rfl;rintro w' hq;have:=hq.toStep;refine jN rfl rfl rfl (jz ?_);exact ⟨rfl,rfl⟩;refine jjU ?_)))
 refine jjV [7] (by decide +kernel) hS2.ext (jjT (v:=.pointer (some ⟨pb,po+i * 4,none⟩)) rfl (fun w' q1=>?_) (jjU ?_));(refine jH i rfl rfl rfl (by omega) ?_;refine jz ?_;exact ⟨rfl,rfl⟩)
 refine jjV [8] (by decide +kernel) hS2.ext ?_
 (((apply jjT;exact rfl;rintro w' hq;refine jm (jn rfl (jz ?_));exact ⟨rfl,rfl⟩;refine jjU ?_)))
 refine jjV [9] (by decide +kernel) hS2.ext (jjT (v:=.int .i64 (t:Int)) rfl (fun w' q1=>?_) (jjU ?_));(refine jR ((A1 k _ (hJ _ _ _ hj q1)).get (i:=1) rfl) rfl rfl ?_;refine jz ?_;exact ⟨rfl,rfl⟩)
 have hj2:=hJ _ _ _ hj hS2.ext
 by_cases hk1:k<t+1-f
 rotate_left
 ·obtain rfl:k=t+1-f:=by omega
  refine jjV [10] (by decide +kernel) hS2.ext (jjT (v:=.bool false) rfl (fun w' q1=>?_) (jjU ?_));(refine jjc rfl rfl (by omega) (jz ?_);exact ⟨rfl,rfl⟩)
  refine jjX (by decide +kernel) hS2.ext ?_
  (refine jjK rfl (jjE ?_);refine jA rfl ⟨⟨_,rfl⟩,?_⟩)
  rw [List.length_range']
  exact hj2
 refine jjV [10] (by decide +kernel) hS2.ext (jjT (v:=.bool true) rfl (fun w' q1=>?_) (jjU ?_));(refine jjb rfl rfl (by omega) (jz ?_);exact ⟨rfl,rfl⟩)
 refine jjX (by decide +kernel) hS2.ext ?_
 have f2:=hF k w2 hj2
 have:=f2.a1
 have:=f2.a2
 have:=f2.d
 have i2:RowI w2 (.slice la L.length lc) false 1 (L.map encLn):=⟨f2.l⟩
 have hfl:f+k<L.length:=by omega
 (refine jjJ rfl (jjG (jjB (jjD (jjB (jjC ?_)))));refine jI (eF rfl) (jI (eI rfl) (jN rfl rfl rfl (jw rfl (jm (jn rfl ?_)))));refine jN rfl rfl rfl (jI (eI rfl) ?_);refine jF rfl rfl rfl (map_get (by omega)) ?_;intro _ _ _;refine jQ rfl rfl ?_)
 refine Ops.yield (hY k (f+k) _ _ (by rw [List.getElem?_range' (by omega)];simp) ⟨hfl,rfl⟩ hj2) rfl rfl ?_
 rintro e V' ⟨rfl,h1,h2⟩
 refine ⟨_,rfl,?_⟩
 (refine jp rfl (jz (jjK rfl (jjG (jjC (jI (eI rfl) ?_)))));refine jY rfl rfl (by omega) (jJ (eI rfl) (jz ?_)))
 exact ⟨rfl,by (((iterate 26 refine Same.upd rfl ?_);exact Same.ovN)),t+1-f-(k+1),by omega,k+1,congrArg (Value.int .i64) (by omega),rfl,by omega,h1⟩

theorem lnK_wordsX (cs:List Ch):(lnK cs cs.length).map (·.2.2)=(txF cs).flatMap (·.2):=by
 rw [lnK,List.take_length,List.map_flatMap,txF,List.flatMap_map]
theorem lnK_tq {cs:List Ch} (h:txF cs=tqT):∃ l0 l1:Ln,lnK cs cs.length=[l0,l1]∧l0.2.2=[wOld,wSea]∧l1.2.2=[wSea,wAnd,wOld]:=by
 have:=lnK_wordsX cs
 rw [h] at this
 match hl:lnK cs cs.length,this with
 | [l0,l1],h =>
   have h2:[l0.2.2,l1.2.2]=[[wOld,wSea],[wSea,wAnd,wOld]]:=h
   simp only [List.cons.injEq,and_true] at h2
   exact ⟨l0,l1,rfl,h2.1,h2.2⟩
 | [],h=>exact absurd h (by simp [tqT])
 | [_],h=>exact absurd (congrArg List.length h) (by simp [tqT])
 | _::_::_::_,h=>exact absurd (congrArg List.length h) (by simp [tqT])
theorem tr_ok (b8 b9:Nat):RoundOk 2 trH trS (trX b8 b9) where
 few:=by omega
 h1:=by decide
 s1:=by decide
 x1:=rfl
 hp:=by decide
 hd:=fun i h k hk=>by simp at h;omega
 sp:=by decide
 so:=fun i h h0=>by
  obtain rfl:i=1:=by simp at h;omega
  show (0:Int)<1∧(0:Int)<1
  decide
 so2:=fun i h h0=>by simp at h;omega
 sh:=by
  intro i h
  have:i=0∨i=1:=by simp at h;omega
  rcases this with rfl|rfl
  ·exact ⟨by simp,.inr rfl,fun n hn=>by simp at hn⟩
  ·refine ⟨by simp,.inl rfl,fun n hn=>?_⟩
   obtain rfl:n=0:=by simp at hn;omega
   show lineB [wSea,wAnd,wSold]=true
   kernel_rfl
theorem lns_ok:LnsOk [wSea,wAnd,wOld] [wSea,wAnd,wSold]:=⟨rfl,rfl,rfl,rfl,by decide,by kernel_rfl,by kernel_rfl⟩
section
variable (a:Option Addr) (c:Nat) (cs:List Ch) (ha:Option Addr) (hc:Nat) (sa:Option Addr) (sc:Nat) (xa:Option Addr) (xc b8 b9:Nat) (w:World)
 [hrow:RowI w (.slice a cs.length c) true 2 (cs.map encCh)] [hT:TextI w cs] [hhs:RowI w (.slice ha trH.length hc) true 3 (trH.map encHp)] [hss:RowI w (.slice sa trS.length sc) true 4 (trS.map encShr)] [hxs:RowI w (.slice xa (trX b8 b9).length xc) true 2 ((trX b8 b9).map encSht)] [hxi:ShtI w (trX b8 b9)]
set_option maxHeartbeats 16000000 in
theorem Explain_hand [hst:At w 0 0 stepsC] (hsm:SmallT cs) (ht:txF cs=tqT):Ct Tryz.prog 14 [.agg #[.slice a cs.length c,.slice ha trH.length hc,.slice sa trS.length sc,.slice xa (trX b8 b9).length xc],.int .i64 1] w fun v w'=>∃ (fa:Option Addr) (fc:Nat),v=.tuple #[.slice fa 1 fc,.int .i64 0]∧RowV w' true 3 (.slice fa 1 fc) [encFt (3,1,1)]:=by
 obtain ⟨l0,l1,hL,hw0,hw1⟩:=lnK_tq ht
 have htx:textB (txF cs)=true:=by rw [ht];kernel_rfl
 have hp:RoundOk (lnK cs cs.length).length trH trS (trX b8 b9):=by rw [hL];exact tr_ok b8 b9
 have hl1m:∃ x∈cs,l1∈x.2.2.2:=by
  have:l1∈lnK cs cs.length:=by rw [hL];simp
  rw [lnK,List.mem_flatMap] at this
  obtain ⟨x,hx,hy⟩:=this
  exact ⟨x,List.mem_of_mem_take hx,hy⟩
 obtain ⟨x1,hx1,hy1⟩:=hl1m
 have hW1:=hT.words x1 hx1 l1 hy1
 refine Ct.ofWM (by simp) ?_
 (refine jjB (jjC ?_))
 (refine jy rfl ?_;intro b2 w_b2 hb_b2 hs_b2 hS_b2 hk_b2;have hA_b2:=At.ofBlock hk_b2)
 have A2:At w_b2 b2 0 [.slice a cs.length c,.slice ha trH.length hc,.slice sa trS.length sc,.slice xa (trX b8 b9).length xc]:=At.ofBlock hk_b2
 (refine jJ (eS rfl) (jJ (eI rfl) (jz (jjB (jjC (jO rfl rfl rfl rfl ?_)))));refine jI (eI rfl) ?_)
 refine jjQ (part_hand a c cs ha hc trH sa sc trS xa xc (trX b8 b9) _ hsm htx hp 1 (by decide)) rfl rfl ?_
 rintro _ w4 hS4 ⟨bd,rfl,hD⟩
 obtain ⟨la,lc,pa,pc,D1,D2,D3⟩:=hD.h
 have is:RowI w4 (.slice sa trS.length sc) true 4 (trS.map encShr):=inferInstance
 have ix:RowI w4 (.slice xa (trX b8 b9).length xc) true 2 ((trX b8 b9).map encSht):=inferInstance
 have jx:ShtI w4 (trX b8 b9):=inferInstance
 have gs:(trS.map encShr)[1]?=some (encShr (1,1,0,0)):=rfl
 have gx:((trX b8 b9).map encSht)[1]?=some (encSht (true,some ⟨b9,0,none⟩,1,[(some ⟨b8,0,none⟩,3,[wSea,wAnd,wSold])])):=rfl
 have gl:((lnK cs cs.length).map encLn)[1]?=some (encLn l1):=by rw [hL];rfl
 obtain ⟨sb,so,rfl,-⟩:=is.h.place' gs
 obtain ⟨xb,xo,rfl,-⟩:=ix.h.place' gx
 obtain ⟨lb,lo,rfl,Lx⟩:=D2.place' gl
 have S1:At w4 sb (so+1 * 4) [.int .i64 1,.int .i64 1,.int .i64 0,.int .i64 0]:=place_k is.h gs
 have X1:At w4 xb (xo+1 * 2) [.bool true,.slice (some ⟨b9,0,none⟩) 1 1]:=place_k ix.h gx
 have E4:Ext w w4:=inferInstance
 have zs:=S1.lt
 have zl:=Lx.lt
 have zd:=D1.lt
 (refine jI (eU rfl) (ju rfl rfl (ju rfl rfl (jJ (eP rfl) (jJ (eI rfl) (jz ?_)))));refine jjB (jjB (jjC (jI (eI rfl) (jjk rfl rfl (by omega) (jz ?_)))));refine jjK rfl (jjG (jjB (jjB (jjC (jI (eP rfl) ?_)))));refine jw rfl (jm (jn rfl (jm (jn rfl (jN rfl rfl rfl ?_)))));refine jI (eI rfl) ?_)
 refine jH 1 rfl rfl rfl (by simp) ?_
 (refine jm (jn rfl (jP rfl rfl rfl (jp rfl (jz (jjK rfl ?_)))));refine jjG (jjB (jjC ?_)))
 ((skip);refine jjY ?_;intro b10 w_b10 hb_b10 hs_b10 hS_b10 hk_b10;have hA_b10:=Bk.of hk_b10)
 have B10:Bk w_b10 b10 [.slice none 0 0] 67:=inferInstance
 have e10:=hS_b10.ext
 (refine jz (jjB (jjB (jjC (jI (eP rfl) (jI (eI rfl) ?_))))))
 refine jjQ (of_hand bd 1 _) rfl rfl ?_
 rintro _ w5 hS5 ⟨c1,c2,rfl,hc1,hc2,hA1,hA2⟩
 have e5:=e10.trans hS5.ext
 have B15:=B10.ext hS5.ext
 have D5:=D1.ext e5
 have L5:=D2.ext e5
 have s5:=is.h.ext e5
 have z10:=hS_b10.size
 have z5:=hS5.size
 have zb:b10<w5.heap.size:=B15.lt
 have E5:Ext w w5:=E4.trans e5
 have zE:=E4.size
 (refine jz (jjD ?_))
 refine W.rangeMN w.heap.size (List.range' 1 (1+1-1)) (relXL (lnK cs cs.length)) (of1L_hand c1 c2 bd 1 (.slice a cs.length c) (.slice ha trH.length hc) (.slice (some ⟨xb,xo,none⟩) (trX b8 b9).length xc) (.slice pa (lnK cs cs.length).length pc) (some ⟨sb,so,none⟩) sc trS (some ⟨lb,lo,none⟩) lc (lnK cs cs.length) (by simp) 1 1 rfl rfl (Nat.le_refl _) (by rw [hL];simp) (by rw [hL];simp)) rfl (fun x vs V ⟨h,e⟩=>by rw [e];rfl) trivial inferInstance E5.size
  (fun i V=>Only b10 w5 V∧∃ lv,Bk V b10 [lv] 67∧(i=0→lv=.slice none 0 0)∧(i=1→∃ (a:Option Addr) (c:Nat),lv=.slice a 1 c∧RowV V false 1 (.slice a 1 c) [encLn l1]))
  ?hJ ?hF ⟨.ofExt (.refl _),_,B15,fun _=>rfl,fun h=>by omega⟩ (fun _ k=>k=b10) ?hW1 (fun _ _ _ _ _ _ h=>h) (fun _ _ _ _ h=>.inl h) (fun n s' V=>(∃ h:n<(lnK cs cs.length).length,s' 10=encLn (lnK cs cs.length)[n])∧s' 8=.pointer (some ⟨b10,0,none⟩)) (fun x s V V' h g=>h) ?hassign ?hbody ?hdone
 case hJ =>
  rintro i V V' ⟨h1,lv,h2,h3,h4⟩ g
  refine ⟨h1.growB g.toB (Nat.le_refl _),lv,h2.grow g,h3,fun h=>?_⟩
  obtain ⟨a,c,e,hr⟩:=h4 h
  exact ⟨a,c,e,hr.grow g⟩
 case hF =>
  rintro i V ⟨h1,-⟩
  exact ⟨h1.at_ hA1 (by omega),h1.at_ hA2 (by omega),h1.at_ D5 (by omega),h1.row s5 (fun e=>by simp [Value.ownBlock] at e;omega),h1.row L5 (fun e=>by simp [Value.ownBlock] at e;omega)⟩
 case hW1 =>
  rintro i V k ⟨h1,-⟩ rfl
  have:=h1.size
  omega
 case hassign =>
  rintro l' i x vs V hx ⟨h,rfl⟩ hj hl' hr
  (refine jjC (jJ (eS rfl) (jz ?_)))
  exact ⟨rfl,Tr.refl _,Fr.refl _ _,hj,⟨h,rfl⟩,rfl⟩
 case hbody =>
  rintro l' i x s' V hx ⟨h1,lv,h2,h3,h4⟩ ⟨⟨hxl,hs10⟩,hs8⟩ hl' hr
  have hlt:=(List.getElem?_eq_some_iff.1 hx).1
  rw [List.length_range'] at hlt
  obtain rfl:i=0:=by omega
  obtain rfl:x=1:=by
   rw [List.getElem?_range' hlt] at hx
   simpa using hx.symm
  obtain rfl:=h3 rfl
  have hle:(lnK cs cs.length)[1]=l1:=by
   have:=List.getElem?_eq_getElem hxl
   rw [List.getElem?_eq_some_iff.2 ⟨hxl,rfl⟩] at this
   have h':(lnK cs cs.length)[1]?=some l1:=by rw [hL];rfl
   rw [List.getElem?_eq_getElem hxl] at h'
   exact Option.some.inj h'
  rw [hle] at hs10
  refine W.fix (d:=10) hs10 (W.fix (d:=8) hs8 ?_)
  clear hs10 hs8
  (refine jjD (jjC (jN rfl rfl rfl (jI (eS rfl) ?_))))
  (refine jjP (v:=.slice _ _ _) rfl (by exact rfl) (by exact rfl) (by exact rfl) (by exact rfl) ?_;intro b39 w_b39 hb_b39 hs_b39 hS_b39 hk_b39;have hR_b39:=RowV.one (agg:=false) (k:=1) rfl hk_b39)
  have R39:RowV w_b39 false 1 (.slice (some ⟨b39,0,none⟩) 1 1) [encLn l1]:=hR_b39
  refine Ops.appendL (OwnL.nil w_b39 w_b39.heap.size 70 false 1) (Nat.le_refl _) R39 rfl rfl rfl rfl rfl ?_ ?_ ?_
  ·simp
  ·simp
  intro v6 w6 hA6 hO6 _ _
  obtain ⟨a6,c6,rfl⟩:=hO6.slice
  have e6:Ext V w6:=hA6.ext hS_b39.ext hS_b39.size
  have B6:=h2.ext e6
  skip
  refine Ops.store rfl rfl rfl rfl rfl ?_
  intro w7 hp7
  have B7:Bk w7 b10 [.slice a6 1 c6] 67:=Bk.of hp7.new
  have hz:=h1.size
  have hO7:Only b10 w5 w7:=(h1.trans (.ofExt e6)).trans (.ofPut hp7)
  (refine jz ?_)
  refine ⟨e6.tr.trans (hp7.tr ⟨_,B6.h,rfl⟩),(Fr.ext e6).trans (hp7.frS (M:=fun k=>k=b10) rfl),hO7,_,B7,fun h=>by omega,fun _=>⟨a6,c6,rfl,hp7.row hO6.row (fun e=>by have:=(hO6.block _ e).1;have:=hS_b39.size;omega)⟩⟩
 case hdone =>
  rintro ds' V' hmk' htr ⟨hO,lv,hB,-,h1⟩
  obtain ⟨a7,c7,rfl,hR7⟩:=h1 rfl
  have V10:=hB.toAt
  have DV:=hO.at_ D5 (by omega)
  have SV:=hO.at_ (S1.ext e5) (by omega)
  have XV:=hO.at_ (X1.ext e5) (by have:=X1.lt;omega)
  have EV:Ext w V':=hO.ext E5 (by omega)
  have stV:=hst.ext EV
  (refine jjB ?_)
  refine W.draw (fun w'=>Ext V' w') ?_
  intro u1 hu1
  (refine jjV [0,1,2,3,4,5,6] ?_ ?_ ?_;(decide +kernel);(exact hu1.ext);(((apply jjT;exact rfl;rintro w' hq;have:=V10.ext hq;have:=DV.ext hq;have:=hq.toStep;refine jN rfl rfl rfl (jz ?_);exact ⟨rfl,rfl⟩;apply jjT;exact rfl;rintro w' hq;have:=V10.ext hq;have:=DV.ext hq;have:=hq.toStep;refine jI (eP rfl) (jz ?_);exact ⟨rfl,rfl⟩;apply jjT;exact rfl;rintro w' hq;have:=V10.ext hq;have:=DV.ext hq;have:=hq.toStep;refine jw rfl (jz ?_);exact ⟨rfl,rfl⟩;apply jjT;exact rfl;rintro w' hq;have:=V10.ext hq;have:=DV.ext hq;have:=hq.toStep;refine jm (jn rfl (jz ?_));exact ⟨rfl,rfl⟩;apply jjT;exact rfl;rintro w' hq;have:=V10.ext hq;have:=DV.ext hq;have:=hq.toStep;refine jm (jn rfl (jz ?_));exact ⟨rfl,rfl⟩;apply jjT;exact rfl;rintro w' hq;have:=V10.ext hq;have:=DV.ext hq;have:=hq.toStep;refine jN rfl rfl rfl (jz ?_);exact ⟨rfl,rfl⟩;apply jjT;exact rfl;rintro w' hq;have:=V10.ext hq;have:=DV.ext hq;have:=hq.toStep;refine jI (eI rfl) (jz ?_);exact ⟨rfl,rfl⟩;refine jjU ?_))))
  refine jjV [7] (by decide +kernel) hu1.ext (jjT (v:=.pointer (some ⟨xb,xo+1 * 2,none⟩)) rfl (fun w' q1=>?_) (jjU ?_));(refine jH 1 rfl rfl rfl (by simp) ?_;refine jz ?_;exact ⟨rfl,rfl⟩)
  (refine jjV [8] ?_ ?_ ?_;(decide +kernel);(exact hu1.ext);(((apply jjT;exact rfl;rintro w' hq;refine jm (jn rfl (jz ?_));exact ⟨rfl,rfl⟩;refine jjU ?_))))
  refine jjV [9] (by decide +kernel) hu1.ext (jjT (v:=.slice (some ⟨b9,0,none⟩) 1 1) rfl (fun w' q1=>?_) (jjU ?_));(refine jR ((XV.ext q1).get (i:=1) rfl) rfl rfl ?_;refine jz ?_;exact ⟨rfl,rfl⟩)
  (refine jjV [10,11,12,13,14,15] ?_ ?_ ?_;(decide +kernel);(exact hu1.ext);(((apply jjT;exact rfl;rintro w' hq;have:=DV.ext hq;have:=hq.toStep;refine jI (eP rfl) (jz ?_);exact ⟨rfl,rfl⟩;apply jjT;exact rfl;rintro w' hq;have:=DV.ext hq;have:=hq.toStep;refine jw rfl (jz ?_);exact ⟨rfl,rfl⟩;apply jjT;exact rfl;rintro w' hq;have:=DV.ext hq;have:=hq.toStep;refine jm (jn rfl (jz ?_));exact ⟨rfl,rfl⟩;apply jjT;exact rfl;rintro w' hq;have:=DV.ext hq;have:=hq.toStep;refine jm (jn rfl (jz ?_));exact ⟨rfl,rfl⟩;apply jjT;exact rfl;rintro w' hq;have:=DV.ext hq;have:=hq.toStep;refine jN rfl rfl rfl (jz ?_);exact ⟨rfl,rfl⟩;apply jjT;exact rfl;rintro w' hq;have:=DV.ext hq;have:=hq.toStep;refine jI (eI rfl) (jz ?_);exact ⟨rfl,rfl⟩;refine jjU ?_))))
  refine jjV [16] (by decide +kernel) hu1.ext (jjT (v:=.pointer (some ⟨sb,so+1 * 4,none⟩)) rfl (fun w' q1=>?_) (jjU ?_));(refine jH 1 rfl rfl rfl (by simp) ?_;refine jz ?_;exact ⟨rfl,rfl⟩)
  (refine jjV [17] ?_ ?_ ?_;(decide +kernel);(exact hu1.ext);(((apply jjT;exact rfl;rintro w' hq;refine jm (jn rfl (jz ?_));exact ⟨rfl,rfl⟩;refine jjU ?_))))
  refine jjV [18] (by decide +kernel) hu1.ext (jjT (v:=.int .i64 1) rfl (fun w' q1=>?_) (jjU ?_));(refine jR ((SV.ext q1).get (i:=0) rfl) rfl rfl ?_;refine jz ?_;exact ⟨rfl,rfl⟩)
  (apply jjW 19;(decide +kernel);exact rfl;(exact hu1.ext))
  have Eu:=EV.trans hu1.ext
  have shl:=hxi.lines _ (List.mem_cons_of_mem _ (List.mem_singleton.2 rfl))
  have shw:=hxi.words _ (List.mem_cons_of_mem _ (List.mem_singleton.2 rfl)) _ (List.mem_singleton.2 rfl)
  refine jjQ (told_hand a7 (some ⟨b9,0,none⟩) c7 1 l1 (some ⟨b8,0,none⟩,3,[wSea,wAnd,wSold]) 1 _ (by omega) (hR7.ext hu1.ext) (hW1.ext Eu) (shl.ext Eu) (shw.ext Eu) (by rw [hw1];exact lns_ok) (stV.ext hu1.ext)) rfl rfl ?_
  rintro _ w8 hS8 ⟨fa,fc,rfl,hRF⟩
  have e8:=hu1.ext.trans hS8.ext
  refine jz ?_
  (refine jjV [20,21,22,23,24] ?_ ?_ ?_;(decide +kernel);(exact e8);(((refine jjT rfl (fun _ _=>jI (eU rfl) (jz ⟨rfl,rfl⟩)) (jjT rfl (fun _ _=>ju rfl rfl (jz ⟨rfl,rfl⟩)) (jjT rfl (fun _ _=>ju rfl rfl (jz ⟨rfl,rfl⟩)) (jjT rfl (fun _ _=>jJ (eS rfl) (jz ⟨rfl,rfl⟩)) (jjT rfl (fun _ _=>jJ (eI rfl) (jz ⟨rfl,rfl⟩)) (jjU ?_)))))))))
  refine jjX (by decide +kernel) e8 ?_
  (refine jjB (jjB (jjC (jI (eI rfl) (jjg rfl rfl (by omega) (jz ?_)))));refine jjK rfl (jjG (jjB (jjC (jI (eS rfl) (jJ (eS rfl) ?_)))));refine jJ (eI rfl) (jz (jjF ?_)))
  have e8s:=e8.toStep
  exact fin2M rfl rfl rfl inferInstance fun w' g=>⟨(EV.trans e8).ofGrow g (Nat.le_refl _),fa,fc,rfl,hRF.grow g⟩
end

section
variable (w:World) [hgs:At w 1 0 sidesC]
end

theorem moveR_skip {p:Pl} {rs:List Rd} {i:Nat} {q:Int} (hi:i<rs.length) (h:rs[i].1.1≠p.1∨rs[i].1.2.1≠p.2.1∨p.2.2<rs[i].1.2.2):moveR p (rs.drop i) q=moveR p (rs.drop (i+1)) q:=by
 rw [List.drop_eq_getElem_cons hi,moveR,if_pos h]
theorem moveR_put {p:Pl} {rs:List Rd} {i:Nat} {q:Int} (hi:i<rs.length) (h:¬ (rs[i].1.1≠p.1∨rs[i].1.2.1≠p.2.1∨p.2.2<rs[i].1.2.2)) (h2:rs[i].2.1=2):moveR p (rs.drop i) q=moveR p (rs.drop (i+1)) (q+1):=by
 rw [List.drop_eq_getElem_cons hi,moveR,if_neg h,if_pos h2]
theorem moveR_gone {p:Pl} {rs:List Rd} {i:Nat} {q:Int} (hi:i<rs.length) (h:¬ (rs[i].1.1≠p.1∨rs[i].1.2.1≠p.2.1∨p.2.2<rs[i].1.2.2)) (h2:rs[i].2.1=1) (h3:rs[i].1.2.2=p.2.2):moveR p (rs.drop i) q=none:=by
 rw [List.drop_eq_getElem_cons hi,moveR,if_neg h,if_neg (by omega),if_pos h2,if_pos h3]
theorem moveR_omit {p:Pl} {rs:List Rd} {i:Nat} {q:Int} (hi:i<rs.length) (h:¬ (rs[i].1.1≠p.1∨rs[i].1.2.1≠p.2.1∨p.2.2<rs[i].1.2.2)) (h2:rs[i].2.1=1) (h3:¬ rs[i].1.2.2=p.2.2):moveR p (rs.drop i) q=moveR p (rs.drop (i+1)) (q-1):=by
 rw [List.drop_eq_getElem_cons hi,moveR,if_neg h,if_neg (by omega),if_pos h2,if_neg h3]
theorem moveR_other {p:Pl} {rs:List Rd} {i:Nat} {q:Int} (hi:i<rs.length) (h:¬ (rs[i].1.1≠p.1∨rs[i].1.2.1≠p.2.1∨p.2.2<rs[i].1.2.2)) (h2:¬ rs[i].2.1=1) (h3:¬ rs[i].2.1=2):moveR p (rs.drop i) q=moveR p (rs.drop (i+1)) q:=by
 rw [List.drop_eq_getElem_cons hi,moveR,if_neg h,if_neg h3,if_neg h2]
theorem movedS_err {t:Tx} {id:Int} {rs:List Rd} {p:Pl} (h:cpE t id rs≠0):movedS t id rs p=((0,0,0),cpE t id rs):=by rw [movedS,if_pos h]
theorem movedS_place {t:Tx} {id:Int} {rs:List Rd} {p:Pl} (h:cpE t id rs=0) (h2:placeB t p=false):movedS t id rs p=((0,0,0),12):=by rw [movedS,if_neg (by simp [h]),if_pos h2]
theorem movedS_none {t:Tx} {id:Int} {rs:List Rd} {p:Pl} (h:cpE t id rs=0) (h2:placeB t p=true) (h3:moveR p rs p.2.2=none):movedS t id rs p=((0,0,0),6):=by rw [movedS,if_neg (by simp [h]),if_neg (by simp [h2]),h3]
theorem movedS_some {t:Tx} {id:Int} {rs:List Rd} {p:Pl} {q:Int} (h:cpE t id rs=0) (h2:placeB t p=true) (h3:moveR p rs p.2.2=some q):movedS t id rs p=((p.1,p.2.1,q),0):=by rw [movedS,if_neg (by simp [h]),if_neg (by simp [h2]),h3]
theorem place_small {cs:List Ch} (hs:SmallT cs) {p:Pl} (h:placeB (txF cs) p=true):0≤p.2.2∧p.2.2≤1000:=by
 obtain ⟨l,hl,q,hq,e⟩:=placeB_line h
 rw [lineC_T] at hl
 obtain ⟨y,hy,rfl⟩:=Option.map_eq_some_iff.1 hl
 obtain ⟨x,hx,hy⟩:=lineC_mem hy
 have:=((hs.2 x hx).2 y hy).1
 omega
set_option maxHeartbeats 8000000 in
theorem Moved_slip (a:Option Addr) (c:Nat) (cs:List Ch) (w:World) [hrow:RowI w (.slice a cs.length c) true 2 (cs.map encCh)] [hT:TextI w cs] [hg:At w 2 0 kindsC] (id:Int) (ra:Option Addr) (rc:Nat) (rs:List Rd) (p:Pl) (hs:SmallT cs) (hrs:SmallR rs)
  [hrd:RowI w (.slice ra rs.length rc) true 5 (rs.map encRd)] :
  Ct Tryz.prog 49 [.agg #[.slice a cs.length c],.agg #[.int .i64 id,.slice ra rs.length rc],encPl p] w fun v _=>v=.tuple #[encPl (movedS (txF cs) id rs p).1,.int .i64 (movedS (txF cs) id rs p).2]:=by
 have hrl:=hrs.len
 refine Ct.ofW (by simp) ?_
 (refine jjB (jjC ?_))
 (refine jy rfl ?_;intro b3 w_b3 hb_b3 hs_b3 hS_b3 hk_b3;have hA_b3:=At.ofBlock hk_b3)
 skip
 (refine jy rfl ?_;intro b4 w_b4 hb_b4 hs_b4 hS_b4 hk_b4;have hA_b4:=At.ofBlock hk_b4)
 skip
 (refine jy rfl ?_;intro b5 w_b5 hb_b5 hs_b5 hS_b5 hk_b5;have hA_b5:=At.ofBlock hk_b5)
 ((skip);refine jjY ?_;intro b6 w_b6 hb_b6 hs_b6 hS_b6 hk_b6;have hA_b6:=Bk.of hk_b6)
 (refine jJ (eI rfl) (jz (jjB (jjB (jjC (jO rfl rfl rfl rfl ?_)))));refine jO rfl rfl rfl rfl (jO rfl rfl rfl rfl ?_))
 obtain ⟨e,he⟩:∃ e,cpE (txF cs) id rs=e:=⟨_,rfl⟩
 have hin:=cpE_in (txF cs) id rs
 rw [he] at hin
 have hst:=Stands_leaf a c cs w_b6 id ra rc rs p hs hrs
 rw [he] at hst
 have hE6:Ext w w_b6:=inferInstance
 have hB6:Bk w_b6 b6 [.int .i64 0,.int .i64 0,.int .i64 0] 48:=hA_b6
 have hA5:At w_b6 b5 0 [.int .i64 p.1,.int .i64 p.2.1,.int .i64 p.2.2]:=inferInstance
 have hA4:At w_b6 b4 0 [.int .i64 id,.slice ra rs.length rc]:=inferInstance
 by_cases h0:e=0
 rotate_left
 ·rw [if_pos h0] at hst
  refine jjQ hst rfl rfl ?_
  rintro _ w2 hS2 rfl
  have hB2:=hB6.ext hS2.ext
  (refine jI (eU rfl) (ju rfl rfl (ju rfl rfl (jJ (eT rfl) (jJ (eI rfl) (jz ?_)))));refine jjB (jjC (jI (eI rfl) (jjj rfl rfl (by omega) (jz (jjJ rfl ?_)))));refine jjB (jjC ?_))
  (refine jjS (cells:=[.int .i64 0,.int .i64 0,.int .i64 0]) ?_ ?_;exact rfl)
  (apply jI;exact eI rfl)
  refine Ops.store rfl rfl rfl rfl rfl ?_
  intro V2 hp2
  have:=Bk.toAt (h:=Bk.of hp2.new)
  (refine jJ (eI rfl) (jz (jjF ?_)))
  refine fin2C rfl rfl rfl rfl rfl rfl ⟨hp2.ext (hE6.trans hS2.ext) (by omega),?_⟩
  rw [movedS_err (by rw [he];exact h0),he];exact rfl
 subst h0
 rw [if_neg (by simp)] at hst
 obtain ⟨B,hB⟩:∃ B,placeB (txF cs) p=B:=⟨_,rfl⟩
 rw [hB] at hst
 cases B
 ·rw [if_pos rfl] at hst
  refine jjQ hst rfl rfl ?_
  rintro _ w2 hS2 rfl
  have hB2:=hB6.ext hS2.ext
  (refine jI (eU rfl) (ju rfl rfl (ju rfl rfl (jJ (eT rfl) (jJ (eI rfl) (jz ?_)))));refine jjB (jjC (jI (eI rfl) (jjj rfl rfl (by omega) (jz (jjJ rfl ?_)))));refine jjB (jjC ?_))
  (refine jjS (cells:=[.int .i64 0,.int .i64 0,.int .i64 0]) ?_ ?_;exact rfl)
  (apply jI;exact eI rfl)
  refine Ops.store rfl rfl rfl rfl rfl ?_
  intro V2 hp2
  have:=Bk.toAt (h:=Bk.of hp2.new)
  (refine jJ (eI rfl) (jz (jjF ?_)))
  refine fin2C rfl rfl rfl rfl rfl rfl ⟨hp2.ext (hE6.trans hS2.ext) (by omega),?_⟩
  rw [movedS_place he hB];exact rfl
 rw [if_neg (by simp)] at hst
 have hps:=place_small hs hB
 refine jjQ hst rfl rfl ?_
 rintro _ w2 hS2 rfl
 clear hst
 (refine jI (eU rfl) (ju rfl rfl (ju rfl rfl (jJ (eT rfl) (jJ (eI rfl) (jz ?_)))));refine jjB (jjC (jI (eI rfl) (jjk rfl rfl (by omega) (jz (jjK rfl ?_)))));refine jjG (jjB (jjC (jO rfl rfl rfl rfl ?_))))
 (apply jjR rfl;(intro _;first|exact eI rfl|exact eB rfl|exact eP rfl|exact eS rfl|exact eT rfl|exact eA rfl|exact eU rfl|exact eF rfl|exact eM rfl|exact eN rfl|exact rfl);exact rfl;exact rfl;exact rfl;exact rfl;intro b10 w_b10 hb_b10 hs_b10 hS_b10 hk_b10;have hA_b10:=Bk.of hk_b10)
 (refine jz (jjB (jjB (jjC (jm (jn rfl ?_)))));refine jN rfl rfl rfl (jh rfl (jI (eI rfl) (jz (jjD ?_)))))
 have hE10:Ext w_b6 w_b10:=hS2.ext.trans hS_b10.ext
 have hw10:Ext w w_b10:=hE6.trans hE10
 have zE10:=hE10.size
 have z2:=hS2.ext.size
 have hB610:=hB6.ext hE10
 have hA510:=hA5.ext hE10
 have lt5:=hA5.lt
 have lt6:=hB6.lt
 refine W.keep0 [(5,.pointer (some ⟨b5,0,none⟩)),(6,.pointer (some ⟨b6,0,none⟩)),(10,.pointer (some ⟨b10,0,none⟩)),(26,.slice ra rs.length rc),(27,.int .i64 ((rs.length:Nat):Int)),(28,.int .i64 ((0:Nat):Int))] ⟨eP rfl,eP rfl,eP rfl,eS rfl,eI rfl,eI rfl,trivial⟩ fun s0=>?_
 refine W.loopG (29::30::31::12::32::33::34::35::36::37::38::39::40::41::42::43::44::45::46::47::48::49::50::51::52::53::54::55::57::56::58::59::60::61::63::62::64::65::66::67::68::7::69::70::71::72::73::28::[]) (fun gg s' V=>∃ (i:Nat) (q:Int),s' 28=.int .i64 ((i:Nat):Int)∧gg=rs.length-i∧i≤rs.length∧Only b10 w_b10 V∧Bk V b10 [.int .i64 p.1,.int .i64 p.2.1,.int .i64 q] 48∧moveR p (rs.drop i) q=moveR p rs p.2.2∧p.2.2-i≤q∧q≤p.2.2+i) rs.length ⟨0,p.2.2,rfl,rfl,Nat.zero_le _,.ofExt (.refl _),hA_b10,rfl,by omega,by omega⟩ ?_
 rintro _ sd V ⟨i,q,h28,rfl,hi,hOn,hVq,hmv,hq1,hq2⟩
 refine W.fix h28 ?_
 clear h28
 have zOn:=hOn.size
 have hEV:Ext w V:=hOn.ext hw10 (by have:=hE6.size;omega)
 have hrV:RowI V (.slice ra rs.length rc) true 5 (rs.map encRd):=⟨hrd.h.ext hEV⟩
 have hB6V:Bk V b6 [.int .i64 0,.int .i64 0,.int .i64 0] 48:=hOn.bk hB610 (by omega)
 have hA5V:At V b5 0 [.int .i64 p.1,.int .i64 p.2.1,.int .i64 p.2.2]:=hOn.at_ hA510 (by omega)
 have hAqV:At V b10 0 [.int .i64 p.1,.int .i64 p.2.1,.int .i64 q]:=Bk.toAt (h:=hVq)
 by_cases hir:i<rs.length
 rotate_left
 ·have hz:i=rs.length:=by omega
  subst hz
  rw [List.drop_length,moveR] at hmv
  (refine jjB (jjC (jja rfl rfl (by omega) (jz (jjB (jjK rfl ?_)))));refine jjE (jjB (jjC (jO rfl rfl rfl rfl ?_))))
  refine Ops.store rfl rfl rfl rfl rfl ?_
  intro V2 hp2
  have:=Bk.toAt (h:=Bk.of hp2.new)
  (refine jJ (eI rfl) (jz (jjF ?_)))
  refine fin2C rfl rfl rfl rfl rfl rfl ⟨hp2.ext hEV (by have:=hE6.size;omega),?_⟩
  rw [movedS_some he hB hmv.symm];exact rfl
 (refine jjB (jjC (jjZ rfl rfl (by omega) (jz (jjB (jjJ rfl ?_)))));refine jjG (jjB (jjD (jjB (jjC ?_))));refine jF rfl rfl rfl (map_get (by omega)) ?_;intro _ _ _;refine jQ rfl rfl ?_)
 (apply jjR rfl;(intro _;first|exact eI rfl|exact eB rfl|exact eP rfl|exact eS rfl|exact eT rfl|exact eA rfl|exact eU rfl|exact eF rfl|exact eM rfl|exact eN rfl|exact rfl);exact rfl;exact rfl;exact rfl;exact rfl;intro b12 w_b12 hb_b12 hs_b12 hS_b12 hk_b12;have hA_b12:=Bk.of hk_b12)
 have e12:=hS_b12.ext
 have hOn12:Only b10 w_b10 w_b12:=hOn.trans (.ofExt e12)
 have hq12:=hVq.ext e12
 by_cases hsk:rs[i].1.1≠p.1∨rs[i].1.2.1≠p.2.1∨p.2.2<rs[i].1.2.2
 ·have hm:=moveR_skip (q:=q) hir hsk
  by_cases c1:rs[i].1.1=p.1
  ·by_cases c2:rs[i].1.2.1=p.2.1
   ·have c3:p.2.2<rs[i].1.2.2:=by omega
    (refine jz (jjB (jjB (jjC (jm (jn rfl ?_)))));refine jm (jn rfl (jN rfl rfl rfl (jm (jn rfl (jN rfl rfl rfl ?_)))));refine jjk rfl rfl (by omega) (jI (eB rfl) (jT rfl rfl rfl (jm (jn rfl (jT rfl rfl rfl ?_)))));refine jm (jn rfl (jT rfl rfl rfl (jN rfl rfl rfl (jT rfl rfl rfl (jm ?_)))));refine jn rfl (jT rfl rfl rfl (jN rfl rfl rfl (jT rfl rfl rfl (jjk rfl rfl (by omega) (jL rfl (eB rfl) ?_)))));refine jI (eB rfl) (jT rfl rfl rfl (jm (jn rfl (jT rfl rfl rfl (jm ?_)))));refine jn rfl (jT rfl rfl rfl (jN rfl rfl rfl (jT rfl rfl rfl (jm (jn rfl ?_)))));refine jT rfl rfl rfl (jN rfl rfl rfl (jT rfl rfl rfl (jjd rfl rfl (by omega) (jL rfl (eB rfl) (jz ?_)))));refine jjJ rfl (jjE (jjC (jY rfl rfl (by omega) (jI (eI rfl) (jz ?_))))))
    exact ⟨rfl,by (((iterate 29 refine Same.upd rfl ?_);exact Same.ovN)),rs.length-(i+1),by omega,i+1,q,congrArg (Value.int .i64) (by omega),rfl,by omega,hOn12,hq12,hm.symm.trans hmv,by omega,by omega⟩
   ·(refine jz (jjB (jjB (jjC (jm (jn rfl ?_)))));refine jm (jn rfl (jN rfl rfl rfl (jm (jn rfl (jN rfl rfl rfl ?_)))));refine jjk rfl rfl (by omega) (jI (eB rfl) (jT rfl rfl rfl (jm (jn rfl (jT rfl rfl rfl ?_)))));refine jm (jn rfl (jT rfl rfl rfl (jN rfl rfl rfl (jT rfl rfl rfl (jm ?_)))));refine jn rfl (jT rfl rfl rfl (jN rfl rfl rfl (jT rfl rfl rfl (jjj rfl rfl (by omega) (jL rfl (eB rfl) ?_)))));refine jI (eB rfl) (jU rfl rfl rfl rfl (jU rfl rfl rfl rfl (jU rfl rfl rfl rfl (jU rfl rfl rfl rfl (jU rfl rfl rfl rfl ?_)))));refine jU rfl rfl rfl rfl (jK rfl (eB rfl) (jz (jjJ rfl (jjE (jjC ?_)))));refine jY rfl rfl (by omega) (jI (eI rfl) (jz ?_)))
    exact ⟨rfl,by (((iterate 29 refine Same.upd rfl ?_);exact Same.ovN)),rs.length-(i+1),by omega,i+1,q,congrArg (Value.int .i64) (by omega),rfl,by omega,hOn12,hq12,hm.symm.trans hmv,by omega,by omega⟩
  ·(refine jz (jjB (jjB (jjC (jm (jn rfl ?_)))));refine jm (jn rfl (jN rfl rfl rfl (jm (jn rfl (jN rfl rfl rfl ?_)))));refine jjj rfl rfl (by omega) (jI (eB rfl) (jU rfl rfl rfl rfl (jU rfl rfl rfl rfl (jU rfl rfl rfl rfl (jU rfl rfl rfl rfl ?_)))));refine jU rfl rfl rfl rfl (jU rfl rfl rfl rfl (jK rfl (eB rfl) (jI (eB rfl) (jU rfl rfl rfl rfl (jU rfl rfl rfl rfl ?_)))));refine jU rfl rfl rfl rfl (jU rfl rfl rfl rfl (jU rfl rfl rfl rfl (jU rfl rfl rfl rfl (jK rfl (eB rfl) (jz ?_)))));refine jjJ rfl (jjE (jjC (jY rfl rfl (by omega) (jI (eI rfl) (jz ?_))))))
   exact ⟨rfl,by (((iterate 29 refine Same.upd rfl ?_);exact Same.ovN)),rs.length-(i+1),by omega,i+1,q,congrArg (Value.int .i64) (by omega),rfl,by omega,hOn12,hq12,hm.symm.trans hmv,by omega,by omega⟩
 have c1:rs[i].1.1=p.1:=by omega
 have c2:rs[i].1.2.1=p.2.1:=by omega
 have c3:¬ p.2.2<rs[i].1.2.2:=by omega
 by_cases hk2:rs[i].2.1=2
 ·have hm:=moveR_put (q:=q) hir hsk hk2
  (refine jz (jjB (jjB (jjC (jm (jn rfl ?_)))));refine jm (jn rfl (jN rfl rfl rfl (jm (jn rfl (jN rfl rfl rfl ?_)))));refine jjk rfl rfl (by omega) (jI (eB rfl) (jT rfl rfl rfl (jm (jn rfl (jT rfl rfl rfl ?_)))));refine jm (jn rfl (jT rfl rfl rfl (jN rfl rfl rfl (jT rfl rfl rfl (jm ?_)))));refine jn rfl (jT rfl rfl rfl (jN rfl rfl rfl (jT rfl rfl rfl (jjk rfl rfl (by omega) (jL rfl (eB rfl) ?_)))));refine jI (eB rfl) (jT rfl rfl rfl (jm (jn rfl (jT rfl rfl rfl (jm ?_)))));refine jn rfl (jT rfl rfl rfl (jN rfl rfl rfl (jT rfl rfl rfl (jm (jn rfl ?_)))));refine jT rfl rfl rfl (jN rfl rfl rfl (jT rfl rfl rfl (jje rfl rfl (by omega) (jL rfl (eB rfl) (jz ?_)))));refine jjK rfl (jjG (jjB (jjC (jm (jn rfl ?_)))));refine jN rfl rfl rfl (jz (jjD (jjB (jjC (jjh rfl rfl (by omega) ?_)))));refine jJ (eB rfl) (jz (jjJ rfl (jjC (jm (jn rfl ?_)))));refine jN rfl rfl rfl (jY rfl rfl (by omega) (jm (jn rfl ?_))))
  refine Ops.storeC (cs:=[.int .i64 p.1,.int .i64 p.2.1,.int .i64 q]) (j:=2) (v:=.int .i64 (q+1)) rfl rfl rfl rfl (show 2<3 by omega) ?_
  intro V3 hp3
  (refine jz (jjC (jY rfl rfl (by omega) (jI (eI rfl) (jz ?_)))))
  exact ⟨rfl,by (((iterate 37 refine Same.upd rfl ?_);exact Same.ovN)),rs.length-(i+1),by omega,i+1,q+1,congrArg (Value.int .i64) (by omega),rfl,by omega,hOn12.trans (.ofPut hp3),⟨hp3.new⟩,hm.symm.trans hmv,by omega,by omega⟩
 by_cases hk1:rs[i].2.1=1
 rotate_left
 ·have hm:=moveR_other (q:=q) hir hsk hk1 hk2
  (refine jz (jjB (jjB (jjC (jm (jn rfl ?_)))));refine jm (jn rfl (jN rfl rfl rfl (jm (jn rfl (jN rfl rfl rfl ?_)))));refine jjk rfl rfl (by omega) (jI (eB rfl) (jT rfl rfl rfl (jm (jn rfl (jT rfl rfl rfl ?_)))));refine jm (jn rfl (jT rfl rfl rfl (jN rfl rfl rfl (jT rfl rfl rfl (jm ?_)))));refine jn rfl (jT rfl rfl rfl (jN rfl rfl rfl (jT rfl rfl rfl (jjk rfl rfl (by omega) (jL rfl (eB rfl) ?_)))));refine jI (eB rfl) (jT rfl rfl rfl (jm (jn rfl (jT rfl rfl rfl (jm ?_)))));refine jn rfl (jT rfl rfl rfl (jN rfl rfl rfl (jT rfl rfl rfl (jm (jn rfl ?_)))));refine jT rfl rfl rfl (jN rfl rfl rfl (jT rfl rfl rfl (jje rfl rfl (by omega) (jL rfl (eB rfl) (jz ?_)))));refine jjK rfl (jjG (jjB (jjC (jm (jn rfl ?_)))));refine jN rfl rfl rfl (jz (jjD (jjB (jjC (jji rfl rfl (by omega) ?_)))));refine jJ (eB rfl) (jz (jjK rfl (jjB (jjC (jji rfl rfl (by omega) ?_)))));refine jJ (eB rfl) (jz (jjK rfl (jjG (jjC (jY rfl rfl (by omega) ?_)))));refine jI (eI rfl) (jz ?_))
  exact ⟨rfl,by (((iterate 35 refine Same.upd rfl ?_);exact Same.ovN)),rs.length-(i+1),by omega,i+1,q,congrArg (Value.int .i64) (by omega),rfl,by omega,hOn12,hq12,hm.symm.trans hmv,by omega,by omega⟩
 by_cases hw:rs[i].1.2.2=p.2.2
 ·have hm:=moveR_gone (q:=q) hir hsk hk1 hw
  have hpe:rs[i].1=p:=Prod.ext c1 (Prod.ext c2 hw)
  (refine jz (jjB (jjB (jjC (jm (jn rfl ?_)))));refine jm (jn rfl (jN rfl rfl rfl (jm (jn rfl (jN rfl rfl rfl ?_)))));refine jjk rfl rfl (by omega) (jI (eB rfl) (jT rfl rfl rfl (jm (jn rfl (jT rfl rfl rfl ?_)))));refine jm (jn rfl (jT rfl rfl rfl (jN rfl rfl rfl (jT rfl rfl rfl (jm ?_)))));refine jn rfl (jT rfl rfl rfl (jN rfl rfl rfl (jT rfl rfl rfl (jjk rfl rfl (by omega) (jL rfl (eB rfl) ?_)))));refine jI (eB rfl) (jT rfl rfl rfl (jm (jn rfl (jT rfl rfl rfl (jm ?_)))));refine jn rfl (jT rfl rfl rfl (jN rfl rfl rfl (jT rfl rfl rfl (jm (jn rfl ?_)))));refine jT rfl rfl rfl (jN rfl rfl rfl (jT rfl rfl rfl (jje rfl rfl (by omega) (jL rfl (eB rfl) (jz ?_)))));refine jjK rfl (jjG (jjB (jjC (jm (jn rfl ?_)))));refine jN rfl rfl rfl (jz (jjD (jjB (jjC (jji rfl rfl (by omega) ?_)))));refine jJ (eB rfl) (jz (jjK rfl (jjB (jjC (jjh rfl rfl (by omega) ?_)))));refine jJ (eB rfl) (jz (jjJ rfl (jjB (jjB (jjC ?_)))));refine jm (jn rfl (jO rfl rfl rfl rfl (jO rfl rfl rfl rfl ?_))))
  refine Ops.eqlT (enc:=encPl) rs[i].1 p rfl rfl ?_
  rw [decide_eq_true hpe]
  (refine jz (jjJ rfl (jjB (jjC ?_))))
  (refine jjS (cells:=[.int .i64 0,.int .i64 0,.int .i64 0]) ?_ ?_;exact rfl)
  skip
  refine Ops.store rfl rfl rfl rfl rfl ?_
  intro V2 hp2
  have:=Bk.toAt (h:=Bk.of hp2.new)
  (refine jJ (eI rfl) (jz (jjF ?_)))
  refine fin2C rfl rfl rfl rfl rfl rfl ⟨hp2.ext (hEV.trans e12) (by have:=hE6.size;omega),?_⟩
  rw [movedS_none he hB (hmv.symm.trans hm)];exact rfl
 ·have hm:=moveR_omit (q:=q) hir hsk hk1 hw
  have hpe:¬ rs[i].1=p:=fun e=>hw (by rw [e])
  (refine jz (jjB (jjB (jjC (jm (jn rfl ?_)))));refine jm (jn rfl (jN rfl rfl rfl (jm (jn rfl (jN rfl rfl rfl ?_)))));refine jjk rfl rfl (by omega) (jI (eB rfl) (jT rfl rfl rfl (jm (jn rfl (jT rfl rfl rfl ?_)))));refine jm (jn rfl (jT rfl rfl rfl (jN rfl rfl rfl (jT rfl rfl rfl (jm ?_)))));refine jn rfl (jT rfl rfl rfl (jN rfl rfl rfl (jT rfl rfl rfl (jjk rfl rfl (by omega) (jL rfl (eB rfl) ?_)))));refine jI (eB rfl) (jT rfl rfl rfl (jm (jn rfl (jT rfl rfl rfl (jm ?_)))));refine jn rfl (jT rfl rfl rfl (jN rfl rfl rfl (jT rfl rfl rfl (jm (jn rfl ?_)))));refine jT rfl rfl rfl (jN rfl rfl rfl (jT rfl rfl rfl (jje rfl rfl (by omega) (jL rfl (eB rfl) (jz ?_)))));refine jjK rfl (jjG (jjB (jjC (jm (jn rfl ?_)))));refine jN rfl rfl rfl (jz (jjD (jjB (jjC (jji rfl rfl (by omega) ?_)))));refine jJ (eB rfl) (jz (jjK rfl (jjB (jjC (jjh rfl rfl (by omega) ?_)))));refine jJ (eB rfl) (jz (jjJ rfl (jjB (jjB (jjC ?_)))));refine jm (jn rfl (jO rfl rfl rfl rfl (jO rfl rfl rfl rfl ?_))))
  refine Ops.eqlT (enc:=encPl) rs[i].1 p rfl rfl ?_
  rw [decide_eq_false hpe]
  (refine jz (jjK rfl (jjG (jjC (jm (jn rfl ?_)))));refine jN rfl rfl rfl (jZ rfl rfl (by omega) (jm (jn rfl ?_))))
  refine Ops.storeC (cs:=[.int .i64 p.1,.int .i64 p.2.1,.int .i64 q]) (j:=2) (v:=.int .i64 (q-1)) rfl rfl rfl rfl (show 2<3 by omega) ?_
  intro V3 hp3
  (refine jz (jjC (jY rfl rfl (by omega) (jI (eI rfl) (jz ?_)))))
  exact ⟨rfl,by (((iterate 43 refine Same.upd rfl ?_);exact Same.ovN)),rs.length-(i+1),by omega,i+1,q-1,congrArg (Value.int .i64) (by omega),rfl,by omega,hOn12.trans (.ofPut hp3),⟨hp3.new⟩,hm.symm.trans hmv,by omega,by omega⟩

set_option maxHeartbeats 1000000 in
theorem same_words1 (a1 a2:Option Addr) (c1 c2 n1 n2:Nat) (xs ys:List ByteArray) (w:World) (h1:xs.length=n1) (h2:ys.length=n2) (hx:RowV w false 1 (.slice a1 n1 c1) (xs.map strV)) (hy:RowV w false 1 (.slice a2 n2 c2) (ys.map strV)):Ct Tryz.prog 90 [.slice a1 n1 c1,.slice a2 n2 c2] w fun v _=>v=.bool (decide (xs=ys)):=by
 subst h1 h2
 have hlx:=hx.len
 have hly:=hy.len
 rw [List.length_map] at hlx hly
 refine Ct.ofW (by simp) ?_
 by_cases hl:xs.length=ys.length
 rotate_left
 ·(refine jjB (jjC (jJ (eB rfl) (jz (jjB (jjB ?_)))));refine jjC (jI (eS rfl) (jh rfl (jI (eS rfl) (jh rfl (jjj rfl rfl (by omega) ?_)))));refine jz (jjJ rfl (jjB (jjC (jJ (eB rfl) (jz ?_)))));refine jjF ?_;refine jB rfl rfl ⟨inferInstance,?_⟩)
  rw [decide_eq_false (fun e=>hl (by rw [e]))];exact rfl
 (refine jjB (jjC (jJ (eB rfl) (jz (jjB (jjB ?_)))));refine jjC (jI (eS rfl) (jh rfl (jI (eS rfl) (jh rfl (jjk rfl rfl (by omega) ?_)))));refine jz (jjK rfl (jjG (jjB (jjB (jjC ?_)))));refine jJ (eI rfl) (jz (jjD ?_)))
 refine W.keep0 [(0,.slice a1 xs.length c1),(1,.slice a2 ys.length c2),(5,.int .i64 ((0:Nat):Int))] ⟨eS rfl,eS rfl,eI rfl,trivial⟩ fun s0=>?_
 refine W.loop (11::12::13::14::17::18::19::20::21::22::23::24::25::4::15::16::5::[]) (fun g s' V=>∃ k:Nat,s' 5=.int .i64 ((k:Nat):Int)∧g=xs.length-k∧k≤xs.length∧∀ (j:Nat) (hj:j<xs.length),j<k→xs[j]=ys[j]'(by omega)) xs.length ⟨0,rfl,rfl,Nat.zero_le _,by intros;omega⟩ ?_
 rintro _ sd w1 hS1 ⟨k,h5,rfl,hk,hpre⟩
 refine W.fix h5 ?_
 clear h5
 by_cases hkl:k<xs.length
 rotate_left
 ·have e:xs=ys:=List.ext_getElem hl fun j hj _=>hpre j hj (by omega)
  (refine jjB (jjB (jjC (jI (eI rfl) (jI (eS rfl) (jh rfl ?_)))));refine jja rfl rfl (by omega) (jz (jjK rfl (jjE (jjB (jjC ?_)))));refine jJ (eB rfl) (jz (jjF ?_));refine jB rfl rfl ⟨inferInstance,?_⟩)
  rw [decide_eq_true e];exact rfl
 have hkl2:k<ys.length:=by omega
 obtain ⟨b1,o1,rfl,hA1⟩:=hx.place' (map_get hkl)
 obtain ⟨b2,o2,rfl,hA2⟩:=hy.place' (map_get hkl2)
 rw [Nat.mul_one] at hA1 hA2
 (refine jjB (jjB (jjC (jI (eI rfl) (jI (eS rfl) (jh rfl ?_)))));refine jjZ rfl rfl (by omega) (jz (jjJ rfl (jjG (jjB (jjD ?_)))));refine jjB ?_)
 refine W.draw (fun w'=>Ext w w') ?_
 intro w2 hS2
 have hE2:Ext w w2:=hS1.ext.trans hS2.ext
 (refine jjV [0,1,2,3,4,5,6,7] ?_ ?_ ?_;(decide +kernel);(exact hE2);(((refine jjT rfl (fun _ _=>jI (eS rfl) (jz ⟨rfl,rfl⟩)) (jjT rfl (fun _ _=>jI (eI rfl) (jz ⟨rfl,rfl⟩)) ?_);apply jjT;exact rfl;rintro w' hq;have:=hq.toStep;refine jG rfl rfl rfl (by omega) (jz ?_);exact ⟨rfl,rfl⟩;apply jjT;exact rfl;rintro w' hq;have:=hq.toStep;refine jQ rfl rfl (jz ?_);exact ⟨rfl,rfl⟩;refine jjT rfl (fun _ _=>jI (eS rfl) (jz ⟨rfl,rfl⟩)) (jjT rfl (fun _ _=>jI (eI rfl) (jz ⟨rfl,rfl⟩)) ?_);apply jjT;exact rfl;rintro w' hq;have:=hq.toStep;refine jG rfl rfl rfl (by omega) (jz ?_);exact ⟨rfl,rfl⟩;apply jjT;exact rfl;rintro w' hq;have:=hq.toStep;refine jQ rfl rfl (jz ?_);exact ⟨rfl,rfl⟩;refine jjU ?_))))
 by_cases hkj:xs[k]=ys[k]
 ·refine jjV [8] (by decide +kernel) hE2 (jjT (v:=.bool false) rfl (fun w' q1=>?_) (jjU ?_));(refine Ops.neqS (a:=xs[k]) (b:=ys[k]) rfl rfl ?_;rw [decide_eq_false (by simp [hkj])];refine jz ?_;exact ⟨rfl,rfl⟩)
  refine jjX (by decide +kernel) hE2 ?_
  (refine jjK rfl (jjG (jjC (jI (eI rfl) (jY rfl rfl (by omega) (jJ (eI rfl) ?_)))));refine jz ?_)
  refine ⟨rfl,by (((iterate 17 refine Same.upd rfl ?_);exact Same.ovN)),xs.length-(k+1),by omega,inferInstance,k+1,congrArg (Value.int .i64) (by omega),rfl,by omega,fun j hj hjk=>?_⟩
  by_cases e:j=k
  ·subst e;exact hkj
  ·exact hpre j hj (by omega)
 ·refine jjV [8] (by decide +kernel) hE2 (jjT (v:=.bool true) rfl (fun w' q1=>?_) (jjU ?_));(refine Ops.neqS (a:=xs[k]) (b:=ys[k]) rfl rfl ?_;rw [decide_eq_true hkj];refine jz ?_;exact ⟨rfl,rfl⟩)
  refine jjX (by decide +kernel) hE2 ?_
  (refine jjJ rfl (jjB (jjC (jJ (eB rfl) (jz (jjF ?_)))));refine jB rfl rfl ⟨inferInstance,?_⟩)
  rw [decide_eq_false (fun e=>hkj (by simp only [e]))];exact rfl

def greatR (rs:List Rd):Bool:=decide (30<rs.length) || rs.any fun r=>decide (40<r.2.2.size)
theorem small_of_greatR {rs:List Rd} (h:greatR rs=false) (hb:∀ r∈rs,0≤r.2.1∧r.2.1≤255):SmallR rs:=by
 simp only [greatR,Bool.or_eq_false_iff,decide_eq_false_iff_not,List.any_eq_false,decide_eq_true_eq] at h
 exact ⟨by omega,fun r hr=>by have:=h.2 r hr;omega,hb⟩


theorem tq_valid:textB tqT=true:=by kernel_rfl
theorem tq_small {cs:List Ch} (h:txF cs=tqT):SmallT cs:=small_of_great (by rw [h];kernel_rfl)
section
variable (a:Option Addr) (c:Nat) (b:Option Addr) (d:Nat) (ls:List Ln) (w:World) [hrow:RowI w (.slice a ([(3,b,d,ls)]:List Ch).length c) true 2 (([(3,b,d,ls)]:List Ch).map encCh)] [hg:At w 3 0 checksC]
include hrow in
theorem check1_chart (hl:ls.length=2) (b2:Nat) [h2:At w b2 0 [.slice a 1 c]]:Ct Tryz.prog 144 [encSt tqS,.pointer (some ⟨b2,0,none⟩)] w fun v _=>v=.bool false:=by
 refine Ct.ofW (by simp) ?_
 (refine jjB (jjC ?_))
 (refine jy rfl ?_;intro b3 w_b3 hb_b3 hs_b3 hS_b3 hk_b3;have hA_b3:=At.ofBlock hk_b3)
 have A3:At w_b3 b3 0 [.int .i64 0,.int .i64 1,.int .i64 2,.int .i64 4,.int .i64 7]:=At.ofBlock hk_b3
 (refine jJ (eB rfl) (jz (jjB (jjC (jO rfl rfl rfl rfl (jO rfl rfl rfl rfl ?_))))))
 refine jjQ (right_chart a c b d ls _ hl) rfl rfl ?_
 rintro _ w4 hS4 rfl
 (refine jp rfl (jJ (eB rfl) (jz (jjF ?_)));refine jB rfl rfl ⟨inferInstance,?_⟩)
 exact rfl
include hrow hg in
theorem picked_chart (hl:ls.length=2) (b2:Nat) [h2:At w b2 0 [.slice a 1 c]] (ea:Option Addr) (ec:Nat) [hE:RowI w (.slice ea 1 ec) true 5 ([tqS].map encSt)]:Ct Tryz.prog 143 [.slice ea 1 ec,.func (.func 144) #[] #[.pointer (some ⟨b2,0,none⟩)]] w fun v _=>v=.slice none 0 0:=by
 refine Ct.ofW (by simp) ?_
 (refine jjB (jjC (jJ (eS rfl) (jz (jjB (jjC ?_)))));refine jJ (eS rfl) (jz (jjB (jjB (jjC (jI (eS rfl) ?_)))));refine jh rfl (jI (eI rfl) (jz (jjD ?_))))
 refine W.keep0 [(1,.func (.func 144) #[] #[.pointer (some ⟨b2,0,none⟩)]),(5,.slice none 0 0),(8,.slice ea 1 ec),(9,.int .i64 1),(10,.int .i64 ((0:Nat):Int))] ⟨eF rfl,eS rfl,eS rfl,eI rfl,eI rfl,trivial⟩ fun s0=>?_
 refine W.loop (11::12::13::7::14::15::16::17::18::19::20::5::21::10::[]) (fun g s' V=>∃ k:Nat,s' 10=.int .i64 ((k:Nat):Int)∧s' 5=.slice none 0 0∧g=1-k∧k≤1) 1 ⟨0,rfl,rfl,rfl,Nat.zero_le _⟩ ?_
 rintro _ sd V hSV ⟨k,h10,h5,rfl,hk⟩
 refine W.fix h10 (W.fix (d:=5) h5 ?_)
 clear h10 h5
 by_cases hk1:k<1
 rotate_left
 ·(refine jjB (jjC (jja rfl rfl (by omega) (jz (jjB (jjK rfl ?_)))));refine jjE (jjB (jjC (jI (eS rfl) (jJ (eS rfl) (jz ?_)))));refine jjF ?_;refine jB rfl rfl ⟨inferInstance,?_⟩)
  exact rfl
 obtain rfl:k=0:=by omega
 have e0:(([tqS].map encSt))[0]?=some (encSt tqS):=rfl
 (refine jjB (jjC (jjZ rfl rfl (by omega) (jz (jjB (jjJ rfl ?_)))));refine jjG (jjB (jjD (jjB (jjC ?_))));refine jF rfl rfl rfl (map_get (by omega)) ?_;intro _ _ _;refine jQ rfl rfl ?_)
 (apply jjR rfl;(intro _;first|exact eI rfl|exact eB rfl|exact eP rfl|exact eS rfl|exact eT rfl|exact eA rfl|exact eU rfl|exact eF rfl|exact eM rfl|exact eN rfl|exact rfl);exact rfl;exact rfl;exact rfl;exact rfl;intro b7 w_b7 hb_b7 hs_b7 hS_b7 hk_b7;have hA_b7:=Bk.of hk_b7)
 have A7:At w_b7 b7 0 [.int .i64 0,.int .i64 1,.int .i64 2,.int .i64 4,.int .i64 7]:=Bk.toAt (h:=hA_b7)
 (refine jz (jjB (jjC (jI (eF rfl) (jO rfl rfl rfl rfl ?_)))))
 refine jjQ (check1_chart a c b d ls _ hl b2) rfl rfl ?_
 rintro _ w4 hS4 rfl
 (refine jz (jjK rfl (jjG (jjC (jY rfl rfl (by omega) (jI (eI rfl) ?_)))));refine jz ?_)
 exact ⟨rfl,by (((iterate 11 refine Same.upd rfl ?_);exact Same.ovN)),1-1,by omega,inferInstance,1,rfl,rfl,rfl,by omega⟩
include hrow hg in
set_option maxHeartbeats 1000000 in
theorem Check_chart [hT:TextI w [(3,b,d,ls)]] (h:txF [(3,b,d,ls)]=tqT) (hl:ls.length=2) (ea:Option Addr) (ec:Nat) [hE:RowI w (.slice ea 1 ec) true 5 ([tqS].map encSt)]:Ct Tryz.prog 133 [.agg #[.slice a 1 c],.agg #[.int .i64 1,.slice ea 1 ec]] w fun v _=>v=.int .i64 0:=by
 refine Ct.ofW (by simp) ?_
 (refine jjB (jjC ?_))
 (refine jy rfl ?_;intro b2 w_b2 hb_b2 hs_b2 hS_b2 hk_b2;have hA_b2:=At.ofBlock hk_b2)
 skip
 (refine jy rfl ?_;intro b3 w_b3 hb_b3 hs_b3 hS_b3 hk_b3;have hA_b3:=At.ofBlock hk_b3)
 have A2:At w_b3 b2 0 [.slice a 1 c]:=(At.ofBlock hk_b2).ext hS_b3.ext
 have A3:At w_b3 b3 0 [.int .i64 1,.slice ea 1 ec]:=At.ofBlock hk_b3
 (refine jJ (eI rfl) (jz (jjB (jjB (jjC (jO rfl rfl rfl rfl ?_))))))
 refine jjQ ((Check_leaf a c [(3,b,d,ls)] _ (tq_small h)).mono fun v _ _ e=>e.trans (by rw [h,tq_valid])) rfl rfl ?_
 rintro _ w4 hS4 rfl
 (refine jJ (eI rfl) (jz (jjB (jjC (jI (eI rfl) (jc rfl rfl ?_)))));refine jz (jjK rfl (jjG (jjB (jjC (jm ?_)))));refine jn rfl (jN rfl rfl rfl (jv ?_)))
 refine jjQ (picked_chart a c b d ls _ hl b2 ea ec) rfl rfl ?_
 rintro _ w5 hS5 rfl
 (refine jJ (eS rfl) (jz (jjB (jjB (jjC (jm ?_)))));refine jn rfl (jN rfl rfl rfl ?_))
 (refine jjP (v:=.int _ _) rfl (by exact rfl) (by exact rfl) (by exact rfl) (by exact rfl) ?_;intro b18 w_b18 hb_b18 hs_b18 hS_b18 hk_b18;have hR_b18:=RowV.one (agg:=false) (k:=1) rfl hk_b18)
 skip
 refine jjQ (inOne_chart 0 9999 1 b18 _ (by omega) hR_b18) rfl rfl ?_
 rintro _ w6 hS6 rfl
 (refine jp rfl (jI (eB rfl) (jT rfl rfl rfl (jm (jn rfl (jT rfl rfl rfl ?_)))));refine jN rfl rfl rfl (jT rfl rfl rfl (jh rfl (jT rfl rfl rfl (jje rfl rfl (by omega) (jL rfl (eB rfl) ?_)))));refine jI (eB rfl) (jT rfl rfl rfl (jI (eS rfl) (jT rfl rfl rfl (jh rfl (jT rfl rfl rfl ?_)))));refine jje rfl rfl (by omega) (jL rfl (eB rfl) (jz (jjK rfl (jjG (jjB ?_)))));refine jjC (jJ (eI rfl) (jz (jjF ?_)));refine jB rfl rfl ⟨inferInstance,?_⟩)
 exact rfl
end
end Go.Proofs.YtbafmbpmiiplkaaGreatDoor
