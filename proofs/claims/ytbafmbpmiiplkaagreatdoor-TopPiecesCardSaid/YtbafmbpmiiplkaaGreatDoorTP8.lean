/- Texts of the proof, part 8: Rf7, RefI, Rf8, Eng46, Eng30, LawTp. -/
import Derived.Laws.Small
import Derived.Test.YtbafmbpmiiplkaaGreatDoorTP7
namespace Go.Proofs.YtbafmbpmiiplkaaGreatDoor
open Go.RowKit

section
variable (a:Option Addr) (c:Nat) (cs:List Ch) (ha:Option Addr) (hc:Nat) (hs:List Hp) (sa:Option Addr) (sc:Nat) (ss:List Shr) (xa:Option Addr) (xc:Nat) (xs:List Sht) (w:World)
 [hrow:RowI w (.slice a cs.length c) true 2 (cs.map encCh)] [hT:TextI w cs] [hhs:RowI w (.slice ha hs.length hc) true 3 (hs.map encHp)] [hss:RowI w (.slice sa ss.length sc) true 4 (ss.map encShr)] [hxs:RowI w (.slice xa xs.length xc) true 2 (xs.map encSht)] [hxi:ShtI w xs]
theorem inB_iff {lo hi n:Int}:inB lo hi n=true↔lo≤n∧n≤hi:=by simp [inB]
structure UpTo (nl:Nat) (hs:List Hp) (ss:List Shr) (xs:List Sht) (i:Nat):Prop where
 sp:∀ j (h:j<ss.length),j<i→0≤ss[j].1∧ss[j].1≤ss[j].2.1∧ss[j].2.1<(nl:Int)∧0≤ss[j].2.2.1∧ss[j].2.2.1<(hs.length:Int)∧0≤ss[j].2.2.2∧ss[j].2.2.2≤400
 so:∀ j (h:j<ss.length) (_:0<j),j<i→(ss[j-1]'(by omega)).1<ss[j].1∧(ss[j-1]'(by omega)).2.1<ss[j].2.1
 so2:∀ j (h:j<ss.length) (_:1<j),j<i→(ss[j-2]'(by omega)).2.1<ss[j].1
 sh:∀ j (h:j<xs.length),j<i→xs[j].2.2.2.length≤30∧(xs[j].1=true∨xs[j].2.2.2.length=0)∧∀ n (hn:n<xs[j].2.2.2.length),lineB xs[j].2.2.2[n].2.2=true
set_option maxRecDepth 10000 in
set_option maxHeartbeats 40000000 in
theorem Round_ref5 (hsm:SmallT cs) (hX:SmallX hs ss xs):Ct Tryz.prog 21 [.agg #[.slice a cs.length c,.slice ha hs.length hc,.slice sa ss.length sc,.slice xa xs.length xc]] w fun v _=>∃ b,v=.bool b∧(b=true→RoundOk (lnK cs cs.length).length hs ss xs):=by
 have hl8:=hX.h
 have hl12:=hX.s
 have hx12:=hX.x
 have hln:=lnK_small cs hsm cs.length (Nat.le_refl _)
 have hcs:=hsm.1
 obtain ⟨nl,hnl⟩:∃ nl,(lnK cs cs.length).length=nl:=⟨_,rfl⟩
 rw [hnl] at hln ⊢
 refine Ct.ofW (by simp) ?_
 (refine jjB (jjC ?_))
 (refine jy rfl ?_;intro b1 w_b1 hb_b1 hs_b1 hS_b1 hk_b1;have hA_b1:=At.ofBlock hk_b1)
 have A1:At w_b1 b1 0 [.slice a cs.length c,.slice ha hs.length hc,.slice sa ss.length sc,.slice xa xs.length xc]:=At.ofBlock hk_b1
 obtain ⟨B0,hB0⟩:∃ B,inB 1 4 (hs.length:Int)=B:=⟨_,rfl⟩
 (refine jJ (eB rfl) (jz (jjB (jjB (jjC (jm ?_)))));refine jn rfl (jN rfl rfl rfl (jh rfl ?_)))
 refine jjQ ((within_postilref05 (hs.length:Int) 1 4 _).mono fun v _ _ h=>h.trans (by rw [hB0])) rfl rfl ?_
 rintro _ w2 hS2 rfl
 cases B0 with
 | false =>
   (refine jq rfl (jI (eB rfl) (jU rfl rfl rfl rfl (jU rfl rfl rfl rfl (jU rfl rfl rfl rfl (jU rfl rfl rfl rfl ?_)))));refine jK rfl (eB rfl) (jI (eB rfl) (jU rfl rfl rfl rfl (jU rfl rfl rfl rfl (jU rfl rfl rfl rfl (jU rfl rfl rfl rfl ?_)))));refine jU rfl rfl rfl rfl (jU rfl rfl rfl rfl (jU rfl rfl rfl rfl (jK rfl (eB rfl) (jz (jjJ rfl ?_)))));refine jjB (jjC (jJ (eB rfl) (jz (jjF ?_))));refine jB rfl rfl ⟨inferInstance,?_⟩)
   exact ⟨_,rfl,fun h=>by cases h⟩
 | true =>
 rw [inB_iff] at hB0
 by_cases h8:8<ss.length
 ·(refine jp rfl (jI (eB rfl) (jT rfl rfl rfl (jm (jn rfl (jT rfl rfl rfl ?_)))));refine jN rfl rfl rfl (jT rfl rfl rfl (jh rfl (jT rfl rfl rfl (jjd rfl rfl (by omega) (jL rfl (eB rfl) ?_)))));refine jI (eB rfl) (jU rfl rfl rfl rfl (jU rfl rfl rfl rfl (jU rfl rfl rfl rfl (jU rfl rfl rfl rfl (jU rfl rfl rfl rfl ?_)))));refine jU rfl rfl rfl rfl (jU rfl rfl rfl rfl (jK rfl (eB rfl) (jz (jjJ rfl (jjB ?_)))));refine jjC (jJ (eB rfl) (jz (jjF ?_)));refine jB rfl rfl ⟨inferInstance,?_⟩)
  exact ⟨_,rfl,fun h=>by cases h⟩
 by_cases hx:xs.length=ss.length
 rotate_left
 ·(refine jp rfl (jI (eB rfl) (jT rfl rfl rfl (jm (jn rfl (jT rfl rfl rfl ?_)))));refine jN rfl rfl rfl (jT rfl rfl rfl (jh rfl (jT rfl rfl rfl (jje rfl rfl (by omega) (jL rfl (eB rfl) ?_)))));refine jI (eB rfl) (jT rfl rfl rfl (jm (jn rfl (jT rfl rfl rfl (jN rfl rfl rfl ?_)))));refine jT rfl rfl rfl (jh rfl (jT rfl rfl rfl (jm (jn rfl (jT rfl rfl rfl ?_)))));refine jN rfl rfl rfl (jT rfl rfl rfl (jh rfl (jT rfl rfl rfl (jjj rfl rfl (by omega) (jL rfl (eB rfl) ?_)))));refine jz (jjJ rfl (jjB (jjC (jJ (eB rfl) (jz ?_)))));refine jjF ?_;refine jB rfl rfl ⟨inferInstance,?_⟩)
  exact ⟨_,rfl,fun h=>by cases h⟩
 (refine jp rfl (jI (eB rfl) (jT rfl rfl rfl (jm (jn rfl (jT rfl rfl rfl ?_)))));refine jN rfl rfl rfl (jT rfl rfl rfl (jh rfl (jT rfl rfl rfl (jje rfl rfl (by omega) (jL rfl (eB rfl) ?_)))));refine jI (eB rfl) (jT rfl rfl rfl (jm (jn rfl (jT rfl rfl rfl (jN rfl rfl rfl ?_)))));refine jT rfl rfl rfl (jh rfl (jT rfl rfl rfl (jm (jn rfl (jT rfl rfl rfl ?_)))));refine jN rfl rfl rfl (jT rfl rfl rfl (jh rfl (jT rfl rfl rfl (jjk rfl rfl (by omega) (jL rfl (eB rfl) ?_)))));refine jz (jjK rfl (jjG (jjB (jjB (jjC ?_)))));refine jJ (eI rfl) (jz (jjD ?_)))
 refine W.keep0 [(1,.pointer (some ⟨b1,0,none⟩)),(3,.int .i64 ((0:Nat):Int))] ⟨eP rfl,eI rfl,trivial⟩ fun s0=>?_
 refine W.loop (32::33::34::35::36::39::40::41::42::43::4::44::45::46::47::48::49::50::51::52::53::54::55::56::57::58::59::2::5::60::61::62::65::66::67::68::69::70::71::72::73::63::64::37::38::3::[]) (fun g s' V=>∃ k:Nat,s' 3=.int .i64 ((k:Nat):Int)∧g=hs.length-k∧k≤hs.length∧(∀ i (h:i<hs.length),i<k→0≤hs[i].1∧hs[i].1≤9999∧0≤hs[i].2.1∧hs[i].2.1≤30∧1≤hs[i].2.2∧hs[i].2.2≤20)∧∀ i (h:i<hs.length) j (hj:j<i),i<k→(hs[j]'(by omega)).1≠hs[i].1) hs.length ⟨0,rfl,rfl,Nat.zero_le _,by intros;omega,by intros;omega⟩ ?_
 rintro _ sd w3 hS3 ⟨k,h3,rfl,hk,hpre,hid⟩
 refine W.fix h3 ?_
 clear h3
 by_cases hk1:k<hs.length
 ·have gh:(hs.map encHp)[k]?=some (encHp hs[k]):=by rw [List.getElem?_map,List.getElem?_eq_getElem hk1];rfl
  obtain ⟨B1,hB1⟩:∃ B,inB 0 9999 hs[k].1=B:=⟨_,rfl⟩
  obtain ⟨B2,hB2⟩:∃ B,inB 0 30 hs[k].2.1=B:=⟨_,rfl⟩
  obtain ⟨B3,hB3⟩:∃ B,inB 1 20 hs[k].2.2=B:=⟨_,rfl⟩
  (refine jjB (jjB (jjC (jI (eI rfl) (jm (jn rfl ?_)))));refine jN rfl rfl rfl (jh rfl (jjZ rfl rfl (by omega) (jz (jjJ rfl (jjG ?_)))));refine jjB (jjD (jjB (jjC (jm (jn rfl ?_)))));refine jN rfl rfl rfl (jI (eI rfl) ?_);refine jF rfl rfl rfl (map_get (by omega)) ?_;intro _ _ _;refine jQ rfl rfl ?_)
  (apply jjR rfl;(intro _;first|exact eI rfl|exact eB rfl|exact eP rfl|exact eS rfl|exact eT rfl|exact eA rfl|exact eU rfl|exact eF rfl|exact eM rfl|exact eN rfl|exact rfl);exact rfl;exact rfl;exact rfl;exact rfl;intro b4 w_b4 hb_b4 hs_b4 hS_b4 hk_b4;have hA_b4:=Bk.of hk_b4)
  have A4:At w_b4 b4 0 [.int .i64 hs[k].1,.int .i64 hs[k].2.1,.int .i64 hs[k].2.2]:=Bk.toAt (h:=hA_b4)
  (refine jz (jjB (jjB (jjC (jm (jn rfl ?_)))));refine jN rfl rfl rfl ?_)
  refine jjQ ((within_postilref05 hs[k].1 0 9999 _).mono fun v _ _ h=>h.trans (by rw [hB1])) rfl rfl ?_
  rintro _ w4 hS4 rfl
  cases B1 with
  | false =>
    (refine jq rfl (jI (eB rfl) (jU rfl rfl rfl rfl (jU rfl rfl rfl rfl (jU rfl rfl rfl rfl (jU rfl rfl rfl rfl ?_)))));refine jK rfl (eB rfl) (jI (eB rfl) (jU rfl rfl rfl rfl (jU rfl rfl rfl rfl (jU rfl rfl rfl rfl (jU rfl rfl rfl rfl ?_)))));refine jK rfl (eB rfl) (jz (jjJ rfl (jjB (jjC (jJ (eB rfl) ?_)))));refine jz (jjF ?_);refine jB rfl rfl ⟨inferInstance,?_⟩)
    exact ⟨_,rfl,fun h=>by cases h⟩
  | true =>
  (refine jp rfl (jI (eB rfl) (jT rfl rfl rfl (jm (jn rfl (jT rfl rfl rfl ?_)))));refine jN rfl rfl rfl (jT rfl rfl rfl ?_))
  refine jjQ ((within_postilref05 hs[k].2.1 0 30 _).mono fun v _ _ h=>h.trans (by rw [hB2])) rfl rfl ?_
  rintro _ w5 hS5 rfl
  cases B2 with
  | false =>
    (refine jT rfl rfl rfl (jq rfl (jL rfl (eB rfl) (jI (eB rfl) (jU rfl rfl rfl rfl (jU rfl rfl rfl rfl ?_)))));refine jU rfl rfl rfl rfl (jU rfl rfl rfl rfl (jK rfl (eB rfl) (jz (jjJ rfl (jjB ?_)))));refine jjC (jJ (eB rfl) (jz (jjF ?_)));refine jB rfl rfl ⟨inferInstance,?_⟩)
    exact ⟨_,rfl,fun h=>by cases h⟩
  | true =>
  (refine jT rfl rfl rfl (jp rfl (jL rfl (eB rfl) (jI (eB rfl) (jT rfl rfl rfl (jm ?_)))));refine jn rfl (jT rfl rfl rfl (jN rfl rfl rfl (jT rfl rfl rfl ?_))))
  refine jjQ ((within_postilref05 hs[k].2.2 1 20 _).mono fun v _ _ h=>h.trans (by rw [hB3])) rfl rfl ?_
  rintro _ w6 hS6 rfl
  cases B3 with
  | false =>
    (refine jT rfl rfl rfl (jq rfl (jL rfl (eB rfl) (jz (jjJ rfl (jjB ?_)))));refine jjC (jJ (eB rfl) (jz (jjF ?_)));refine jB rfl rfl ⟨inferInstance,?_⟩)
    exact ⟨_,rfl,fun h=>by cases h⟩
  | true =>
  rw [inB_iff] at hB1 hB2 hB3
  (refine jT rfl rfl rfl (jp rfl (jL rfl (eB rfl) (jz (jjK rfl (jjG ?_)))));refine jjB (jjC (jJ (eI rfl) (jz (jjD ?_)))))
  refine W.keep [(1,.pointer (some ⟨b1,0,none⟩)),(3,.int .i64 ((k:Nat):Int)),(4,.pointer (some ⟨b4,0,none⟩)),(5,.int .i64 ((0:Nat):Int))] (D:=(32::33::34::35::36::39::40::41::42::43::4::44::45::46::47::48::49::50::51::52::53::54::55::56::57::58::59::2::5::60::61::62::65::66::67::68::69::70::71::72::73::63::64::37::38::3::[])) (sO:=upds s0 _) (by (((iterate 29 refine Same.upd rfl ?_);exact Same.ovN))) ⟨eP rfl,eI rfl,eP rfl,eI rfl,trivial⟩ fun s1 hs1=>?_
  refine W.loop (60::61::62::65::66::67::68::69::70::71::72::73::2::63::64::5::[]) (fun g s' V=>∃ j:Nat,s' 5=.int .i64 ((j:Nat):Int)∧g=k-j∧j≤k∧∀ i (h:i<hs.length),i<j→hs[i].1≠hs[k].1) k ⟨0,rfl,rfl,Nat.zero_le _,by intros;omega⟩ ?_
  rintro _ sd2 w7 hS7 ⟨j,h5,rfl,hj,hne⟩
  refine W.fix h5 ?_
  clear h5
  by_cases hj1:j<k
  rotate_left
  ·(refine jjB (jjB (jjC (jI (eI rfl) (jI (eI rfl) (jja rfl rfl (by omega) ?_)))));refine jz (jjK rfl (jjE (jjC (jI (eI rfl) (jY rfl rfl (by omega) ?_)))));refine jJ (eI rfl) (jz ?_))
   refine ⟨rfl,by (((iterate 7 refine Same.upd rfl ?_);refine Same.ovN' rfl ?_;assumption)),hs.length-(k+1),by omega,inferInstance,k+1,congrArg (Value.int .i64) (by omega),rfl,by omega,fun i h hik=>?_,fun i h q hq hik=>?_⟩
   ·by_cases e:i=k
    ·subst e;omega
    ·exact hpre i h (by omega)
   ·by_cases e:i=k
    ·subst e;exact hne q (by omega) (by omega)
    ·exact hid i h q hq (by omega)
  have hjh:j<hs.length:=by omega
  have i7:RowI w7 (.slice ha hs.length hc) true 3 (hs.map encHp):=inferInstance
  have gj:(hs.map encHp)[j]?=some (encHp hs[j]):=by rw [List.getElem?_map,List.getElem?_eq_getElem hjh];rfl
  obtain ⟨pb,po,rfl,-⟩:=i7.h.place' gj
  have AJ:∀ V,Ext w7 V→At V pb (po+j * 3) [.int .i64 hs[j].1,.int .i64 hs[j].2.1,.int .i64 hs[j].2.2]:=fun V hE=>place_k (i7.h.ext hE) gj
  (refine jjB (jjB (jjC (jI (eI rfl) (jI (eI rfl) (jjZ rfl rfl (by omega) ?_)))));refine jz (jjJ rfl (jjG (jjB (jjD (jjB ?_))))))
  refine W.draw (fun w'=>Ext w7 w') ?_
  intro w8 hS8
  refine jjV [0,1,2] (by decide +kernel) hS8.ext ?_
  (((apply jjT;exact rfl;rintro w' hq;have:=hq.toStep;refine jm (jn rfl (jz ?_));exact ⟨rfl,rfl⟩;apply jjT;exact rfl;rintro w' hq;have:=hq.toStep;refine jN rfl rfl rfl (jz ?_);exact ⟨rfl,rfl⟩;refine jjT rfl (fun _ _=>jI (eI rfl) (jz ⟨rfl,rfl⟩)) (jjU ?_))))
  refine jjV [3] (by decide +kernel) hS8.ext (jjT (v:=.pointer (some ⟨pb,po+j * 3,none⟩)) rfl (fun w' q1=>?_) (jjU ?_));(refine jH j rfl rfl rfl (by omega) ?_;refine jz ?_;exact ⟨rfl,rfl⟩)
  refine jjV [4] (by decide +kernel) hS8.ext ?_
  (((apply jjT;exact rfl;rintro w' hq;refine jm (jn rfl (jz ?_));exact ⟨rfl,rfl⟩;refine jjU ?_)))
  refine jjV [5] (by decide +kernel) hS8.ext (jjT (v:=.int .i64 hs[j].1) rfl (fun w' q1=>?_) (jjU ?_));(refine jR ((AJ _ q1).get (i:=0) rfl) rfl rfl ?_;refine jz ?_;exact ⟨rfl,rfl⟩)
  refine jjV [6,7] (by decide +kernel) hS8.ext ?_
  (((apply jjT;exact rfl;rintro w' hq;have:=hq.toStep;refine jm (jn rfl (jz ?_));exact ⟨rfl,rfl⟩;apply jjT;exact rfl;rintro w' hq;have:=hq.toStep;refine jN rfl rfl rfl (jz ?_);exact ⟨rfl,rfl⟩;refine jjU ?_)))
  by_cases he:hs[j].1=hs[k].1
  ·refine jjV [8] (by decide +kernel) hS8.ext (jjT (v:=.bool true) rfl (fun w' q1=>?_) (jjU ?_));(refine jb rfl rfl ?_;rw [decide_eq_true he];refine jz ?_;exact ⟨rfl,rfl⟩)
   refine jjX (by decide +kernel) hS8.ext ?_
   (refine jjJ rfl (jjB (jjC (jJ (eB rfl) (jz (jjF ?_)))));refine jB rfl rfl ⟨inferInstance,?_⟩)
   exact ⟨_,rfl,fun h=>by cases h⟩
  ·refine jjV [8] (by decide +kernel) hS8.ext (jjT (v:=.bool false) rfl (fun w' q1=>?_) (jjU ?_));(refine jb rfl rfl ?_;rw [decide_eq_false he];refine jz ?_;exact ⟨rfl,rfl⟩)
   refine jjX (by decide +kernel) hS8.ext ?_
   (refine jjK rfl (jjG (jjC (jI (eI rfl) (jY rfl rfl (by omega) (jJ (eI rfl) ?_)))));refine jz ?_)
   refine ⟨rfl,by (((iterate 16 refine Same.upd rfl ?_);exact Same.ovN)),k-(j+1),by omega,inferInstance,j+1,congrArg (Value.int .i64) (by omega),rfl,by omega,fun i h hij=>?_⟩
   by_cases e:i=j
   ·subst e;exact he
   ·exact hne i h (by omega)
 have hPre:=fun i h=>hpre i h (by omega)
 have hId:=fun i h j hj=>hid i h j hj (by omega)
 clear hpre hid
 (refine jjB (jjB (jjC (jI (eI rfl) (jm (jn rfl ?_)))));refine jN rfl rfl rfl (jh rfl (jja rfl rfl (by omega) (jz (jjK rfl (jjE ?_)))));refine jjB (jjC (jm (jn rfl (jO rfl rfl rfl rfl ?_)))))
 refine jjQ (Lines_ref5 a c cs _ hsm) rfl rfl ?_
 rintro _ w4 hS4 ⟨la,lc,rfl⟩
 rw [hnl]
 (refine jh rfl (jJ (eI rfl) (jz (jjB (jjB (jjC ?_)))));refine jJ (eI rfl) (jz (jjD ?_)))
 refine W.keep0 [(1,.pointer (some ⟨b1,0,none⟩)),(6,.int .i64 (nl:Int)),(7,.int .i64 ((0:Nat):Int))] ⟨eP rfl,eI rfl,eI rfl,trivial⟩ fun s1=>?_
 refine W.loop (78::79::80::81::82::85::86::87::88::89::8::90::91::92::93::94::95::96::97::98::99::100::101::102::103::104::105::106::107::108::109::110::111::112::113::114::115::116::117::2::118::119::120::121::122::123::124::125::126::127::128::129::130::131::132::133::134::135::136::137::138::139::140::141::142::143::144::145::146::147::148::149::150::151::152::153::154::155::156::157::158::159::160::161::162::163::164::9::165::166::167::168::169::170::171::172::173::174::175::176::177::178::179::10::180::181::182::183::184::187::188::189::190::191::192::193::194::11::195::196::197::198::199::200::201::202::205::206::207::208::209::210::211::212::213::214::203::204::185::186::83::84::7::[]) (fun g s' V=>∃ i:Nat,s' 7=.int .i64 ((i:Nat):Int)∧g=ss.length-i∧i≤ss.length∧UpTo nl hs ss xs i) ss.length ⟨0,rfl,rfl,Nat.zero_le _,⟨by intros;omega,by intros;omega,by intros;omega,by intros;omega⟩⟩ ?_
 rintro _ sd2 w5 hS5 ⟨i,h7,rfl,hi,hU⟩
 refine W.fix h7 ?_
 clear h7
 by_cases hi1:i<ss.length
 rotate_left
 ·(refine jjB (jjB (jjC (jI (eI rfl) (jm (jn rfl ?_)))));refine jN rfl rfl rfl (jh rfl (jja rfl rfl (by omega) (jz (jjK rfl (jjE ?_)))));refine jjB (jjC (jJ (eB rfl) (jz (jjF ?_))));refine jB rfl rfl ⟨inferInstance,?_⟩)
  refine ⟨_,rfl,fun _=>⟨by omega,by omega,by omega,hx,hPre,hId,fun j h=>hU.sp j h (by omega),fun j h h0=>hU.so j h h0 (by omega),fun j h h0=>hU.so2 j h h0 (by omega),fun j h=>hU.sh j h (by omega)⟩⟩
 obtain ⟨B4,hB4⟩:∃ B,inB 0 ss[i].2.1 ss[i].1=B:=⟨_,rfl⟩
 obtain ⟨B5,hB5⟩:∃ B,inB 0 ((hs.length:Int)-1) ss[i].2.2.1=B:=⟨_,rfl⟩
 obtain ⟨B6,hB6⟩:∃ B,inB 0 400 ss[i].2.2.2=B:=⟨_,rfl⟩
 (refine jjB (jjB (jjC (jI (eI rfl) (jm (jn rfl ?_)))));refine jN rfl rfl rfl (jh rfl (jjZ rfl rfl (by omega) (jz (jjJ rfl (jjG ?_)))));refine jjB (jjD (jjB (jjC (jm (jn rfl ?_)))));refine jN rfl rfl rfl (jI (eI rfl) ?_);refine jF rfl rfl rfl (map_get (by omega)) ?_;intro _ _ _;refine jQ rfl rfl ?_)
 (apply jjR rfl;(intro _;first|exact eI rfl|exact eB rfl|exact eP rfl|exact eS rfl|exact eT rfl|exact eA rfl|exact eU rfl|exact eF rfl|exact eM rfl|exact eN rfl|exact rfl);exact rfl;exact rfl;exact rfl;exact rfl;intro b8 w_b8 hb_b8 hs_b8 hS_b8 hk_b8;have hA_b8:=Bk.of hk_b8)
 have A8:At w_b8 b8 0 [.int .i64 ss[i].1,.int .i64 ss[i].2.1,.int .i64 ss[i].2.2.1,.int .i64 ss[i].2.2.2]:=Bk.toAt (h:=hA_b8)
 (refine jz (jjB (jjB (jjC (jm (jn rfl ?_)))));refine jN rfl rfl rfl (jm (jn rfl (jN rfl rfl rfl ?_))))
 refine jjQ ((within_postilref05 ss[i].1 0 ss[i].2.1 _).mono fun v _ _ h=>h.trans (by rw [hB4])) rfl rfl ?_
 rintro _ w6 hS6 rfl
 cases B4 with
 | false =>
   (refine jq rfl (jI (eB rfl) (jU rfl rfl rfl rfl (jU rfl rfl rfl rfl (jU rfl rfl rfl rfl (jU rfl rfl rfl rfl ?_)))));refine jK rfl (eB rfl) (jI (eB rfl) (jU rfl rfl rfl rfl (jU rfl rfl rfl rfl (jU rfl rfl rfl rfl (jU rfl rfl rfl rfl ?_)))));refine jU rfl rfl rfl rfl (jU rfl rfl rfl rfl (jU rfl rfl rfl rfl (jU rfl rfl rfl rfl (jK rfl (eB rfl) (jI (eB rfl) ?_)))));refine jU rfl rfl rfl rfl (jU rfl rfl rfl rfl (jU rfl rfl rfl rfl (jU rfl rfl rfl rfl (jK rfl (eB rfl) (jz ?_)))));refine jjJ rfl (jjB (jjC (jJ (eB rfl) (jz (jjF ?_)))));refine jB rfl rfl ⟨inferInstance,?_⟩)
   exact ⟨_,rfl,fun h=>by cases h⟩
 | true =>
 by_cases hge:(nl:Int)≤ss[i].2.1
 ·(refine jp rfl (jI (eB rfl) (jT rfl rfl rfl (jm (jn rfl (jT rfl rfl rfl ?_)))));refine jN rfl rfl rfl (jT rfl rfl rfl (jI (eI rfl) (jT rfl rfl rfl (jjf rfl rfl (by omega) (jL rfl (eB rfl) ?_)))));refine jI (eB rfl) (jU rfl rfl rfl rfl (jU rfl rfl rfl rfl (jU rfl rfl rfl rfl (jU rfl rfl rfl rfl (jU rfl rfl rfl rfl ?_)))));refine jU rfl rfl rfl rfl (jU rfl rfl rfl rfl (jU rfl rfl rfl rfl (jK rfl (eB rfl) (jI (eB rfl) (jU rfl rfl rfl rfl ?_)))));refine jU rfl rfl rfl rfl (jU rfl rfl rfl rfl (jU rfl rfl rfl rfl (jK rfl (eB rfl) (jz (jjJ rfl ?_)))));refine jjB (jjC (jJ (eB rfl) (jz (jjF ?_))));refine jB rfl rfl ⟨inferInstance,?_⟩)
  exact ⟨_,rfl,fun h=>by cases h⟩
 (refine jp rfl (jI (eB rfl) (jT rfl rfl rfl (jm (jn rfl (jT rfl rfl rfl ?_)))));refine jN rfl rfl rfl (jT rfl rfl rfl (jI (eI rfl) (jT rfl rfl rfl (jjg rfl rfl (by omega) (jL rfl (eB rfl) ?_)))));refine jI (eB rfl) (jT rfl rfl rfl (jm (jn rfl (jT rfl rfl rfl (jN rfl rfl rfl ?_)))));refine jT rfl rfl rfl (jm (jn rfl (jT rfl rfl rfl (jN rfl rfl rfl (jT rfl rfl rfl ?_)))));refine jh rfl (jT rfl rfl rfl (jZ rfl rfl (by omega) (jT rfl rfl rfl ?_))))
 refine jjQ ((within_postilref05 ss[i].2.2.1 0 ((hs.length:Int)-1) _).mono fun v _ _ h=>h.trans (by rw [hB5])) rfl rfl ?_
 rintro _ w7 hS7 rfl
 cases B5 with
 | false =>
   (refine jT rfl rfl rfl (jq rfl (jL rfl (eB rfl) (jI (eB rfl) (jU rfl rfl rfl rfl (jU rfl rfl rfl rfl ?_)))));refine jU rfl rfl rfl rfl (jU rfl rfl rfl rfl (jK rfl (eB rfl) (jz (jjJ rfl (jjB ?_)))));refine jjC (jJ (eB rfl) (jz (jjF ?_)));refine jB rfl rfl ⟨inferInstance,?_⟩)
   exact ⟨_,rfl,fun h=>by cases h⟩
 | true =>
 (refine jT rfl rfl rfl (jp rfl (jL rfl (eB rfl) (jI (eB rfl) (jT rfl rfl rfl (jm ?_)))));refine jn rfl (jT rfl rfl rfl (jN rfl rfl rfl (jT rfl rfl rfl ?_))))
 refine jjQ ((within_postilref05 ss[i].2.2.2 0 400 _).mono fun v _ _ h=>h.trans (by rw [hB6])) rfl rfl ?_
 rintro _ w8 hS8 rfl
 cases B6 with
 | false =>
   (refine jT rfl rfl rfl (jq rfl (jL rfl (eB rfl) (jz (jjJ rfl (jjB ?_)))));refine jjC (jJ (eB rfl) (jz (jjF ?_)));refine jB rfl rfl ⟨inferInstance,?_⟩)
   exact ⟨_,rfl,fun h=>by cases h⟩
 | true =>
 rw [inB_iff] at hB4 hB5 hB6
 have gs:∀ k (h:k<ss.length),(ss.map encShr)[k]?=some (encShr ss[k]):=fun k h=>by rw [List.getElem?_map,List.getElem?_eq_getElem h];rfl
 have gs0:=gs i hi1
 have i8:RowI w8 (.slice sa ss.length sc) true 4 (ss.map encShr):=inferInstance
 obtain ⟨sb,so,rfl,-⟩:=i8.h.place' gs0
 have AT:∀ k (h:k<ss.length) V,Ext w8 V→At V sb (so+k * 4) [.int .i64 ss[k].1,.int .i64 ss[k].2.1,.int .i64 ss[k].2.2.1,.int .i64 ss[k].2.2.2]:=fun k h V hE=>place_k (i8.h.ext hE) (gs k h)
 clear gs gs0
 have hcase:(i=0∨∃ j,∃ (hj:j<ss.length),i=j+1∧(ss[i].1≤ss[j].1∨(¬ ss[i].1≤ss[j].1∧ss[i].2.1≤ss[j].2.1)∨(¬ ss[i].1≤ss[j].1∧¬ ss[i].2.1≤ss[j].2.1∧(i=1∨∃ l,∃ (hl:l<ss.length),i=l+2∧(ss[i].1≤ss[l].2.1∨¬ ss[i].1≤ss[l].2.1))))):=by
  by_cases e:i=0
  ·exact .inl e
  refine .inr ⟨i-1,by omega,by omega,?_⟩
  by_cases h1:ss[i].1≤ss[i-1].1
  ·exact .inl h1
  by_cases h2:ss[i].2.1≤ss[i-1].2.1
  ·exact .inr (.inl ⟨h1,h2⟩)
  refine .inr (.inr ⟨h1,h2,?_⟩)
  by_cases e:i=1
  ·exact .inl e
  exact .inr ⟨i-2,by omega,by omega,Classical.em _⟩
 (refine jT rfl rfl rfl (jp rfl (jL rfl (eB rfl) (jz (jjK rfl (jjG ?_)))));refine jjB (jjB ?_))
 apply join_w (78::79::80::81::82::85::86::87::88::89::8::90::91::92::93::94::95::96::97::98::99::100::101::102::103::104::105::106::107::108::109::110::111::112::113::114::115::116::117::2::118::119::120::121::122::123::124::125::126::127::128::129::130::131::132::133::134::135::136::137::138::139::140::141::142::143::144::145::146::147::148::149::150::151::152::153::154::155::156::157::158::159::160::161::162::163::164::9::165::166::167::168::169::170::171::172::173::174::175::176::177::178::179::10::180::181::182::183::184::187::188::189::190::191::192::193::194::11::195::196::197::198::199::200::201::202::205::206::207::208::209::210::211::212::213::214::203::204::185::186::83::84::7::[]) (upds s1 _) (fun _:Unit=>[(1,.pointer (some ⟨b1,0,none⟩)),(6,.int .i64 (nl:Int)),(7,.int .i64 (i:Int)),(8,.pointer (some ⟨b8,0,none⟩)),(159,.bool false)]) (fun _ w'=>(Ext w8 w'∧(∀ (_:0<i),(ss[i-1]'(by omega)).1<ss[i].1∧(ss[i-1]'(by omega)).2.1<ss[i].2.1))∧∀ (_:1<i),(ss[i-2]'(by omega)).2.1<ss[i].1)
 ·intro rest
  refine W.draw (fun w'=>Ext w8 w') ?_
  intro w9 hS9
  have q9:=hS9.ext
  rcases hcase with hi0|⟨j,hj,hij,hB|hC|⟨hn1,hn2,h1|⟨l,hl,hil,hE|hF⟩⟩⟩
  ·refine jjV [0,1,2,3,4,5,6,7,8,9,10,11,12,13,14,15,16,17,18,19,20,21,22,23,24,25,26,27,28,29,30,31,32,33,34,35,36,37,38,39,40,41] (by decide +kernel) q9 ?_
   (((refine jjT rfl (fun _ _=>jI (eI rfl) (jz ⟨rfl,rfl⟩)) (jjT rfl (fun _ _=>jje rfl rfl (by omega) (jz ⟨rfl,rfl⟩)) (jjT rfl (fun _ _=>jI (eB rfl) (jz ⟨rfl,rfl⟩)) (jjT rfl (fun _ _=>jU rfl rfl rfl rfl (jz ⟨rfl,rfl⟩)) (jjT rfl (fun _ _=>jU rfl rfl rfl rfl (jz ⟨rfl,rfl⟩)) (jjT rfl (fun _ _=>jU rfl rfl rfl rfl (jz ⟨rfl,rfl⟩)) ?_)))));refine jjT rfl (fun _ _=>jU rfl rfl rfl rfl (jz ⟨rfl,rfl⟩)) (jjT rfl (fun _ _=>jU rfl rfl rfl rfl (jz ⟨rfl,rfl⟩)) (jjT rfl (fun _ _=>jU rfl rfl rfl rfl (jz ⟨rfl,rfl⟩)) (jjT rfl (fun _ _=>jU rfl rfl rfl rfl (jz ⟨rfl,rfl⟩)) (jjT rfl (fun _ _=>jU rfl rfl rfl rfl (jz ⟨rfl,rfl⟩)) (jjT rfl (fun _ _=>jU rfl rfl rfl rfl (jz ⟨rfl,rfl⟩)) ?_)))));refine jjT rfl (fun _ _=>jU rfl rfl rfl rfl (jz ⟨rfl,rfl⟩)) (jjT rfl (fun _ _=>jU rfl rfl rfl rfl (jz ⟨rfl,rfl⟩)) (jjT rfl (fun _ _=>jV rfl rfl (jz ⟨rfl,rfl⟩)) (jjT rfl (fun _ _=>jV rfl rfl (jz ⟨rfl,rfl⟩)) (jjT rfl (fun _ _=>jV rfl rfl (jz ⟨rfl,rfl⟩)) (jjT rfl (fun _ _=>jV rfl rfl (jz ⟨rfl,rfl⟩)) ?_)))));refine jjT rfl (fun _ _=>jV rfl rfl (jz ⟨rfl,rfl⟩)) (jjT rfl (fun _ _=>jV rfl rfl (jz ⟨rfl,rfl⟩)) (jjT rfl (fun _ _=>jV rfl rfl (jz ⟨rfl,rfl⟩)) (jjT rfl (fun _ _=>jV rfl rfl (jz ⟨rfl,rfl⟩)) (jjT rfl (fun _ _=>jV rfl rfl (jz ⟨rfl,rfl⟩)) (jjT rfl (fun _ _=>jV rfl rfl (jz ⟨rfl,rfl⟩)) ?_)))));refine jjT rfl (fun _ _=>jU rfl rfl rfl rfl (jz ⟨rfl,rfl⟩)) (jjT rfl (fun _ _=>jL rfl (eB rfl) (jz ⟨rfl,rfl⟩)) (jjT rfl (fun _ _=>jI (eB rfl) (jz ⟨rfl,rfl⟩)) (jjT rfl (fun _ _=>jT rfl rfl rfl (jI (eI rfl) (jz ⟨rfl,rfl⟩))) (jjT rfl (fun _ _=>jT rfl rfl rfl (jje rfl rfl (by omega) (jz ⟨rfl,rfl⟩))) (jjT rfl (fun _ _=>jT rfl rfl rfl (jI (eB rfl) (jz ⟨rfl,rfl⟩))) ?_)))));refine jjT rfl (fun _ _=>jU rfl rfl rfl rfl (jz ⟨rfl,rfl⟩)) (jjT rfl (fun _ _=>jU rfl rfl rfl rfl (jz ⟨rfl,rfl⟩)) (jjT rfl (fun _ _=>jU rfl rfl rfl rfl (jz ⟨rfl,rfl⟩)) (jjT rfl (fun _ _=>jU rfl rfl rfl rfl (jz ⟨rfl,rfl⟩)) (jjT rfl (fun _ _=>jU rfl rfl rfl rfl (jz ⟨rfl,rfl⟩)) (jjT rfl (fun _ _=>jU rfl rfl rfl rfl (jz ⟨rfl,rfl⟩)) ?_)))));refine jjT rfl (fun _ _=>jU rfl rfl rfl rfl (jz ⟨rfl,rfl⟩)) (jjT rfl (fun _ _=>jU rfl rfl rfl rfl (jz ⟨rfl,rfl⟩)) (jjT rfl (fun _ _=>jU rfl rfl rfl rfl (jz ⟨rfl,rfl⟩)) (jjT rfl (fun _ _=>jU rfl rfl rfl rfl (jz ⟨rfl,rfl⟩)) (jjT rfl (fun _ _=>jT rfl rfl rfl (jL rfl (eB rfl) (jz ⟨rfl,rfl⟩))) (jjT rfl (fun _ _=>jL rfl (eB rfl) (jz ⟨rfl,rfl⟩)) ?_)))));refine jjU ?_)))
   refine jjX (by decide +kernel) q9 ?_
   refine rest () _ _ ⟨⟨q9,fun h=>by omega⟩,fun h=>by omega⟩ (by (((iterate 82 refine Same.upd rfl ?_);exact Same.ovN))) ?_
   exact ⟨eP rfl,eI rfl,eI rfl,eP rfl,eB rfl,trivial⟩
  ·have ej:(i:Int)-1=(j:Int):=by omega
   refine jjV [0,1,2,3,4,5,6,7] (by decide +kernel) q9 ?_
   (((refine jjT rfl (fun _ _=>jI (eI rfl) (jz ⟨rfl,rfl⟩)) (jjT rfl (fun _ _=>jjd rfl rfl (by omega) (jz ⟨rfl,rfl⟩)) (jjT rfl (fun _ _=>jI (eB rfl) (jz ⟨rfl,rfl⟩)) ?_));apply jjT;exact rfl;rintro w' hq;have:=hq.toStep;refine jT rfl rfl rfl (jm (jn rfl (jz ?_)));exact ⟨rfl,rfl⟩;apply jjT;exact rfl;rintro w' hq;have:=hq.toStep;refine jT rfl rfl rfl (jN rfl rfl rfl (jz ?_));exact ⟨rfl,rfl⟩;apply jjT;exact rfl;rintro w' hq;have:=hq.toStep;refine jT rfl rfl rfl (jm (jn rfl (jz ?_)));exact ⟨rfl,rfl⟩;apply jjT;exact rfl;rintro w' hq;have:=hq.toStep;refine jT rfl rfl rfl (jN rfl rfl rfl (jz ?_));exact ⟨rfl,rfl⟩;refine jjT rfl (fun _ _=>jT rfl rfl rfl (jI (eI rfl) (jz ⟨rfl,rfl⟩))) (jjU ?_))))
   refine jjV [8] (by decide +kernel) q9 (jjT (v:=.int .i64 (j:Int)) rfl (fun w' q1=>?_) (jjU ?_));(refine jT rfl rfl rfl (jZ rfl rfl (by omega) ?_);rw [ej];refine jz ?_;exact ⟨rfl,rfl⟩)
   refine jjV [9] (by decide +kernel) q9 (jjT (v:=.pointer (some ⟨sb,so+j * 4,none⟩)) rfl (fun w' q1=>?_) (jjU ?_));(refine jT rfl rfl rfl ?_;refine jH j rfl rfl rfl (by omega) ?_;refine jz ?_;exact ⟨rfl,rfl⟩)
   refine jjV [10] (by decide +kernel) q9 ?_
   (((apply jjT;exact rfl;rintro w' hq;have:=hq.toStep;refine jT rfl rfl rfl (jm (jn rfl (jz ?_)));exact ⟨rfl,rfl⟩;refine jjU ?_)))
   refine jjV [11] (by decide +kernel) q9 (jjT (v:=.int .i64 ss[j].1) rfl (fun w' q1=>?_) (jjU ?_));(refine jT rfl rfl rfl ?_;refine jR ((AT j hj _ q1).get (i:=0) rfl) rfl rfl ?_;refine jz ?_;exact ⟨rfl,rfl⟩)
   refine jjV [12,13,14,15,16,17,18,19,20,21,22,23,24,25,26,27,28,29,30,31,32,33,34,35,36,37,38,39,40,41] (by decide +kernel) q9 ?_
   (((refine jjT rfl (fun _ _=>jT rfl rfl rfl (jjb rfl rfl (by omega) (jz ⟨rfl,rfl⟩))) (jjT rfl (fun _ _=>jT rfl rfl rfl (jI (eB rfl) (jz ⟨rfl,rfl⟩))) (jjT rfl (fun _ _=>jU rfl rfl rfl rfl (jz ⟨rfl,rfl⟩)) (jjT rfl (fun _ _=>jU rfl rfl rfl rfl (jz ⟨rfl,rfl⟩)) (jjT rfl (fun _ _=>jU rfl rfl rfl rfl (jz ⟨rfl,rfl⟩)) (jjT rfl (fun _ _=>jU rfl rfl rfl rfl (jz ⟨rfl,rfl⟩)) ?_)))));refine jjT rfl (fun _ _=>jU rfl rfl rfl rfl (jz ⟨rfl,rfl⟩)) (jjT rfl (fun _ _=>jU rfl rfl rfl rfl (jz ⟨rfl,rfl⟩)) (jjT rfl (fun _ _=>jU rfl rfl rfl rfl (jz ⟨rfl,rfl⟩)) (jjT rfl (fun _ _=>jU rfl rfl rfl rfl (jz ⟨rfl,rfl⟩)) (jjT rfl (fun _ _=>jU rfl rfl rfl rfl (jz ⟨rfl,rfl⟩)) (jjT rfl (fun _ _=>jU rfl rfl rfl rfl (jz ⟨rfl,rfl⟩)) ?_)))));refine jjT rfl (fun _ _=>jT rfl rfl rfl (jK rfl (eB rfl) (jz ⟨rfl,rfl⟩))) (jjT rfl (fun _ _=>jK rfl (eB rfl) (jz ⟨rfl,rfl⟩)) (jjT rfl (fun _ _=>jI (eB rfl) (jz ⟨rfl,rfl⟩)) (jjT rfl (fun _ _=>jU rfl rfl rfl rfl (jz ⟨rfl,rfl⟩)) (jjT rfl (fun _ _=>jU rfl rfl rfl rfl (jz ⟨rfl,rfl⟩)) (jjT rfl (fun _ _=>jU rfl rfl rfl rfl (jz ⟨rfl,rfl⟩)) ?_)))));refine jjT rfl (fun _ _=>jV rfl rfl (jz ⟨rfl,rfl⟩)) (jjT rfl (fun _ _=>jV rfl rfl (jz ⟨rfl,rfl⟩)) (jjT rfl (fun _ _=>jV rfl rfl (jz ⟨rfl,rfl⟩)) (jjT rfl (fun _ _=>jV rfl rfl (jz ⟨rfl,rfl⟩)) (jjT rfl (fun _ _=>jV rfl rfl (jz ⟨rfl,rfl⟩)) (jjT rfl (fun _ _=>jV rfl rfl (jz ⟨rfl,rfl⟩)) ?_)))));refine jjT rfl (fun _ _=>jV rfl rfl (jz ⟨rfl,rfl⟩)) (jjT rfl (fun _ _=>jV rfl rfl (jz ⟨rfl,rfl⟩)) (jjT rfl (fun _ _=>jV rfl rfl (jz ⟨rfl,rfl⟩)) (jjT rfl (fun _ _=>jV rfl rfl (jz ⟨rfl,rfl⟩)) (jjT rfl (fun _ _=>jU rfl rfl rfl rfl (jz ⟨rfl,rfl⟩)) (jjT rfl (fun _ _=>jK rfl (eB rfl) (jz ⟨rfl,rfl⟩)) ?_)))));refine jjU ?_)))
   refine jjX (by decide +kernel) q9 ?_
   (refine jjJ rfl (jjB (jjC (jJ (eB rfl) (jz (jjF ?_)))));refine jB rfl rfl ⟨inferInstance,?_⟩)
   exact ⟨_,rfl,fun h=>by cases h⟩
  ·have ej:(i:Int)-1=(j:Int):=by omega
   refine jjV [0,1,2,3,4,5,6,7] (by decide +kernel) q9 ?_
   (((refine jjT rfl (fun _ _=>jI (eI rfl) (jz ⟨rfl,rfl⟩)) (jjT rfl (fun _ _=>jjd rfl rfl (by omega) (jz ⟨rfl,rfl⟩)) (jjT rfl (fun _ _=>jI (eB rfl) (jz ⟨rfl,rfl⟩)) ?_));apply jjT;exact rfl;rintro w' hq;have:=hq.toStep;refine jT rfl rfl rfl (jm (jn rfl (jz ?_)));exact ⟨rfl,rfl⟩;apply jjT;exact rfl;rintro w' hq;have:=hq.toStep;refine jT rfl rfl rfl (jN rfl rfl rfl (jz ?_));exact ⟨rfl,rfl⟩;apply jjT;exact rfl;rintro w' hq;have:=hq.toStep;refine jT rfl rfl rfl (jm (jn rfl (jz ?_)));exact ⟨rfl,rfl⟩;apply jjT;exact rfl;rintro w' hq;have:=hq.toStep;refine jT rfl rfl rfl (jN rfl rfl rfl (jz ?_));exact ⟨rfl,rfl⟩;refine jjT rfl (fun _ _=>jT rfl rfl rfl (jI (eI rfl) (jz ⟨rfl,rfl⟩))) (jjU ?_))))
   refine jjV [8] (by decide +kernel) q9 (jjT (v:=.int .i64 (j:Int)) rfl (fun w' q1=>?_) (jjU ?_));(refine jT rfl rfl rfl (jZ rfl rfl (by omega) ?_);rw [ej];refine jz ?_;exact ⟨rfl,rfl⟩)
   refine jjV [9] (by decide +kernel) q9 (jjT (v:=.pointer (some ⟨sb,so+j * 4,none⟩)) rfl (fun w' q1=>?_) (jjU ?_));(refine jT rfl rfl rfl ?_;refine jH j rfl rfl rfl (by omega) ?_;refine jz ?_;exact ⟨rfl,rfl⟩)
   refine jjV [10] (by decide +kernel) q9 ?_
   (((apply jjT;exact rfl;rintro w' hq;have:=hq.toStep;refine jT rfl rfl rfl (jm (jn rfl (jz ?_)));exact ⟨rfl,rfl⟩;refine jjU ?_)))
   refine jjV [11] (by decide +kernel) q9 (jjT (v:=.int .i64 ss[j].1) rfl (fun w' q1=>?_) (jjU ?_));(refine jT rfl rfl rfl ?_;refine jR ((AT j hj _ q1).get (i:=0) rfl) rfl rfl ?_;refine jz ?_;exact ⟨rfl,rfl⟩)
   refine jjV [12,13,14,15,16,17,18] (by decide +kernel) q9 ?_
   (((refine jjT rfl (fun _ _=>jT rfl rfl rfl (jjc rfl rfl (by omega) (jz ⟨rfl,rfl⟩))) (jjT rfl (fun _ _=>jT rfl rfl rfl (jI (eB rfl) (jz ⟨rfl,rfl⟩))) ?_);apply jjT;exact rfl;rintro w' hq;have:=hq.toStep;refine jT rfl rfl rfl (jm (jn rfl (jz ?_)));exact ⟨rfl,rfl⟩;apply jjT;exact rfl;rintro w' hq;have:=hq.toStep;refine jT rfl rfl rfl (jN rfl rfl rfl (jz ?_));exact ⟨rfl,rfl⟩;apply jjT;exact rfl;rintro w' hq;have:=hq.toStep;refine jT rfl rfl rfl (jm (jn rfl (jz ?_)));exact ⟨rfl,rfl⟩;apply jjT;exact rfl;rintro w' hq;have:=hq.toStep;refine jT rfl rfl rfl (jN rfl rfl rfl (jz ?_));exact ⟨rfl,rfl⟩;refine jjT rfl (fun _ _=>jT rfl rfl rfl (jI (eI rfl) (jz ⟨rfl,rfl⟩))) (jjU ?_))))
   refine jjV [19] (by decide +kernel) q9 (jjT (v:=.int .i64 (j:Int)) rfl (fun w' q1=>?_) (jjU ?_));(refine jT rfl rfl rfl (jZ rfl rfl (by omega) ?_);rw [ej];refine jz ?_;exact ⟨rfl,rfl⟩)
   refine jjV [20] (by decide +kernel) q9 (jjT (v:=.pointer (some ⟨sb,so+j * 4,none⟩)) rfl (fun w' q1=>?_) (jjU ?_));(refine jT rfl rfl rfl ?_;refine jH j rfl rfl rfl (by omega) ?_;refine jz ?_;exact ⟨rfl,rfl⟩)
   refine jjV [21] (by decide +kernel) q9 ?_
   (((apply jjT;exact rfl;rintro w' hq;have:=hq.toStep;refine jT rfl rfl rfl (jm (jn rfl (jz ?_)));exact ⟨rfl,rfl⟩;refine jjU ?_)))
   refine jjV [22] (by decide +kernel) q9 (jjT (v:=.int .i64 ss[j].2.1) rfl (fun w' q1=>?_) (jjU ?_));(refine jT rfl rfl rfl ?_;refine jR ((AT j hj _ q1).get (i:=1) rfl) rfl rfl ?_;refine jz ?_;exact ⟨rfl,rfl⟩)
   refine jjV [23,24,25,26,27,28,29,30,31,32,33,34,35,36,37,38,39,40,41] (by decide +kernel) q9 ?_
   (((refine jjT rfl (fun _ _=>jT rfl rfl rfl (jjb rfl rfl (by omega) (jz ⟨rfl,rfl⟩))) (jjT rfl (fun _ _=>jT rfl rfl rfl (jL rfl (eB rfl) (jz ⟨rfl,rfl⟩))) (jjT rfl (fun _ _=>jK rfl (eB rfl) (jz ⟨rfl,rfl⟩)) (jjT rfl (fun _ _=>jI (eB rfl) (jz ⟨rfl,rfl⟩)) (jjT rfl (fun _ _=>jU rfl rfl rfl rfl (jz ⟨rfl,rfl⟩)) (jjT rfl (fun _ _=>jU rfl rfl rfl rfl (jz ⟨rfl,rfl⟩)) ?_)))));refine jjT rfl (fun _ _=>jU rfl rfl rfl rfl (jz ⟨rfl,rfl⟩)) (jjT rfl (fun _ _=>jV rfl rfl (jz ⟨rfl,rfl⟩)) (jjT rfl (fun _ _=>jV rfl rfl (jz ⟨rfl,rfl⟩)) (jjT rfl (fun _ _=>jV rfl rfl (jz ⟨rfl,rfl⟩)) (jjT rfl (fun _ _=>jV rfl rfl (jz ⟨rfl,rfl⟩)) (jjT rfl (fun _ _=>jV rfl rfl (jz ⟨rfl,rfl⟩)) ?_)))));refine jjT rfl (fun _ _=>jV rfl rfl (jz ⟨rfl,rfl⟩)) (jjT rfl (fun _ _=>jV rfl rfl (jz ⟨rfl,rfl⟩)) (jjT rfl (fun _ _=>jV rfl rfl (jz ⟨rfl,rfl⟩)) (jjT rfl (fun _ _=>jV rfl rfl (jz ⟨rfl,rfl⟩)) (jjT rfl (fun _ _=>jV rfl rfl (jz ⟨rfl,rfl⟩)) (jjT rfl (fun _ _=>jU rfl rfl rfl rfl (jz ⟨rfl,rfl⟩)) ?_)))));refine jjT rfl (fun _ _=>jK rfl (eB rfl) (jz ⟨rfl,rfl⟩)) (jjU ?_))))
   refine jjX (by decide +kernel) q9 ?_
   (refine jjJ rfl (jjB (jjC (jJ (eB rfl) (jz (jjF ?_)))));refine jB rfl rfl ⟨inferInstance,?_⟩)
   exact ⟨_,rfl,fun h=>by cases h⟩
  ·have ej:(i:Int)-1=(j:Int):=by omega
   refine jjV [0,1,2,3,4,5,6,7] (by decide +kernel) q9 ?_
   (((refine jjT rfl (fun _ _=>jI (eI rfl) (jz ⟨rfl,rfl⟩)) (jjT rfl (fun _ _=>jjd rfl rfl (by omega) (jz ⟨rfl,rfl⟩)) (jjT rfl (fun _ _=>jI (eB rfl) (jz ⟨rfl,rfl⟩)) ?_));apply jjT;exact rfl;rintro w' hq;have:=hq.toStep;refine jT rfl rfl rfl (jm (jn rfl (jz ?_)));exact ⟨rfl,rfl⟩;apply jjT;exact rfl;rintro w' hq;have:=hq.toStep;refine jT rfl rfl rfl (jN rfl rfl rfl (jz ?_));exact ⟨rfl,rfl⟩;apply jjT;exact rfl;rintro w' hq;have:=hq.toStep;refine jT rfl rfl rfl (jm (jn rfl (jz ?_)));exact ⟨rfl,rfl⟩;apply jjT;exact rfl;rintro w' hq;have:=hq.toStep;refine jT rfl rfl rfl (jN rfl rfl rfl (jz ?_));exact ⟨rfl,rfl⟩;refine jjT rfl (fun _ _=>jT rfl rfl rfl (jI (eI rfl) (jz ⟨rfl,rfl⟩))) (jjU ?_))))
   refine jjV [8] (by decide +kernel) q9 (jjT (v:=.int .i64 (j:Int)) rfl (fun w' q1=>?_) (jjU ?_));(refine jT rfl rfl rfl (jZ rfl rfl (by omega) ?_);rw [ej];refine jz ?_;exact ⟨rfl,rfl⟩)
   refine jjV [9] (by decide +kernel) q9 (jjT (v:=.pointer (some ⟨sb,so+j * 4,none⟩)) rfl (fun w' q1=>?_) (jjU ?_));(refine jT rfl rfl rfl ?_;refine jH j rfl rfl rfl (by omega) ?_;refine jz ?_;exact ⟨rfl,rfl⟩)
   refine jjV [10] (by decide +kernel) q9 ?_
   (((apply jjT;exact rfl;rintro w' hq;have:=hq.toStep;refine jT rfl rfl rfl (jm (jn rfl (jz ?_)));exact ⟨rfl,rfl⟩;refine jjU ?_)))
   refine jjV [11] (by decide +kernel) q9 (jjT (v:=.int .i64 ss[j].1) rfl (fun w' q1=>?_) (jjU ?_));(refine jT rfl rfl rfl ?_;refine jR ((AT j hj _ q1).get (i:=0) rfl) rfl rfl ?_;refine jz ?_;exact ⟨rfl,rfl⟩)
   refine jjV [12,13,14,15,16,17,18] (by decide +kernel) q9 ?_
   (((refine jjT rfl (fun _ _=>jT rfl rfl rfl (jjc rfl rfl (by omega) (jz ⟨rfl,rfl⟩))) (jjT rfl (fun _ _=>jT rfl rfl rfl (jI (eB rfl) (jz ⟨rfl,rfl⟩))) ?_);apply jjT;exact rfl;rintro w' hq;have:=hq.toStep;refine jT rfl rfl rfl (jm (jn rfl (jz ?_)));exact ⟨rfl,rfl⟩;apply jjT;exact rfl;rintro w' hq;have:=hq.toStep;refine jT rfl rfl rfl (jN rfl rfl rfl (jz ?_));exact ⟨rfl,rfl⟩;apply jjT;exact rfl;rintro w' hq;have:=hq.toStep;refine jT rfl rfl rfl (jm (jn rfl (jz ?_)));exact ⟨rfl,rfl⟩;apply jjT;exact rfl;rintro w' hq;have:=hq.toStep;refine jT rfl rfl rfl (jN rfl rfl rfl (jz ?_));exact ⟨rfl,rfl⟩;refine jjT rfl (fun _ _=>jT rfl rfl rfl (jI (eI rfl) (jz ⟨rfl,rfl⟩))) (jjU ?_))))
   refine jjV [19] (by decide +kernel) q9 (jjT (v:=.int .i64 (j:Int)) rfl (fun w' q1=>?_) (jjU ?_));(refine jT rfl rfl rfl (jZ rfl rfl (by omega) ?_);rw [ej];refine jz ?_;exact ⟨rfl,rfl⟩)
   refine jjV [20] (by decide +kernel) q9 (jjT (v:=.pointer (some ⟨sb,so+j * 4,none⟩)) rfl (fun w' q1=>?_) (jjU ?_));(refine jT rfl rfl rfl ?_;refine jH j rfl rfl rfl (by omega) ?_;refine jz ?_;exact ⟨rfl,rfl⟩)
   refine jjV [21] (by decide +kernel) q9 ?_
   (((apply jjT;exact rfl;rintro w' hq;have:=hq.toStep;refine jT rfl rfl rfl (jm (jn rfl (jz ?_)));exact ⟨rfl,rfl⟩;refine jjU ?_)))
   refine jjV [22] (by decide +kernel) q9 (jjT (v:=.int .i64 ss[j].2.1) rfl (fun w' q1=>?_) (jjU ?_));(refine jT rfl rfl rfl ?_;refine jR ((AT j hj _ q1).get (i:=1) rfl) rfl rfl ?_;refine jz ?_;exact ⟨rfl,rfl⟩)
   refine jjV [23,24,25,26,27,28,29,30,31,32,33,34,35,36,37,38,39,40,41] (by decide +kernel) q9 ?_
   (((refine jjT rfl (fun _ _=>jT rfl rfl rfl (jjc rfl rfl (by omega) (jz ⟨rfl,rfl⟩))) (jjT rfl (fun _ _=>jT rfl rfl rfl (jL rfl (eB rfl) (jz ⟨rfl,rfl⟩))) (jjT rfl (fun _ _=>jK rfl (eB rfl) (jz ⟨rfl,rfl⟩)) (jjT rfl (fun _ _=>jI (eB rfl) (jz ⟨rfl,rfl⟩)) (jjT rfl (fun _ _=>jT rfl rfl rfl (jI (eI rfl) (jz ⟨rfl,rfl⟩))) (jjT rfl (fun _ _=>jT rfl rfl rfl (jje rfl rfl (by omega) (jz ⟨rfl,rfl⟩))) ?_)))));refine jjT rfl (fun _ _=>jT rfl rfl rfl (jI (eB rfl) (jz ⟨rfl,rfl⟩))) (jjT rfl (fun _ _=>jU rfl rfl rfl rfl (jz ⟨rfl,rfl⟩)) (jjT rfl (fun _ _=>jU rfl rfl rfl rfl (jz ⟨rfl,rfl⟩)) (jjT rfl (fun _ _=>jU rfl rfl rfl rfl (jz ⟨rfl,rfl⟩)) (jjT rfl (fun _ _=>jU rfl rfl rfl rfl (jz ⟨rfl,rfl⟩)) (jjT rfl (fun _ _=>jU rfl rfl rfl rfl (jz ⟨rfl,rfl⟩)) ?_)))));refine jjT rfl (fun _ _=>jU rfl rfl rfl rfl (jz ⟨rfl,rfl⟩)) (jjT rfl (fun _ _=>jU rfl rfl rfl rfl (jz ⟨rfl,rfl⟩)) (jjT rfl (fun _ _=>jU rfl rfl rfl rfl (jz ⟨rfl,rfl⟩)) (jjT rfl (fun _ _=>jU rfl rfl rfl rfl (jz ⟨rfl,rfl⟩)) (jjT rfl (fun _ _=>jU rfl rfl rfl rfl (jz ⟨rfl,rfl⟩)) (jjT rfl (fun _ _=>jT rfl rfl rfl (jL rfl (eB rfl) (jz ⟨rfl,rfl⟩))) ?_)))));refine jjT rfl (fun _ _=>jL rfl (eB rfl) (jz ⟨rfl,rfl⟩)) (jjU ?_))))
   refine jjX (by decide +kernel) q9 ?_
   refine rest () _ _ ⟨⟨q9,fun h=>by subst hij;exact ⟨by simp only [Nat.add_sub_cancel];omega,by simp only [Nat.add_sub_cancel];omega⟩⟩,fun h=>by omega⟩ (by (((iterate 82 refine Same.upd rfl ?_);exact Same.ovN))) ?_
   exact ⟨eP rfl,eI rfl,eI rfl,eP rfl,eB rfl,trivial⟩
  ·have ej:(i:Int)-1=(j:Int):=by omega
   have el:(i:Int)-2=(l:Int):=by omega
   refine jjV [0,1,2,3,4,5,6,7] (by decide +kernel) q9 ?_
   (((refine jjT rfl (fun _ _=>jI (eI rfl) (jz ⟨rfl,rfl⟩)) (jjT rfl (fun _ _=>jjd rfl rfl (by omega) (jz ⟨rfl,rfl⟩)) (jjT rfl (fun _ _=>jI (eB rfl) (jz ⟨rfl,rfl⟩)) ?_));apply jjT;exact rfl;rintro w' hq;have:=hq.toStep;refine jT rfl rfl rfl (jm (jn rfl (jz ?_)));exact ⟨rfl,rfl⟩;apply jjT;exact rfl;rintro w' hq;have:=hq.toStep;refine jT rfl rfl rfl (jN rfl rfl rfl (jz ?_));exact ⟨rfl,rfl⟩;apply jjT;exact rfl;rintro w' hq;have:=hq.toStep;refine jT rfl rfl rfl (jm (jn rfl (jz ?_)));exact ⟨rfl,rfl⟩;apply jjT;exact rfl;rintro w' hq;have:=hq.toStep;refine jT rfl rfl rfl (jN rfl rfl rfl (jz ?_));exact ⟨rfl,rfl⟩;refine jjT rfl (fun _ _=>jT rfl rfl rfl (jI (eI rfl) (jz ⟨rfl,rfl⟩))) (jjU ?_))))
   refine jjV [8] (by decide +kernel) q9 (jjT (v:=.int .i64 (j:Int)) rfl (fun w' q1=>?_) (jjU ?_));(refine jT rfl rfl rfl (jZ rfl rfl (by omega) ?_);rw [ej];refine jz ?_;exact ⟨rfl,rfl⟩)
   refine jjV [9] (by decide +kernel) q9 (jjT (v:=.pointer (some ⟨sb,so+j * 4,none⟩)) rfl (fun w' q1=>?_) (jjU ?_));(refine jT rfl rfl rfl ?_;refine jH j rfl rfl rfl (by omega) ?_;refine jz ?_;exact ⟨rfl,rfl⟩)
   refine jjV [10] (by decide +kernel) q9 ?_
   (((apply jjT;exact rfl;rintro w' hq;have:=hq.toStep;refine jT rfl rfl rfl (jm (jn rfl (jz ?_)));exact ⟨rfl,rfl⟩;refine jjU ?_)))
   refine jjV [11] (by decide +kernel) q9 (jjT (v:=.int .i64 ss[j].1) rfl (fun w' q1=>?_) (jjU ?_));(refine jT rfl rfl rfl ?_;refine jR ((AT j hj _ q1).get (i:=0) rfl) rfl rfl ?_;refine jz ?_;exact ⟨rfl,rfl⟩)
   refine jjV [12,13,14,15,16,17,18] (by decide +kernel) q9 ?_
   (((refine jjT rfl (fun _ _=>jT rfl rfl rfl (jjc rfl rfl (by omega) (jz ⟨rfl,rfl⟩))) (jjT rfl (fun _ _=>jT rfl rfl rfl (jI (eB rfl) (jz ⟨rfl,rfl⟩))) ?_);apply jjT;exact rfl;rintro w' hq;have:=hq.toStep;refine jT rfl rfl rfl (jm (jn rfl (jz ?_)));exact ⟨rfl,rfl⟩;apply jjT;exact rfl;rintro w' hq;have:=hq.toStep;refine jT rfl rfl rfl (jN rfl rfl rfl (jz ?_));exact ⟨rfl,rfl⟩;apply jjT;exact rfl;rintro w' hq;have:=hq.toStep;refine jT rfl rfl rfl (jm (jn rfl (jz ?_)));exact ⟨rfl,rfl⟩;apply jjT;exact rfl;rintro w' hq;have:=hq.toStep;refine jT rfl rfl rfl (jN rfl rfl rfl (jz ?_));exact ⟨rfl,rfl⟩;refine jjT rfl (fun _ _=>jT rfl rfl rfl (jI (eI rfl) (jz ⟨rfl,rfl⟩))) (jjU ?_))))
   refine jjV [19] (by decide +kernel) q9 (jjT (v:=.int .i64 (j:Int)) rfl (fun w' q1=>?_) (jjU ?_));(refine jT rfl rfl rfl (jZ rfl rfl (by omega) ?_);rw [ej];refine jz ?_;exact ⟨rfl,rfl⟩)
   refine jjV [20] (by decide +kernel) q9 (jjT (v:=.pointer (some ⟨sb,so+j * 4,none⟩)) rfl (fun w' q1=>?_) (jjU ?_));(refine jT rfl rfl rfl ?_;refine jH j rfl rfl rfl (by omega) ?_;refine jz ?_;exact ⟨rfl,rfl⟩)
   refine jjV [21] (by decide +kernel) q9 ?_
   (((apply jjT;exact rfl;rintro w' hq;have:=hq.toStep;refine jT rfl rfl rfl (jm (jn rfl (jz ?_)));exact ⟨rfl,rfl⟩;refine jjU ?_)))
   refine jjV [22] (by decide +kernel) q9 (jjT (v:=.int .i64 ss[j].2.1) rfl (fun w' q1=>?_) (jjU ?_));(refine jT rfl rfl rfl ?_;refine jR ((AT j hj _ q1).get (i:=1) rfl) rfl rfl ?_;refine jz ?_;exact ⟨rfl,rfl⟩)
   refine jjV [23,24,25,26,27,28,29,30,31,32,33,34] (by decide +kernel) q9 ?_
   (((refine jjT rfl (fun _ _=>jT rfl rfl rfl (jjc rfl rfl (by omega) (jz ⟨rfl,rfl⟩))) (jjT rfl (fun _ _=>jT rfl rfl rfl (jL rfl (eB rfl) (jz ⟨rfl,rfl⟩))) (jjT rfl (fun _ _=>jK rfl (eB rfl) (jz ⟨rfl,rfl⟩)) (jjT rfl (fun _ _=>jI (eB rfl) (jz ⟨rfl,rfl⟩)) (jjT rfl (fun _ _=>jT rfl rfl rfl (jI (eI rfl) (jz ⟨rfl,rfl⟩))) (jjT rfl (fun _ _=>jT rfl rfl rfl (jjd rfl rfl (by omega) (jz ⟨rfl,rfl⟩))) ?_)))));refine jjT rfl (fun _ _=>jT rfl rfl rfl (jI (eB rfl) (jz ⟨rfl,rfl⟩))) ?_;apply jjT;exact rfl;rintro w' hq;have:=hq.toStep;refine jT rfl rfl rfl (jm (jn rfl (jz ?_)));exact ⟨rfl,rfl⟩;apply jjT;exact rfl;rintro w' hq;have:=hq.toStep;refine jT rfl rfl rfl (jN rfl rfl rfl (jz ?_));exact ⟨rfl,rfl⟩;apply jjT;exact rfl;rintro w' hq;have:=hq.toStep;refine jT rfl rfl rfl (jm (jn rfl (jz ?_)));exact ⟨rfl,rfl⟩;apply jjT;exact rfl;rintro w' hq;have:=hq.toStep;refine jT rfl rfl rfl (jN rfl rfl rfl (jz ?_));exact ⟨rfl,rfl⟩;refine jjT rfl (fun _ _=>jT rfl rfl rfl (jI (eI rfl) (jz ⟨rfl,rfl⟩))) (jjU ?_))))
   refine jjV [35] (by decide +kernel) q9 (jjT (v:=.int .i64 (l:Int)) rfl (fun w' q1=>?_) (jjU ?_));(refine jT rfl rfl rfl (jZ rfl rfl (by omega) ?_);rw [el];refine jz ?_;exact ⟨rfl,rfl⟩)
   refine jjV [36] (by decide +kernel) q9 (jjT (v:=.pointer (some ⟨sb,so+l * 4,none⟩)) rfl (fun w' q1=>?_) (jjU ?_));(refine jT rfl rfl rfl ?_;refine jH l rfl rfl rfl (by omega) ?_;refine jz ?_;exact ⟨rfl,rfl⟩)
   refine jjV [37] (by decide +kernel) q9 ?_
   (((apply jjT;exact rfl;rintro w' hq;have:=hq.toStep;refine jT rfl rfl rfl (jm (jn rfl (jz ?_)));exact ⟨rfl,rfl⟩;refine jjU ?_)))
   refine jjV [38] (by decide +kernel) q9 (jjT (v:=.int .i64 ss[l].2.1) rfl (fun w' q1=>?_) (jjU ?_));(refine jT rfl rfl rfl ?_;refine jR ((AT l hl _ q1).get (i:=1) rfl) rfl rfl ?_;refine jz ?_;exact ⟨rfl,rfl⟩)
   refine jjV [39,40,41] (by decide +kernel) q9 ?_
   (((refine jjT rfl (fun _ _=>jT rfl rfl rfl (jjb rfl rfl (by omega) (jz ⟨rfl,rfl⟩))) (jjT rfl (fun _ _=>jT rfl rfl rfl (jK rfl (eB rfl) (jz ⟨rfl,rfl⟩))) (jjT rfl (fun _ _=>jL rfl (eB rfl) (jz ⟨rfl,rfl⟩)) (jjU ?_))))))
   refine jjX (by decide +kernel) q9 ?_
   (refine jjJ rfl (jjB (jjC (jJ (eB rfl) (jz (jjF ?_)))));refine jB rfl rfl ⟨inferInstance,?_⟩)
   exact ⟨_,rfl,fun h=>by cases h⟩
  ·have ej:(i:Int)-1=(j:Int):=by omega
   have el:(i:Int)-2=(l:Int):=by omega
   refine jjV [0,1,2,3,4,5,6,7] (by decide +kernel) q9 ?_
   (((refine jjT rfl (fun _ _=>jI (eI rfl) (jz ⟨rfl,rfl⟩)) (jjT rfl (fun _ _=>jjd rfl rfl (by omega) (jz ⟨rfl,rfl⟩)) (jjT rfl (fun _ _=>jI (eB rfl) (jz ⟨rfl,rfl⟩)) ?_));apply jjT;exact rfl;rintro w' hq;have:=hq.toStep;refine jT rfl rfl rfl (jm (jn rfl (jz ?_)));exact ⟨rfl,rfl⟩;apply jjT;exact rfl;rintro w' hq;have:=hq.toStep;refine jT rfl rfl rfl (jN rfl rfl rfl (jz ?_));exact ⟨rfl,rfl⟩;apply jjT;exact rfl;rintro w' hq;have:=hq.toStep;refine jT rfl rfl rfl (jm (jn rfl (jz ?_)));exact ⟨rfl,rfl⟩;apply jjT;exact rfl;rintro w' hq;have:=hq.toStep;refine jT rfl rfl rfl (jN rfl rfl rfl (jz ?_));exact ⟨rfl,rfl⟩;refine jjT rfl (fun _ _=>jT rfl rfl rfl (jI (eI rfl) (jz ⟨rfl,rfl⟩))) (jjU ?_))))
   refine jjV [8] (by decide +kernel) q9 (jjT (v:=.int .i64 (j:Int)) rfl (fun w' q1=>?_) (jjU ?_));(refine jT rfl rfl rfl (jZ rfl rfl (by omega) ?_);rw [ej];refine jz ?_;exact ⟨rfl,rfl⟩)
   refine jjV [9] (by decide +kernel) q9 (jjT (v:=.pointer (some ⟨sb,so+j * 4,none⟩)) rfl (fun w' q1=>?_) (jjU ?_));(refine jT rfl rfl rfl ?_;refine jH j rfl rfl rfl (by omega) ?_;refine jz ?_;exact ⟨rfl,rfl⟩)
   refine jjV [10] (by decide +kernel) q9 ?_
   (((apply jjT;exact rfl;rintro w' hq;have:=hq.toStep;refine jT rfl rfl rfl (jm (jn rfl (jz ?_)));exact ⟨rfl,rfl⟩;refine jjU ?_)))
   refine jjV [11] (by decide +kernel) q9 (jjT (v:=.int .i64 ss[j].1) rfl (fun w' q1=>?_) (jjU ?_));(refine jT rfl rfl rfl ?_;refine jR ((AT j hj _ q1).get (i:=0) rfl) rfl rfl ?_;refine jz ?_;exact ⟨rfl,rfl⟩)
   refine jjV [12,13,14,15,16,17,18] (by decide +kernel) q9 ?_
   (((refine jjT rfl (fun _ _=>jT rfl rfl rfl (jjc rfl rfl (by omega) (jz ⟨rfl,rfl⟩))) (jjT rfl (fun _ _=>jT rfl rfl rfl (jI (eB rfl) (jz ⟨rfl,rfl⟩))) ?_);apply jjT;exact rfl;rintro w' hq;have:=hq.toStep;refine jT rfl rfl rfl (jm (jn rfl (jz ?_)));exact ⟨rfl,rfl⟩;apply jjT;exact rfl;rintro w' hq;have:=hq.toStep;refine jT rfl rfl rfl (jN rfl rfl rfl (jz ?_));exact ⟨rfl,rfl⟩;apply jjT;exact rfl;rintro w' hq;have:=hq.toStep;refine jT rfl rfl rfl (jm (jn rfl (jz ?_)));exact ⟨rfl,rfl⟩;apply jjT;exact rfl;rintro w' hq;have:=hq.toStep;refine jT rfl rfl rfl (jN rfl rfl rfl (jz ?_));exact ⟨rfl,rfl⟩;refine jjT rfl (fun _ _=>jT rfl rfl rfl (jI (eI rfl) (jz ⟨rfl,rfl⟩))) (jjU ?_))))
   refine jjV [19] (by decide +kernel) q9 (jjT (v:=.int .i64 (j:Int)) rfl (fun w' q1=>?_) (jjU ?_));(refine jT rfl rfl rfl (jZ rfl rfl (by omega) ?_);rw [ej];refine jz ?_;exact ⟨rfl,rfl⟩)
   refine jjV [20] (by decide +kernel) q9 (jjT (v:=.pointer (some ⟨sb,so+j * 4,none⟩)) rfl (fun w' q1=>?_) (jjU ?_));(refine jT rfl rfl rfl ?_;refine jH j rfl rfl rfl (by omega) ?_;refine jz ?_;exact ⟨rfl,rfl⟩)
   refine jjV [21] (by decide +kernel) q9 ?_
   (((apply jjT;exact rfl;rintro w' hq;have:=hq.toStep;refine jT rfl rfl rfl (jm (jn rfl (jz ?_)));exact ⟨rfl,rfl⟩;refine jjU ?_)))
   refine jjV [22] (by decide +kernel) q9 (jjT (v:=.int .i64 ss[j].2.1) rfl (fun w' q1=>?_) (jjU ?_));(refine jT rfl rfl rfl ?_;refine jR ((AT j hj _ q1).get (i:=1) rfl) rfl rfl ?_;refine jz ?_;exact ⟨rfl,rfl⟩)
   refine jjV [23,24,25,26,27,28,29,30,31,32,33,34] (by decide +kernel) q9 ?_
   (((refine jjT rfl (fun _ _=>jT rfl rfl rfl (jjc rfl rfl (by omega) (jz ⟨rfl,rfl⟩))) (jjT rfl (fun _ _=>jT rfl rfl rfl (jL rfl (eB rfl) (jz ⟨rfl,rfl⟩))) (jjT rfl (fun _ _=>jK rfl (eB rfl) (jz ⟨rfl,rfl⟩)) (jjT rfl (fun _ _=>jI (eB rfl) (jz ⟨rfl,rfl⟩)) (jjT rfl (fun _ _=>jT rfl rfl rfl (jI (eI rfl) (jz ⟨rfl,rfl⟩))) (jjT rfl (fun _ _=>jT rfl rfl rfl (jjd rfl rfl (by omega) (jz ⟨rfl,rfl⟩))) ?_)))));refine jjT rfl (fun _ _=>jT rfl rfl rfl (jI (eB rfl) (jz ⟨rfl,rfl⟩))) ?_;apply jjT;exact rfl;rintro w' hq;have:=hq.toStep;refine jT rfl rfl rfl (jm (jn rfl (jz ?_)));exact ⟨rfl,rfl⟩;apply jjT;exact rfl;rintro w' hq;have:=hq.toStep;refine jT rfl rfl rfl (jN rfl rfl rfl (jz ?_));exact ⟨rfl,rfl⟩;apply jjT;exact rfl;rintro w' hq;have:=hq.toStep;refine jT rfl rfl rfl (jm (jn rfl (jz ?_)));exact ⟨rfl,rfl⟩;apply jjT;exact rfl;rintro w' hq;have:=hq.toStep;refine jT rfl rfl rfl (jN rfl rfl rfl (jz ?_));exact ⟨rfl,rfl⟩;refine jjT rfl (fun _ _=>jT rfl rfl rfl (jI (eI rfl) (jz ⟨rfl,rfl⟩))) (jjU ?_))))
   refine jjV [35] (by decide +kernel) q9 (jjT (v:=.int .i64 (l:Int)) rfl (fun w' q1=>?_) (jjU ?_));(refine jT rfl rfl rfl (jZ rfl rfl (by omega) ?_);rw [el];refine jz ?_;exact ⟨rfl,rfl⟩)
   refine jjV [36] (by decide +kernel) q9 (jjT (v:=.pointer (some ⟨sb,so+l * 4,none⟩)) rfl (fun w' q1=>?_) (jjU ?_));(refine jT rfl rfl rfl ?_;refine jH l rfl rfl rfl (by omega) ?_;refine jz ?_;exact ⟨rfl,rfl⟩)
   refine jjV [37] (by decide +kernel) q9 ?_
   (((apply jjT;exact rfl;rintro w' hq;have:=hq.toStep;refine jT rfl rfl rfl (jm (jn rfl (jz ?_)));exact ⟨rfl,rfl⟩;refine jjU ?_)))
   refine jjV [38] (by decide +kernel) q9 (jjT (v:=.int .i64 ss[l].2.1) rfl (fun w' q1=>?_) (jjU ?_));(refine jT rfl rfl rfl ?_;refine jR ((AT l hl _ q1).get (i:=1) rfl) rfl rfl ?_;refine jz ?_;exact ⟨rfl,rfl⟩)
   refine jjV [39,40,41] (by decide +kernel) q9 ?_
   (((refine jjT rfl (fun _ _=>jT rfl rfl rfl (jjc rfl rfl (by omega) (jz ⟨rfl,rfl⟩))) (jjT rfl (fun _ _=>jT rfl rfl rfl (jK rfl (eB rfl) (jz ⟨rfl,rfl⟩))) (jjT rfl (fun _ _=>jL rfl (eB rfl) (jz ⟨rfl,rfl⟩)) (jjU ?_))))))
   refine jjX (by decide +kernel) q9 ?_
   refine rest () _ _ ⟨⟨q9,fun h=>by subst hij;exact ⟨by simp only [Nat.add_sub_cancel];omega,by simp only [Nat.add_sub_cancel];omega⟩⟩,fun h=>by subst hil;simp only [Nat.add_sub_cancel];omega⟩ (by (((iterate 82 refine Same.upd rfl ?_);exact Same.ovN))) ?_
   exact ⟨eP rfl,eI rfl,eI rfl,eP rfl,eB rfl,trivial⟩
 rintro _ s5 V6 ⟨⟨q6,ho1⟩,ho2⟩ hSm
 have q6':=q6.toStep
 have hxi1:i<xs.length:=by omega
 obtain ⟨B,hB⟩:∃ B,xs[i].1=B:=⟨_,rfl⟩
 clear hcase AT
 (refine jjK rfl (jjG (jjB (jjC (jm (jn rfl ?_)))));refine jN rfl rfl rfl (jI (eI rfl) ?_);refine jF rfl rfl rfl (map_get (by omega)) ?_;intro _ _ _;refine jQ rfl rfl ?_)
 ((skip);refine jjY ?_;intro b9 w_b9 hb_b9 hs_b9 hS_b9 hk_b9;have hA_b9:=Bk.of hk_b9)
 skip
 refine Ops.store rfl rfl rfl rfl rfl ?_
 intro w9 hp9
 have e9:Ext V6 w9:=hp9.ext hS_b9.ext (by omega)
 have A9:At w9 b9 0 [.bool xs[i].1,.slice xs[i].2.1 xs[i].2.2.2.length xs[i].2.2.1]:=Bk.toAt (h:=⟨hp9.new⟩)
 rw [hB] at A9
 have e9':=e9.toStep
 by_cases h30:30<xs[i].2.2.2.length
 ·(refine jz (jjB (jjB (jjC (jm (jn rfl ?_)))));refine jN rfl rfl rfl (jh rfl (jjd rfl rfl (by omega) (jI (eB rfl) (jU rfl rfl rfl rfl (jU rfl rfl rfl rfl ?_)))));refine jU rfl rfl rfl rfl (jU rfl rfl rfl rfl (jV rfl rfl (jV rfl rfl (jV rfl rfl (jV rfl rfl ?_)))));refine jU rfl rfl rfl rfl (jK rfl (eB rfl) (jz (jjJ rfl (jjB (jjC ?_)))));refine jJ (eB rfl) (jz (jjF ?_));refine jB rfl rfl ⟨inferInstance,?_⟩)
  exact ⟨_,rfl,fun h=>by cases h⟩
 apply join_w (78::79::80::81::82::85::86::87::88::89::8::90::91::92::93::94::95::96::97::98::99::100::101::102::103::104::105::106::107::108::109::110::111::112::113::114::115::116::117::2::118::119::120::121::122::123::124::125::126::127::128::129::130::131::132::133::134::135::136::137::138::139::140::141::142::143::144::145::146::147::148::149::150::151::152::153::154::155::156::157::158::159::160::161::162::163::164::9::165::166::167::168::169::170::171::172::173::174::175::176::177::178::179::10::180::181::182::183::184::187::188::189::190::191::192::193::194::11::195::196::197::198::199::200::201::202::205::206::207::208::209::210::211::212::213::214::203::204::185::186::83::84::7::[]) (upds s1 _) (fun _:Unit=>[(1,.pointer (some ⟨b1,0,none⟩)),(6,.int .i64 (nl:Int)),(7,.int .i64 (i:Int)),(9,.pointer (some ⟨b9,0,none⟩)),(10,.int .i64 ((0:Nat):Int))]) (fun _ w'=>Ext w9 w'∧(xs[i].1=true∨xs[i].2.2.2.length=0))
 ·intro rest
  cases B with
  | true =>
    (refine jz (jjB (jjB (jjC (jm (jn rfl ?_)))));refine jN rfl rfl rfl (jh rfl (jje rfl rfl (by omega) (jI (eB rfl) (jT rfl rfl rfl (jm ?_)))));refine jn rfl (jT rfl rfl rfl (jN rfl rfl rfl (jT rfl rfl rfl (jp rfl (jT rfl rfl rfl ?_)))));refine jI (eB rfl) (jU rfl rfl rfl rfl (jU rfl rfl rfl rfl (jU rfl rfl rfl rfl (jU rfl rfl rfl rfl (jT rfl rfl rfl ?_)))));refine jL rfl (eB rfl) (jL rfl (eB rfl) (jz (jjK rfl (jjG (jjB ?_)))));refine jjC (jJ (eI rfl) (jz (jjD ?_))))
    refine rest () _ _ ⟨.refl _,.inl hB⟩ (by (((iterate 22 refine Same.upd rfl ?_);assumption))) ?_
    exact ⟨eP rfl,eI rfl,eI rfl,eP rfl,eI rfl,trivial⟩
  | false =>
    by_cases h0:0<xs[i].2.2.2.length
    ·(refine jz (jjB (jjB (jjC (jm (jn rfl ?_)))));refine jN rfl rfl rfl (jh rfl (jje rfl rfl (by omega) (jI (eB rfl) (jT rfl rfl rfl (jm ?_)))));refine jn rfl (jT rfl rfl rfl (jN rfl rfl rfl (jT rfl rfl rfl (jq rfl (jT rfl rfl rfl ?_)))));refine jI (eB rfl) (jT rfl rfl rfl (jm (jn rfl (jT rfl rfl rfl (jN rfl rfl rfl ?_)))));refine jT rfl rfl rfl (jh rfl (jT rfl rfl rfl (jjd rfl rfl (by omega) (jT rfl rfl rfl (jK rfl (eB rfl) ?_)))));refine jL rfl (eB rfl) (jz (jjJ rfl (jjB (jjC (jJ (eB rfl) ?_)))));refine jz (jjF ?_);refine jB rfl rfl ⟨inferInstance,?_⟩)
     exact ⟨_,rfl,fun h=>by cases h⟩
    (refine jz (jjB (jjB (jjC (jm (jn rfl ?_)))));refine jN rfl rfl rfl (jh rfl (jje rfl rfl (by omega) (jI (eB rfl) (jT rfl rfl rfl (jm ?_)))));refine jn rfl (jT rfl rfl rfl (jN rfl rfl rfl (jT rfl rfl rfl (jq rfl (jT rfl rfl rfl ?_)))));refine jI (eB rfl) (jT rfl rfl rfl (jm (jn rfl (jT rfl rfl rfl (jN rfl rfl rfl ?_)))));refine jT rfl rfl rfl (jh rfl (jT rfl rfl rfl (jje rfl rfl (by omega) (jT rfl rfl rfl (jK rfl (eB rfl) ?_)))));refine jL rfl (eB rfl) (jz (jjK rfl (jjG (jjB (jjC ?_)))));refine jJ (eI rfl) (jz (jjD ?_)))
    refine rest () _ _ ⟨.refl _,.inr (by omega)⟩ (by (((iterate 22 refine Same.upd rfl ?_);assumption))) ?_
    exact ⟨eP rfl,eI rfl,eI rfl,eP rfl,eI rfl,trivial⟩
 rintro _ s6 w10 ⟨q10,hbk⟩ hSm6
 have q10':=q10.toStep
 refine W.loop (180::181::182::183::184::187::188::189::190::191::192::193::194::2::11::195::196::197::198::199::200::201::202::205::206::207::208::209::210::211::212::213::214::203::204::185::186::10::[]) (fun g s' V=>∃ n:Nat,s' 10=.int .i64 ((n:Nat):Int)∧g=xs[i].2.2.2.length-n∧n≤xs[i].2.2.2.length∧∀ (j:Nat) (hj:j<xs[i].2.2.2.length),j<n→lineB xs[i].2.2.2[j].2.2=true) xs[i].2.2.2.length ⟨0,rfl,rfl,Nat.zero_le _,by intros;omega⟩ ?_
 rintro _ sd3 w11 hS11 ⟨n,h10,rfl,hn,hpre2⟩
 refine W.fix h10 ?_
 clear h10
 have hX11:ShtI w11 xs:=inferInstance
 have i11:=hX11.line hxi1
 by_cases hn1:n<xs[i].2.2.2.length
 rotate_left
 ·(refine jjB (jjB (jjC (jI (eI rfl) (jm (jn rfl ?_)))));refine jN rfl rfl rfl (jh rfl (jja rfl rfl (by omega) (jz (jjK rfl (jjE ?_)))));refine jjC (jI (eI rfl) (jY rfl rfl (by omega) (jJ (eI rfl) (jz ?_)))))
  refine ⟨rfl,by (((iterate 9 refine Same.upd rfl ?_);refine Same.ovN' rfl ?_;assumption)),ss.length-(i+1),by omega,inferInstance,i+1,congrArg (Value.int .i64) (by omega),rfl,by omega,⟨fun j h hj=>?_,fun j h h0 hj=>?_,fun j h h0 hj=>?_,fun j h hj=>?_⟩⟩
  ·by_cases e:j=i
   ·subst e;omega
   ·exact hU.sp j h (by omega)
  ·by_cases e:j=i
   ·subst e;exact ho1 h0
   ·exact hU.so j h h0 (by omega)
  ·by_cases e:j=i
   ·subst e;exact ho2 h0
   ·exact hU.so2 j h h0 (by omega)
  ·by_cases e:j=i
   ·subst e;exact ⟨by omega,hbk,fun q hq=>hpre2 q hq (by omega)⟩
   ·exact hU.sh j h (by omega)
 have i12:RowI w11 (.slice xs[i].2.2.2[n].1 xs[i].2.2.2[n].2.2.length xs[i].2.2.2[n].2.1) false 1 (xs[i].2.2.2[n].2.2.map strV):=hX11.word hxi1 hn1
 have sm:=(hX.l _ (List.getElem_mem hxi1)).2 _ (List.getElem_mem hn1)
 obtain ⟨B7,hB7⟩:∃ B,inB 1 10 (xs[i].2.2.2[n].2.2.length:Int)=B:=⟨_,rfl⟩
 (refine jjB (jjB (jjC (jI (eI rfl) (jm (jn rfl ?_)))));refine jN rfl rfl rfl (jh rfl (jjZ rfl rfl (by omega) (jz (jjJ rfl (jjG ?_)))));refine jjB (jjD (jjB (jjB (jjC (jm ?_)))));refine jn rfl (jN rfl rfl rfl (jI (eI rfl) ?_));refine jF rfl rfl rfl (map_get (by omega)) ?_;intro _ _ _;refine jQ rfl rfl (jh rfl ?_))
 refine jjQ ((within_postilref05 (xs[i].2.2.2[n].2.2.length:Int) 1 10 _).mono fun v _ _ h=>h.trans (by rw [hB7])) rfl rfl ?_
 rintro _ w12 hS12 rfl
 cases B7 with
 | false =>
   (refine jq rfl (jz (jjJ rfl (jjB (jjC (jJ (eB rfl) ?_)))));refine jz (jjF ?_);refine jB rfl rfl ⟨inferInstance,?_⟩)
   exact ⟨_,rfl,fun h=>by cases h⟩
 | true =>
 (refine jp rfl (jz (jjK rfl (jjG (jjB (jjC ?_)))));refine jJ (eI rfl) (jz (jjD ?_)))
 refine W.keep [(1,.pointer (some ⟨b1,0,none⟩)),(6,.int .i64 (nl:Int)),(7,.int .i64 (i:Int)),(9,.pointer (some ⟨b9,0,none⟩)),(10,.int .i64 (n:Int)),(11,.int .i64 ((0:Nat):Int))] (D:=(180::181::182::183::184::187::188::189::190::191::192::193::194::2::11::195::196::197::198::199::200::201::202::205::206::207::208::209::210::211::212::213::214::203::204::185::186::10::[])) (sO:=upds s6 _) (by (((iterate 15 refine Same.upd rfl ?_);exact Same.ovN))) ⟨eP rfl,eI rfl,eI rfl,eP rfl,eI rfl,eI rfl,trivial⟩ fun s7 hs7=>?_
 refine W.loop (195::196::197::198::199::200::201::202::205::206::207::208::209::210::211::212::213::214::2::203::204::11::[]) (fun g s' V=>∃ q:Nat,s' 11=.int .i64 ((q:Nat):Int)∧g=xs[i].2.2.2[n].2.2.length-q∧q≤xs[i].2.2.2[n].2.2.length∧∀ (j:Nat) (hj:j<xs[i].2.2.2[n].2.2.length),j<q→wordB xs[i].2.2.2[n].2.2[j]=true) xs[i].2.2.2[n].2.2.length ⟨0,rfl,rfl,Nat.zero_le _,by intros;omega⟩ ?_
 rintro _ sd4 w13 hS13 ⟨q,h11,rfl,hq,hpre3⟩
 refine W.fix h11 ?_
 clear h11
 have hX13:ShtI w13 xs:=inferInstance
 have i13:=hX13.line hxi1
 have i14:RowI w13 (.slice xs[i].2.2.2[n].1 xs[i].2.2.2[n].2.2.length xs[i].2.2.2[n].2.1) false 1 (xs[i].2.2.2[n].2.2.map strV):=hX13.word hxi1 hn1
 by_cases hq1:q<xs[i].2.2.2[n].2.2.length
 rotate_left
 ·(refine jjB (jjB (jjC (jI (eI rfl) (jm (jn rfl ?_)))));refine jN rfl rfl rfl (jI (eI rfl) ?_);refine jF rfl rfl rfl (map_get (by omega)) ?_;intro _ _ _;refine jQ rfl rfl (jh rfl (jja rfl rfl (by omega) (jz (jjK rfl (jjE ?_)))));refine jjC (jI (eI rfl) (jY rfl rfl (by omega) (jJ (eI rfl) (jz ?_)))))
  refine ⟨rfl,by (((iterate 12 refine Same.upd rfl ?_);refine Same.ovN' rfl ?_;assumption)),xs[i].2.2.2.length-(n+1),by omega,inferInstance,n+1,congrArg (Value.int .i64) (by omega),rfl,by omega,fun j hj hjk=>?_⟩
  by_cases e:j=n
  ·subst e;exact lineB_yes hB7 fun q' hq'=>hpre3 q' hq' (by omega)
  ·exact hpre2 j hj (by omega)
 obtain ⟨B8,hB8⟩:∃ B,wordB xs[i].2.2.2[n].2.2[q]=B:=⟨_,rfl⟩
 have sz:=sm.2 _ (List.getElem_mem hq1)
 (refine jjB (jjB (jjC (jI (eI rfl) (jm (jn rfl ?_)))));refine jN rfl rfl rfl (jI (eI rfl) ?_);refine jF rfl rfl rfl (map_get (by omega)) ?_;intro _ _ _;refine jQ rfl rfl (jh rfl (jjZ rfl rfl (by omega) (jz (jjJ rfl (jjG ?_)))));refine jjB (jjD (jjB (jjC (jm (jn rfl ?_)))));refine jN rfl rfl rfl (jI (eI rfl) ?_);refine jF rfl rfl rfl (map_get (by omega)) ?_;intro _ _ _;refine jQ rfl rfl (jI (eI rfl) ?_);refine jF rfl rfl rfl (map_get (by omega)) ?_;intro _ _ _;refine jQ rfl rfl ?_)
 refine jjQ ((Word_ref xs[i].2.2.2[n].2.2[q] _ (by omega)).mono fun v _ _ h=>h.trans (by rw [hB8])) rfl rfl ?_
 rintro _ w14 hS14 rfl
 cases B8 with
 | false =>
   (refine jq rfl (jz (jjJ rfl (jjB (jjC (jJ (eB rfl) ?_)))));refine jz (jjF ?_);refine jB rfl rfl ⟨inferInstance,?_⟩)
   exact ⟨_,rfl,fun h=>by cases h⟩
 | true =>
 (refine jp rfl (jz (jjK rfl (jjG (jjC (jI (eI rfl) ?_)))));refine jY rfl rfl (by omega) (jJ (eI rfl) (jz ?_)))
 refine ⟨rfl,by (((iterate 22 refine Same.upd rfl ?_);exact Same.ovN)),xs[i].2.2.2[n].2.2.length-(q+1),by omega,inferInstance,q+1,congrArg (Value.int .i64) (by omega),rfl,by omega,fun j hj hjk=>?_⟩
 by_cases e:j=q
 ·subst e;exact hB8
 ·exact hpre3 j hj (by omega)
end

theorem RowV.place {w:World} {agg:Bool} {k l c j:Nat} {a:Option Addr} {xs:List Value} {x:Value} (h:RowV w agg k (.slice a l c) xs) (hj:xs[j]?=some x):∃ b o,a=some ⟨b,o,none⟩∧At w b (o+j * k) x.cells.toList:=by
 rcases h.at_ with ⟨rfl,_⟩|⟨b,o,c',hv,hl,hc⟩
 ·simp at hj
 ·simp only [Value.slice.injEq] at hv
  exact ⟨b,o,hv.1,hc j x hj⟩

section
variable (a:Option Addr) (c:Nat) (cs:List Ch) (ha:Option Addr) (hc:Nat) (hs:List Hp) (sa:Option Addr) (sc:Nat) (ss:List Shr) (xa:Option Addr) (xc:Nat) (xs:List Sht) (w:World)
 [hrow:RowI w (.slice a cs.length c) true 2 (cs.map encCh)] [hT:TextI w cs] [hhs:RowI w (.slice ha hs.length hc) true 3 (hs.map encHp)] [hss:RowI w (.slice sa ss.length sc) true 4 (ss.map encShr)] [hxs:RowI w (.slice xa xs.length xc) true 2 (xs.map encSht)] [hxi:ShtI w xs]
set_option maxHeartbeats 4000000 in
theorem Check_ref5 (hsm:SmallT cs) (hX:SmallX hs ss xs):Ct Tryz.prog 6 [.agg #[.slice a cs.length c,.slice ha hs.length hc,.slice sa ss.length sc,.slice xa xs.length xc]] w fun v _=>∃ e:Int,v=.int .i64 e∧(e=0→textB (txF cs)=true∧RoundOk (lnK cs cs.length).length hs ss xs):=by
 refine Ct.ofW (by simp) ?_
 (refine jjB (jjC ?_))
 (refine jy rfl ?_;intro b1 w_b1 hb_b1 hs_b1 hS_b1 hk_b1;have hA_b1:=At.ofBlock hk_b1)
 have A1:At w_b1 b1 0 [.slice a cs.length c,.slice ha hs.length hc,.slice sa ss.length sc,.slice xa xs.length xc]:=At.ofBlock hk_b1
 obtain ⟨T,hTT⟩:∃ T,textB (txF cs)=T:=⟨_,rfl⟩
 (refine jJ (eI rfl) (jz (jjB (jjB (jjC (jm ?_)))));refine jn rfl (jO rfl rfl rfl rfl ?_))
 refine jjQ ((Check_ref1 a c cs _ hsm).mono fun v _ _ h=>h.trans (by rw [hTT])) rfl rfl ?_
 rintro _ w2 hS2 rfl
 cases T with
 | false =>
   (refine jJ (eI rfl) (jz (jjB (jjC (jI (eI rfl) (jc rfl rfl ?_)))));refine jz (jjJ rfl (jjB (jjC (jI (eI rfl) (jJ (eI rfl) ?_)))));refine jz (jjF ?_);refine jB rfl rfl ⟨inferInstance,?_⟩)
   exact ⟨_,rfl,fun h=>absurd h (by decide)⟩
 | true =>
 (refine jJ (eI rfl) (jz (jjB (jjC (jI (eI rfl) (jc rfl rfl ?_)))));refine jz (jjK rfl (jjG (jjB (jjB (jjC ?_)))));refine jO rfl rfl rfl rfl ?_)
 refine jjQ (Round_ref5 a c cs ha hc hs sa sc ss xa xc xs _ hsm hX) rfl rfl ?_
 rintro _ w3 hS3 ⟨b,rfl,hR⟩
 cases b with
 | false =>
   (refine jq rfl (jz (jjJ rfl (jjB (jjC (jJ (eI rfl) ?_)))));refine jz (jjF ?_);refine jB rfl rfl ⟨inferInstance,?_⟩)
   exact ⟨_,rfl,fun h=>absurd h (by decide)⟩
 | true =>
   (refine jp rfl (jz (jjK rfl (jjG (jjB (jjC ?_)))));refine jJ (eI rfl) (jz (jjF ?_));refine jB rfl rfl ⟨inferInstance,?_⟩)
   exact ⟨_,rfl,fun _=>⟨hTT,hR rfl⟩⟩
end

section rules
variable {P:Program} {ro:Option Nat} {n:Nat} {all rest:List Oper} {K:Sl→World→Prop} {s:Sl} {w:World} {d:Nat} {ty:Nat} {pos:String} {af:Array Edge}
variable {x:Operand} {t kt et:Nat} {κ:Type} {encK:κ→Value} {b:Nat} {m:List (κ×Value)}
theorem Ops.lenM (hm:MapE encK w b m) (hx:ev n s x=.map (some b)) [ht:TMap P t kt et] (h:Ops P ro n all rest K (upd s d (.int .i64 (m.length:Nat))) w) :
  Ops P ro n all (⟨some d,.call { callee:=.builtin .len,args:=#[x],argTypes:=#[t] },ty,pos,af,none⟩::rest) K s w:=by
 obtain ⟨es,c,h1,h2,h3,-⟩:=hm.h
 have e:es.size=m.length:=by have:=congrArg List.length h3;simpa using this
 exact Ops.ofRun rfl (by simp [execOp,resolve,invoke,builtin,hx,Builtin.len_,run_underlying ht.h,goInt,run_getObj_m h1,e]) h
end rules
section rules
variable {P:Program} {ro:Option Nat} {n:Nat} {all rest:List Oper} {K:Sl→World→Prop} {s:Sl} {w:World} {d:Nat} {ty:Nat} {pos:String} {af:Array Edge}
variable {x y:Operand} {t t':Nat}
theorem Ops.neqBB {p q:Bool} (hx:ev n s x=.bool p) (hy:ev n s y=.bool q) [ht:TU P t .bool] (h:Ops P ro n all rest K (upd s d (.bool (p != q))) w) :
  Ops P ro n all (⟨some d,.binOp .neq t x y t',ty,pos,af,none⟩::rest) K s w :=
 Ops.ofRun rfl (by simp [execOp,hx,hy,go_sem,binOp,run_equal_bool w t p q ht.h,bne]) h
end rules

section
variable {P:Program} {ro:Option Nat} {n:Nat} {all rest:List Oper} {K:Sl→World→Prop} {s:Sl} {w:World} {d t t':Nat} {ty:Nat} {pos:String} {af:Array Edge} {x y:Operand}
theorem Ops.neqBV {p q v:Bool} (hv:(p != q)=v) (hx:ev n s x=.bool p) (hy:ev n s y=.bool q) [ht:TU P t .bool] (h:Ops P ro n all rest K (upd s d (.bool v)) w):Ops P ro n all (⟨some d,.binOp .neq t x y t',ty,pos,af,none⟩::rest) K s w:=by
 subst hv
 exact Ops.neqBB hx hy h
end
theorem marks_keys (l:List Pl) (v:Value):(l.map fun k=>(k,v)).map (·.1)=l:=by
 rw [List.map_map];exact List.map_id l
theorem slip_cells (x:Slp):∃ y1 y2 y3,(encSl x).cells.toList=(encPl x.1).cells.toList++[y1,y2,y3]:=⟨_,_,_,rfl⟩
section
variable (a:Option Addr) (c:Nat) (cs:List Ch) (ha:Option Addr) (hc:Nat) (hs:List Hp) (sa:Option Addr) (sc:Nat) (ss:List Shr) (xa:Option Addr) (xc:Nat) (xs:List Sht) (wd side:Int) (w:World)
 [hrow:RowI w (.slice a cs.length c) true 2 (cs.map encCh)] [hT:TextI w cs] [hhs:RowI w (.slice ha hs.length hc) true 3 (hs.map encHp)] [hss:RowI w (.slice sa ss.length sc) true 4 (ss.map encShr)] [hxs:RowI w (.slice xa xs.length xc) true 2 (xs.map encSht)] [hxi:ShtI w xs]
 [hgs:At w 1 0 sidesC] [hgk:At w 2 0 kindsC] [hgc:At w 3 0 checksC] [hst:At w 0 0 stepsC]
set_option maxRecDepth 10000 in
set_option maxHeartbeats 40000000 in
theorem TopPieces_law (hd:0≤side∧side≤255):Ct Tryz.prog 3 [.agg #[.slice a cs.length c,.slice ha hs.length hc,.slice sa ss.length sc,.slice xa xs.length xc],encCut wd side] w fun v _=>v=.bool true:=by
 refine Ct.ofW (by simp) ?_
 (refine jjB (jjC ?_))
 (refine jy rfl ?_;intro b2 w_b2 hb_b2 hs_b2 hS_b2 hk_b2;have hA_b2:=At.ofBlock hk_b2)
 skip
 (refine jy rfl ?_;intro b3 w_b3 hb_b3 hs_b3 hS_b3 hk_b3;have hA_b3:=At.ofBlock hk_b3)
 have A2:At w_b3 b2 0 [.slice a cs.length c,.slice ha hs.length hc,.slice sa ss.length sc,.slice xa xs.length xc]:=(At.ofBlock hk_b2).ext hS_b3.ext
 have A3:At w_b3 b3 0 [.int .i64 wd,.int .u8 side]:=At.ofBlock hk_b3
 (refine jJ (eB rfl) (jz (jjB (jjC ?_))))
 refine jjQ (alive05d_top _) rfl rfl ?_
 rintro _ w6 hS6 rfl
 (refine jJ (eB rfl) (jz (jjB (jjB (jjC (jO rfl rfl rfl rfl ?_))))))
 refine jjQ (Great_ref5 a c cs ha hc hs sa sc ss xa xc xs _) rfl rfl ?_
 rintro _ w7 hS7 ⟨b,rfl,hb⟩
 cases b with
 | true =>
   (refine jI (eB rfl) (jU rfl rfl rfl rfl (jU rfl rfl rfl rfl (jU rfl rfl rfl rfl (jK rfl (eB rfl) (jI (eB rfl) ?_)))));refine jU rfl rfl rfl rfl (jU rfl rfl rfl rfl (jU rfl rfl rfl rfl (jK rfl (eB rfl) (jI (eB rfl) (jU rfl rfl rfl rfl ?_)))));refine jU rfl rfl rfl rfl (jK rfl (eB rfl) (jz (jjJ rfl (jjB (jjC ?_)))));refine jI (eB rfl) (jJ (eB rfl) (jz (jjF ?_)));refine jB rfl rfl ⟨inferInstance,?_⟩)
   exact rfl
 | false =>
 obtain ⟨hG,hX⟩:=hb rfl
 have hsm:=small_of_great hG
 (refine jI (eB rfl) (jT rfl rfl rfl (jO rfl rfl rfl rfl (jT rfl rfl rfl ?_))))
 refine jjQ (Check_ref5 a c cs ha hc hs sa sc ss xa xc xs _ hsm hX) rfl rfl ?_
 rintro _ w8 hS8 ⟨e,rfl,he⟩
 by_cases h0:e=0
 rotate_left
 ·(refine jT rfl rfl rfl (jjj rfl rfl (by omega) (jL rfl (eB rfl) (jI (eB rfl) (jU rfl rfl rfl rfl (jU rfl rfl rfl rfl ?_)))));refine jU rfl rfl rfl rfl (jK rfl (eB rfl) (jI (eB rfl) (jU rfl rfl rfl rfl (jU rfl rfl rfl rfl (jK rfl (eB rfl) ?_)))));refine jz (jjJ rfl (jjB (jjC (jI (eB rfl) (jJ (eB rfl) ?_)))));refine jz (jjF ?_);refine jB rfl rfl ⟨inferInstance,?_⟩)
  exact rfl
 obtain ⟨ht,hp⟩:=he h0
 subst h0
 obtain ⟨C,hC⟩:∃ C,cutB wd side=C:=⟨_,rfl⟩
 (refine jT rfl rfl rfl (jjk rfl rfl (by omega) (jL rfl (eB rfl) (jI (eB rfl) (jT rfl rfl rfl (jO rfl rfl rfl rfl ?_)))));refine jT rfl rfl rfl ?_)
 refine jjQ ((Cut_ref3 wd side hd _).mono fun v _ _ h=>h.trans (by rw [hC])) rfl rfl ?_
 rintro _ w9 hS9 rfl
 cases C with
 | false =>
   (refine jT rfl rfl rfl (jq rfl (jL rfl (eB rfl) (jI (eB rfl) (jU rfl rfl rfl rfl (jU rfl rfl rfl rfl ?_)))));refine jK rfl (eB rfl) (jz (jjJ rfl (jjB (jjC (jI (eB rfl) ?_)))));refine jJ (eB rfl) (jz (jjF ?_));refine jB rfl rfl ⟨inferInstance,?_⟩)
   exact rfl
 | true =>
 have F:=allF (wd:=wd) (side:=side) ht hC
 have hask:askE (txF cs) wd side=0:=askE_yes ht hC
 have hlk0:=lnK_len (cs:=cs) (Nat.le_refl _)
 have hlk:(lnK cs cs.length).length=(prL (txF cs) (txF cs).length).length:=by rw [txF_len];exact hlk0
 have hdf:∀ D,doubtL (txF cs) side wd D (lnK cs cs.length).length=(allS (txF cs) side wd).filter fun s=>D (lineN (txF cs) s.1):=fun D=>by
  have:=doubt_filter (txF cs) side wd D
  rw [txF_len,←hlk0] at this
  exact this
 have hne:∀ n (h:n<(lnK cs cs.length).length),0<(lnK cs cs.length)[n].2.2.length:=fun n h=>by
  obtain ⟨k,j,hpr,-,-,hw,-⟩:=line_at h
  rw [hw];exact line_pos ht hpr
 (refine jT rfl rfl rfl (jp rfl (jL rfl (eB rfl) (jI (eB rfl) (jT rfl rfl rfl (jI (eB rfl) ?_)))));refine jT rfl rfl rfl (jp rfl (jL rfl (eB rfl) (jz (jjK rfl (jjG ?_)))));refine jjB (jjC (jm (jn rfl (jO rfl rfl rfl rfl (jO rfl rfl rfl rfl ?_))))))
 refine jjQ (Ct.mono (All_slip a c cs wd side _ hsm hd) (R':=fun v w'=>∃ (sa:Option Addr) (sc:Nat),v=.tuple #[.slice sa (allS (txF cs) side wd).length sc,.int .i64 0]∧RowV w' true 6 (.slice sa (allS (txF cs) side wd).length sc) ((allS (txF cs) side wd).map encSl)) fun v w' _ h=>by
  rw [hask,allR,if_pos hask] at h
  obtain ⟨sv,hv,hO⟩:=h
  obtain ⟨la,lc,rfl⟩:=hO.slice
  rw [List.length_map] at hO hv
  exact ⟨la,lc,hv,hO.row⟩) rfl rfl ?_
 rintro _ w10 hS10 ⟨la,lc,rfl,hRS⟩
 (refine jI (eU rfl) (ju rfl rfl (ju rfl rfl (jJ (eS rfl) (jJ (eI rfl) (jz ?_)))));refine jjB (jjC (jO rfl rfl rfl rfl ?_)))
 refine jjQ (Gaps_hand a c cs ha hc hs sa sc ss xa xc xs _ hsm ht hp) rfl rfl ?_
 rintro _ w11 hS11 ⟨ga,gc,rfl,hRG⟩
 (refine jI (eU rfl) (ju rfl rfl (ju rfl rfl (jJ (eS rfl) (jJ (eI rfl) (jz ?_)))));refine jjB (jjC (jO rfl rfl rfl rfl (jO rfl rfl rfl rfl ?_))))
 refine jjQ (Ct.mono (DoubtX_hand a c cs ha hc hs sa sc ss xa xc xs wd side _ hsm ht hd hC hp) (R':=fun v w'=>∃ (al:List Int) (D:Nat→Bool) (va:Option Addr) (vc:Nat),v=.tuple #[.slice va ((allS (txF cs) side wd).filter fun s=>D (lineN (txF cs) s.1)).length vc,.int .i64 0]∧RowV w' true 6 (.slice va ((allS (txF cs) side wd).filter fun s=>D (lineN (txF cs) s.1)).length vc) (((allS (txF cs) side wd).filter fun s=>D (lineN (txF cs) s.1)).map encSl)∧∀ n,D n=leftI (lnK cs cs.length).length (goodB xs al) ss ss.length (n:Int)) fun v w' _ h=>by
  obtain ⟨al,D,va,vc,hv,hR,hD,-⟩:=h
  rw [hdf] at hv hR
  exact ⟨al,D,va,vc,hv,hR,hD⟩) rfl rfl ?_
 rintro _ w12 hS12 ⟨al,D,va,vc,rfl,hRT,hD⟩
 have hG:=fun n (h:n<(lnK cs cs.length).length)=>gap_iff (ss:=ss) h
 have zG:=gapL_len (lnK cs cs.length).length ss (lnK cs cs.length).length
 obtain ⟨G,hG'⟩:∃ G,gapL (lnK cs cs.length).length ss (lnK cs cs.length).length=G:=⟨_,rfl⟩
 rw [hG'] at hRG hG zG ⊢
 have hfT:∀ s:Slp,s∈((allS (txF cs) side wd).filter fun s=>D (lineN (txF cs) s.1))↔s∈allS (txF cs) side wd∧D (lineN (txF cs) s.1)=true:=fun s=>List.mem_filter
 have zT:=List.length_filter_le (fun s:Slp=>D (lineN (txF cs) s.1)) (allS (txF cs) side wd)
 have hTnd:(((allS (txF cs) side wd).filter fun s=>D (lineN (txF cs) s.1)).map (·.1)).Nodup:=by
  have h:=allP_nodupM (txF cs)
  rw [←allS_at (txF cs) side wd] at h
  exact List.Sublist.nodup (List.Sublist.map _ List.filter_sublist) h
 obtain ⟨T,hT'⟩:∃ T,((allS (txF cs) side wd).filter fun s=>D (lineN (txF cs) s.1))=T:=⟨_,rfl⟩
 rw [hT'] at hRT hfT zT hTnd ⊢
 have zS:=F.len
 have hS3:=allS_at (txF cs) side wd
 have B3:At w12 b3 0 [.int .i64 wd,.int .u8 side]:=inferInstance
 have B2:At w12 b2 0 [.slice a cs.length c,.slice ha hs.length hc,.slice sa ss.length sc,.slice xa xs.length xc]:=inferInstance
 have E12:Ext w w12:=inferInstance
 have RS:=hRS.ext (hS11.ext.trans hS12.ext)
 have RG:=hRG.ext hS12.ext
 have hs8:=hp.s1
 have hfew:=hp.few
 clear hS6 hS7 hS8 hS9 hS10 hS11 hS12 hRS hRG A2 A3
 (refine jI (eU rfl) (ju rfl rfl (ju rfl rfl (jJ (eS rfl) (jJ (eI rfl) (jz ?_)))));refine jjB (jjB (jjC (jI (eI rfl) (jjk rfl rfl (by omega) (jI (eB rfl) ?_)))));refine jT rfl rfl rfl (jI (eI rfl) (jT rfl rfl rfl (jjk rfl rfl (by omega) (jL rfl (eB rfl) (jI (eB rfl) ?_)))));refine jT rfl rfl rfl (jI (eI rfl) (jT rfl rfl rfl (jjk rfl rfl (by omega) (jL rfl (eB rfl) (jz ?_)))));refine jjK rfl (jjG (jjB (jjC ?_))))
 refine Ops.makeMap encPl ?_
 intro mb w13 hmb hs13 hS13 hM13
 have E13:Ext w12 w13:=hS13.ext
 (refine jJ (eM rfl) (jz (jjB (jjB (jjC (jm ?_)))));refine jn rfl (jN rfl rfl rfl (jh rfl (jI (eI rfl) (jz (jjD ?_))))))
 refine W.keep0 [(2,.pointer (some ⟨b2,0,none⟩)),(3,.pointer (some ⟨b3,0,none⟩)),(5,.bool true),(6,.slice la (allS (txF cs) side wd).length lc),(8,.slice ga G.length gc),(10,.slice va T.length vc),(12,.map (some mb)),(83,.slice sa ss.length sc),(84,.int .i64 (ss.length:Int)),(85,.int .i64 ((0:Nat):Int))] ⟨eP rfl,eP rfl,eB rfl,eS rfl,eS rfl,eS rfl,eM rfl,eS rfl,eI rfl,eI rfl,trivial⟩ fun s0=>?_
 refine W.loopG (86::87::88::14::90::91::92::93::94::95::89::96::97::98::15::16::17::100::101::102::103::104::105::99::106::107::18::19::108::109::110::111::112::113::114::115::116::117::118::119::120::121::122::123::124::125::126::127::128::129::130::131::132::133::134::135::136::137::4::138::139::140::141::142::143::21::144::145::146::147::148::149::150::151::152::85::[]) (fun g s' V=>∃ (k:Nat) (m:List (Pl×Value)),s' 85=.int .i64 (k:Int)∧g=ss.length-k∧k≤ss.length∧Ext w12 V∧MapE encPl V mb m∧∀ x:Pl,(mget m x).getD (Value.int .i64 0)=.int .i64 ((((ss.take k).flatMap (segP (txF cs))).count x:Nat):Int)) ss.length ⟨0,[],rfl,rfl,Nat.zero_le _,E13,hM13,fun x=>rfl⟩ ?_
 rintro _ sd V ⟨k,m,h85,rfl,hk,hEV,hM,hmg⟩
 refine W.fix h85 ?_
 clear h85
 have eV:Ext w V:=E12.trans hEV
 have eV':=eV.toStep
 have hEV':=hEV.toStep
 by_cases hk1:k<ss.length
 ·have sp:=hp.sp k hk1
  obtain ⟨f,hf⟩:∃ f:Nat,ss[k].1=(f:Int):=⟨ss[k].1.toNat,by omega⟩
  obtain ⟨u,hu⟩:∃ u:Nat,ss[k].2.1=(u:Int):=⟨ss[k].2.1.toNat,by omega⟩
  have hfu:f≤u:=by omega
  have hul:u<(lnK cs cs.length).length:=by omega
  have hup:u<(prL (txF cs) (txF cs).length).length:=by rw [←hlk];exact hul
  have pa:=part_at ht hfu hup
  obtain ⟨p,hpp⟩:∃ p,(allP (txF cs) (txF cs).length)[offL (txF cs) f]?=some p:=⟨_,List.getElem?_eq_getElem (by omega)⟩
  obtain ⟨q,hqq⟩:∃ p,(allP (txF cs) (txF cs).length)[offL (txF cs) (u+1)-1]?=some p:=⟨_,List.getElem?_eq_getElem (by omega)⟩
  have hps:=part_segS hask hfu hup hpp hqq
  have hsl:=segS_len (side:=side) (W:=wd) ht hfu hup
  have hsg:=fun i hi=>segS_get (side:=side) (W:=wd) ht hfu hup (i:=i) hi
  have hsa:=segS_at (side:=side) (W:=wd) hfu hup ss[k] hf hu
  (refine jjB (jjC (jjZ rfl rfl (by omega) (jz (jjB (jjJ rfl ?_)))));refine jjG (jjB (jjD (jjB (jjC ?_))));refine jF rfl rfl rfl (map_get (by omega)) ?_;intro _ _ _;refine jQ rfl rfl ?_)
  (apply jjR rfl;(intro _;first|exact eI rfl|exact eB rfl|exact eP rfl|exact eS rfl|exact eT rfl|exact eA rfl|exact eU rfl|exact eF rfl|exact eM rfl|exact eN rfl|exact rfl);exact rfl;exact rfl;exact rfl;exact rfl;intro b14 w_b14 hb_b14 hs_b14 hS_b14 hk_b14;have hA_b14:=Bk.of hk_b14)
  have A14:At w_b14 b14 0 [.int .i64 (f:Int),.int .i64 (u:Int),.int .i64 ss[k].2.2.1,.int .i64 ss[k].2.2.2]:=by rw [←hf,←hu];exact Bk.toAt (h:=hA_b14)
  (refine jz (jjB (jjC (jO rfl rfl rfl rfl (jm (jn rfl ?_)))));refine jN rfl rfl rfl (jm (jn rfl (jN rfl rfl rfl ?_))))
  refine jjQ (topEnds_top a c cs ha hc hs sa sc ss xa xc xs _ hsm ht hp hne f u hfu hul p q hpp hqq) rfl rfl ?_
  rintro _ w15 hS15 rfl
  (refine jI (eU rfl) (ju rfl rfl (ju rfl rfl (ju rfl rfl ?_))))
  ((skip);refine jjY ?_;intro b15 w_b15 hb_b15 hs_b15 hS_b15 hk_b15;have hA_b15:=Bk.of hk_b15)
  ((skip);refine jjY ?_;intro b16 w_b16 hb_b16 hs_b16 hS_b16 hk_b16;have hA_b16:=Bk.of hk_b16)
  have k15:Bk w_b16 b15 [.int .i64 0,.int .i64 0,.int .i64 0] 48:=inferInstance
  skip
  refine Ops.store rfl rfl rfl rfl rfl ?_
  intro w17 hp17
  have k15':Bk w17 b15 (encPl p).cells.toList 48:=Bk.of hp17.new
  have k16':Bk w17 b16 [.int .i64 0,.int .i64 0,.int .i64 0] 48:=hp17.bk hA_b16 (by omega)
  refine Ops.store rfl rfl rfl rfl rfl ?_
  intro w18 hp18
  have A16:At w18 b16 0 (encPl q).cells.toList:=Bk.toAt (h:=Bk.of hp18.new)
  have A15:At w18 b15 0 (encPl p).cells.toList:=hp18.at_ k15'.toAt (by omega)
  have e16:Ext V w_b16:=hS_b14.ext.trans (hS15.ext.trans (hS_b15.ext.trans hS_b16.ext))
  have zb14:=hS_b14.size
  have z15:=hS15.size
  have e18:Ext V w18:=hp18.ext (hp17.ext e16 (by omega)) (by omega)
  have e18':=e18.toStep
  have C2:At w18 b2 0 [.slice a cs.length c,.slice ha hs.length hc,.slice sa ss.length sc,.slice xa xs.length xc]:=inferInstance
  have C3:At w18 b3 0 [.int .i64 wd,.int .u8 side]:=inferInstance
  have r18:RowI w18 (.slice a cs.length c) true 2 (cs.map encCh):=inferInstance
  have t18:TextI w18 cs:=inferInstance
  have g18:At w18 1 0 sidesC:=inferInstance
  (refine jJ (eB rfl) (jz (jjB (jjC (jm (jn rfl ?_)))));refine jO rfl rfl rfl rfl (jO rfl rfl rfl rfl (jO rfl rfl rfl rfl (jO rfl rfl rfl rfl ?_))))
  refine jjQ (Ct.mono (Part_slip a c cs wd side _ p q hsm hd) (R':=fun v w'=>∃ (la:Option Addr) (lc:Nat),v=.tuple #[.slice la (segS (txF cs) side wd f u).length lc,.int .i64 0]∧RowV w' true 6 (.slice la (segS (txF cs) side wd f u).length lc) ((segS (txF cs) side wd f u).map encSl)∧∀ g,(Value.slice la (segS (txF cs) side wd f u).length lc).ownBlock=some g→w18.heap.size≤g) fun v w' _ h=>by
   obtain ⟨sv,hv,hO⟩:=h
   rw [hps] at hv hO
   obtain ⟨la,lc,rfl⟩:=hO.slice
   rw [List.length_map] at hO hv
   exact ⟨la,lc,hv,hO.row,fun g hg=>(hO.block g hg).1⟩) rfl rfl ?_
  rintro _ w19 hS19 ⟨ra,rc,rfl,hRL,hown⟩
  obtain ⟨L,hL⟩:∃ L,segS (txF cs) side wd f u=L:=⟨_,rfl⟩
  rw [hL] at hRL hsl hsg hsa hown ⊢
  have hL0:(L[0]'hsl.2.1).1=p:=by
   have:=hsg 0 hsl.2.1
   rw [Nat.add_zero,hpp] at this
   exact (Option.some.inj this).symm
  have hL1:(L[L.length-1]'(by omega)).1=q:=by
   have:=hsg (L.length-1) (by omega)
   rw [show offL (txF cs) f+(L.length-1)=offL (txF cs) (u+1)-1 by omega,hqq] at this
   exact (Option.some.inj this).symm
  have gl0:(L.map encSl)[0]?=some (encSl (L[0]'hsl.2.1)):=by rw [List.getElem?_map,List.getElem?_eq_getElem hsl.2.1];rfl
  have gl1:(L.map encSl)[L.length-1]?=some (encSl (L[L.length-1]'(by omega))):=by rw [List.getElem?_map,List.getElem?_eq_getElem (by omega)];rfl
  obtain ⟨rb,ro,rfl,-⟩:=hRL.place' gl0
  obtain ⟨y1,y2,y3,hy⟩:=slip_cells (L[0]'hsl.2.1)
  obtain ⟨v1,v2,v3,hv⟩:=slip_cells (L[L.length-1]'(by omega))
  rw [hL0] at hy
  rw [hL1] at hv
  have L0:=place_k hRL gl0
  have L1:=place_k hRL gl1
  rw [hy] at L0
  rw [hv] at L1
  have hLne:¬ (L.length:Int)=0:=by omega
  have zL:L.length≤600:=by rw [allS,List.length_map] at zS;omega
  have hLs:((L.length-1:Nat):Int)=(L.length:Int)-1:=by omega
  have M15:=A15.ext hS19.ext
  have M16:=A16.ext hS19.ext
  (refine jI (eU rfl) (ju rfl rfl (ju rfl rfl (jJ (eS rfl) (jJ (eI rfl) (jz ?_)))));refine jjB (jjB ?_))
  refine W.draw (fun w'=>Ext w19 w') ?_
  intro u1 hu1
  (refine jjV [0,1,2,3,4,5,6,7,8] ?_ ?_ ?_;(decide +kernel);(exact hu1.ext);(((refine jjT rfl (fun _ _=>jI (eB rfl) (jz ⟨rfl,rfl⟩)) (jjT rfl (fun _ _=>jp rfl (jz ⟨rfl,rfl⟩)) (jjT rfl (fun _ _=>jI (eB rfl) (jz ⟨rfl,rfl⟩)) (jjT rfl (fun _ _=>jT rfl rfl rfl (jI (eI rfl) (jz ⟨rfl,rfl⟩))) (jjT rfl (fun _ _=>jT rfl rfl rfl (jc rfl rfl (jz ⟨rfl,rfl⟩))) (jjT rfl (fun _ _=>jL rfl (eB rfl) (jz ⟨rfl,rfl⟩)) ?_)))));refine jjT rfl (fun _ _=>jI (eB rfl) (jz ⟨rfl,rfl⟩)) (jjT rfl (fun _ _=>jT rfl rfl rfl (jI (eS rfl) (jz ⟨rfl,rfl⟩))) (jjT rfl (fun _ _=>jT rfl rfl rfl (jh rfl (jz ⟨rfl,rfl⟩))) (jjU ?_)))))))
  refine jjV [9] (by decide +kernel) hu1.ext (jjT (v:=.bool false) rfl (fun w' q1=>?_) (jjU ?_));(refine jT rfl rfl rfl (jb rfl rfl ?_);rw [decide_eq_false hLne];refine jz ?_;exact ⟨rfl,rfl⟩)
  (refine jjV [10,11,12] ?_ ?_ ?_;(decide +kernel);(exact hu1.ext);(((refine jjT rfl (fun _ _=>jL rfl (eB rfl) (jz ⟨rfl,rfl⟩)) (jjT rfl (fun _ _=>jI (eB rfl) (jz ⟨rfl,rfl⟩)) (jjT rfl (fun _ _=>jT rfl rfl rfl (jI (eS rfl) (jz ⟨rfl,rfl⟩))) (jjU ?_)))))))
  refine jjV [13] (by decide +kernel) hu1.ext (jjT (v:=.pointer (some ⟨rb,ro+0 * 6,none⟩)) rfl (fun w' q1=>?_) (jjU ?_));(refine jT rfl rfl rfl ?_;refine jH 0 rfl rfl rfl (by omega) ?_;refine jz ?_;exact ⟨rfl,rfl⟩)
  (refine jjV [14] ?_ ?_ ?_;(decide +kernel);(exact hu1.ext);(((apply jjT;exact rfl;rintro w' hq;refine jT rfl rfl rfl (jm (jn rfl (jz ?_)));exact ⟨rfl,rfl⟩;refine jjU ?_))))
  refine jjV [15] (by decide +kernel) hu1.ext (jjT (v:=encPl p) rfl (fun w' q1=>?_) (jjU ?_));(refine jT rfl rfl rfl ?_;refine Ops.loadOA (off:=0) (L0.ext q1) rfl rfl rfl rfl ?_;refine jz ?_;exact ⟨rfl,rfl⟩)
  refine jjV [16] (by decide +kernel) hu1.ext (jjT (v:=encPl p) rfl (fun w' q1=>?_) (jjU ?_));(refine jT rfl rfl rfl ?_;refine Ops.loadOA (off:=0) (M15.ext q1) rfl rfl rfl rfl ?_;refine jz ?_;exact ⟨rfl,rfl⟩)
  refine jjV [17] (by decide +kernel) hu1.ext (jjT (v:=.bool false) rfl (fun w' q1=>?_) (jjU ?_));(refine jT rfl rfl rfl ?_;refine Ops.neqTN (enc:=encPl) p rfl rfl ?_;refine jz ?_;exact ⟨rfl,rfl⟩)
  (refine jjV [18,19,20,21,22] ?_ ?_ ?_;(decide +kernel);(exact hu1.ext);(((refine jjT rfl (fun _ _=>jL rfl (eB rfl) (jz ⟨rfl,rfl⟩)) (jjT rfl (fun _ _=>jI (eB rfl) (jz ⟨rfl,rfl⟩)) (jjT rfl (fun _ _=>jT rfl rfl rfl (jI (eS rfl) (jz ⟨rfl,rfl⟩))) (jjT rfl (fun _ _=>jT rfl rfl rfl (jI (eS rfl) (jz ⟨rfl,rfl⟩))) (jjT rfl (fun _ _=>jT rfl rfl rfl (jh rfl (jz ⟨rfl,rfl⟩))) (jjU ?_)))))))))
  refine jjV [23] (by decide +kernel) hu1.ext (jjT (v:=.int .i64 ((L.length-1:Nat):Int)) rfl (fun w' q1=>?_) (jjU ?_));(refine jT rfl rfl rfl (jZ rfl rfl (by omega) ?_);rw [←hLs];refine jz ?_;exact ⟨rfl,rfl⟩)
  refine jjV [24] (by decide +kernel) hu1.ext (jjT (v:=.pointer (some ⟨rb,ro+(L.length-1) * 6,none⟩)) rfl (fun w' q1=>?_) (jjU ?_));(refine jT rfl rfl rfl ?_;refine jH (L.length-1) rfl rfl rfl (by omega) ?_;refine jz ?_;exact ⟨rfl,rfl⟩)
  (refine jjV [25] ?_ ?_ ?_;(decide +kernel);(exact hu1.ext);(((apply jjT;exact rfl;rintro w' hq;refine jT rfl rfl rfl (jm (jn rfl (jz ?_)));exact ⟨rfl,rfl⟩;refine jjU ?_))))
  refine jjV [26] (by decide +kernel) hu1.ext (jjT (v:=encPl q) rfl (fun w' q1=>?_) (jjU ?_));(refine jT rfl rfl rfl ?_;refine Ops.loadOA (off:=0) (L1.ext q1) rfl rfl rfl rfl ?_;refine jz ?_;exact ⟨rfl,rfl⟩)
  refine jjV [27] (by decide +kernel) hu1.ext (jjT (v:=encPl q) rfl (fun w' q1=>?_) (jjU ?_));(refine jT rfl rfl rfl ?_;refine Ops.loadOA (off:=0) (M16.ext q1) rfl rfl rfl rfl ?_;refine jz ?_;exact ⟨rfl,rfl⟩)
  refine jjV [28] (by decide +kernel) hu1.ext (jjT (v:=.bool false) rfl (fun w' q1=>?_) (jjU ?_));(refine jT rfl rfl rfl ?_;refine Ops.neqTN (enc:=encPl) q rfl rfl ?_;refine jz ?_;exact ⟨rfl,rfl⟩)
  (refine jjV [29] ?_ ?_ ?_;(decide +kernel);(exact hu1.ext);(((refine jjT rfl (fun _ _=>jL rfl (eB rfl) (jz ⟨rfl,rfl⟩)) (jjU ?_)))))
  refine jjX (by decide +kernel) hu1.ext ?_
  have hrb:w18.heap.size≤rb:=hown rb (by simp [Value.ownBlock])
  have zmb:w12.heap.size≤mb:=by omega
  have z13:mb<V.heap.size:=hM.lt
  have z18:=e18.size
  have eu1:Ext V u1:=e18.trans (hS19.ext.trans hu1.ext)
  have hMu:=hM.ext eu1
  have RLu:=hRL.ext hu1.ext
  have eu12:Ext w12 u1:=hEV.trans eu1
  (refine jjK rfl (jjG (jjB (jjC (jI (eS rfl) (jh rfl ?_)))));refine jI (eI rfl) (jz (jjD ?_)))
  refine W.keep [(2,.pointer (some ⟨b2,0,none⟩)),(3,.pointer (some ⟨b3,0,none⟩)),(5,.bool true),(6,.slice la (allS (txF cs) side wd).length lc),(8,.slice ga G.length gc),(10,.slice va T.length vc),(12,.map (some mb)),(83,.slice sa ss.length sc),(84,.int .i64 (ss.length:Int)),(85,.int .i64 (k:Int)),(138,.slice (some ⟨rb,ro,none⟩) L.length rc),(139,.int .i64 (L.length:Int)),(140,.int .i64 ((0:Nat):Int))] (D:=(86::87::88::14::90::91::92::93::94::95::89::96::97::98::15::16::17::100::101::102::103::104::105::99::106::107::18::19::108::109::110::111::112::113::114::115::116::117::118::119::120::121::122::123::124::125::126::127::128::129::130::131::132::133::134::135::136::137::4::138::139::140::141::142::143::21::144::145::146::147::148::149::150::151::152::85::[])) (sO:=upds s0 _) (by (((iterate 62 refine Same.upd rfl ?_);exact Same.ovN))) ⟨eP rfl,eP rfl,eB rfl,eS rfl,eS rfl,eS rfl,eM rfl,eS rfl,eI rfl,eI rfl,eS rfl,eI rfl,eI rfl,trivial⟩ fun s1 hs1=>?_
  refine W.loopG (141::142::143::21::144::145::146::147::148::149::150::151::140::[]) (fun g s' U=>∃ (j:Nat) (m:List (Pl×Value)),s' 140=.int .i64 (j:Int)∧g=L.length-j∧j≤L.length∧Only mb u1 U∧MapE encPl U mb m∧∀ x:Pl,(mget m x).getD (Value.int .i64 0)=.int .i64 ((((ss.take k).flatMap (segP (txF cs))++(L.take j).map (·.1)).count x:Nat):Int)) L.length ⟨0,m,rfl,rfl,Nat.zero_le _,.ofExt (.refl _),hMu,fun x=>by rw [List.take_zero,List.map_nil,List.append_nil];exact hmg x⟩ ?_
  rintro _ sd1 U ⟨j,m',h140,rfl,hj,hOn,hM',hmj⟩
  refine W.fix h140 ?_
  clear h140
  by_cases hj1:j<L.length
  ·have iL:RowI U (.slice (some ⟨rb,ro,none⟩) L.length rc) true 6 (L.map encSl):=⟨hOn.row RLu (fun e=>by simp [Value.ownBlock] at e;omega)⟩
   obtain ⟨N,hN⟩:∃ N,((ss.take k).flatMap (segP (txF cs))++(L.take j).map (·.1)).count L[j].1=N:=⟨_,rfl⟩
   have hNb:N≤10000:=by
    rw [←hN,List.count_append,madeP_count (List.mem_of_getElem? (hsg j hj1))]
    have h1:cntI (ss.take k) (lineN (txF cs) L[j].1:Int)≤(ss.take k).length:=List.length_filter_le _ _
    have h2:((L.take j).map (·.1)).count L[j].1≤((L.take j).map (·.1)).length:=List.count_le_length
    rw [List.length_map,List.length_take] at h2
    rw [List.length_take] at h1
    omega
   have hmx:=hmj L[j].1
   rw [hN] at hmx
   (refine jjB (jjC (jjZ rfl rfl (by omega) (jz (jjB (jjJ rfl ?_)))));refine jjG (jjB (jjD (jjB (jjC ?_))));refine jF rfl rfl rfl (map_get (by omega)) ?_;intro _ _ _;refine jQ rfl rfl ?_)
   (apply jjR rfl;(intro _;first|exact eI rfl|exact eB rfl|exact eP rfl|exact eS rfl|exact eT rfl|exact eA rfl|exact eU rfl|exact eF rfl|exact eM rfl|exact eN rfl|exact rfl);exact rfl;exact rfl;exact rfl;exact rfl;intro b21 w_b21 hb_b21 hs_b21 hS_b21 hk_b21;have hA_b21:=Bk.of hk_b21)
   have A21:At w_b21 b21 0 (encSl L[j]).cells.toList:=Bk.toAt (h:=hA_b21)
   have zb21:b21≠mb:=by have:=hOn.size;have:=eu1.size;omega
   (refine jz ?_)
   refine W.draw (fun w'=>At w' b21 0 (encSl L[j]).cells.toList) ?_
   intro V1 hV1
   have s1':At V1 b21 0 (encSl L[j]).cells.toList:=A21.ext hV1.ext
   have hM1:=hM'.ext (hS_b21.ext.trans hV1.ext)
   have hOn1:Only mb u1 V1:=hOn.trans (.ofExt (hS_b21.ext.trans hV1.ext))
   (refine jjV [0,1,2] ?_ ?_ ?_;(decide +kernel);(exact s1');(((refine jjT rfl (fun _ _=>jI (eM rfl) (jz ⟨rfl,rfl⟩)) ?_;apply jjT;exact rfl;rintro w' hq;refine jm (jn rfl (jz ?_));exact ⟨rfl,rfl⟩;apply jjT;exact rfl;rintro w' hq;refine jO rfl rfl rfl rfl (jz ?_);exact ⟨rfl,rfl⟩;refine jjU ?_))))
   refine jjl 3 5 (by decide +kernel) rfl rfl s1' ?b1 ?b2
   case b1 =>
    refine Ops.lookupV (k:=L[j].1) hmx hM1 rfl rfl ?_
    refine jz ?_
    (refine jjV [4] ?_ ?_ ?_;(decide +kernel);(exact s1');(((refine jjT rfl (fun _ _=>jY rfl rfl (by omega) (jz ⟨rfl,rfl⟩)) (jjU ?_)))))
    (apply jjW 5;(decide +kernel);exact rfl;(exact s1'))
    refine Ops.mapEntry (k:=L[j].1) (encK:=encPl) hM1 rfl rfl ?_
    intro w6 o6 st hp6 hN6
    have s2:=hp6.at_ s1' zb21
    refine jz ?_
    (refine jjV [6] ?_ ?_ ?_;(decide +kernel);(exact s2);(((refine jjT rfl (fun _ _=>ju rfl rfl (jz ⟨rfl,rfl⟩)) (jjU ?_)))))
    (apply jjW 7;(decide +kernel);exact rfl;(exact s2))
    refine Ops.entryStore (v:=.int .i64 ((N:Int)+1)) hN6 rfl rfl rfl ?_
    intro V5 o5 hp5 hM5
    have s3:=hp5.at_ s2 zb21
    refine jz ?_
    refine jjX (by decide +kernel) s3 ?_
    (refine jjC (jY rfl rfl (by omega) (jI (eI rfl) (jz ?_))))
    refine ⟨rfl,by (((iterate 14 refine Same.upd rfl ?_);exact Same.ovN)),L.length-(j+1),by omega,j+1,_,congrArg (Value.int .i64) (by omega),rfl,by omega,(hOn1.trans (.ofPut hp6)).trans (.ofPut hp5),hM5,fun x=>?_⟩
    rw [take_snoc_get (List.getElem?_eq_getElem hj1),List.map_append,List.map_cons,List.map_nil,←List.append_assoc,count_snoc]
    by_cases hx:x=L[j].1
    ·subst hx
     rw [mget_set_same,if_pos rfl,hN];rfl
    ·rw [mget_set_other _ _ hx,mget_set_other _ _ hx,if_neg hx,hmj];rfl
   case b2 =>
    refine Ops.mapEntry (k:=L[j].1) (encK:=encPl) hM1 rfl rfl ?_
    intro w6 o6 st hp6 hN6
    have s2:=hp6.at_ s1' zb21
    refine jz ?_
    (refine jjV [6] ?_ ?_ ?_;(decide +kernel);(exact s2);(((refine jjT rfl (fun _ _=>ju rfl rfl (jz ⟨rfl,rfl⟩)) (jjU ?_)))))
    (apply jjW 3;(decide +kernel);exact rfl;(exact s2))
    refine Ops.lookupV (k:=L[j].1) (v:=.int .i64 (N:Int)) (by rw [mget_set_same];exact hmx) hN6.toE rfl rfl ?_
    refine jz ?_
    (refine jjV [4] ?_ ?_ ?_;(decide +kernel);(exact s2);(((refine jjT rfl (fun _ _=>jY rfl rfl (by omega) (jz ⟨rfl,rfl⟩)) (jjU ?_)))))
    (apply jjW 7;(decide +kernel);exact rfl;(exact s2))
    refine Ops.entryStore (v:=.int .i64 ((N:Int)+1)) hN6 rfl rfl rfl ?_
    intro V5 o5 hp5 hM5
    have s3:=hp5.at_ s2 zb21
    refine jz ?_
    refine jjX (by decide +kernel) s3 ?_
    (refine jjC (jY rfl rfl (by omega) (jI (eI rfl) (jz ?_))))
    refine ⟨rfl,by (((iterate 14 refine Same.upd rfl ?_);exact Same.ovN)),L.length-(j+1),by omega,j+1,_,congrArg (Value.int .i64) (by omega),rfl,by omega,(hOn1.trans (.ofPut hp6)).trans (.ofPut hp5),hM5,fun x=>?_⟩
    rw [take_snoc_get (List.getElem?_eq_getElem hj1),List.map_append,List.map_cons,List.map_nil,←List.append_assoc,count_snoc]
    by_cases hx:x=L[j].1
    ·subst hx
     rw [mget_set_same,if_pos rfl,hN];rfl
    ·rw [mget_set_other _ _ hx,mget_set_other _ _ hx,if_neg hx,hmj];rfl
  obtain rfl:j=L.length:=by omega
  rw [List.take_length,hsa] at hmj
  (refine jjB (jjC (jja rfl rfl (by omega) (jz (jjB (jjK rfl ?_)))));refine jjE (jjC (jY rfl rfl (by omega) (jI (eI rfl) (jz ?_)))))
  exact ⟨rfl,by (((iterate 4 refine Same.upd rfl ?_);refine Same.ovN' rfl ?_;assumption)),ss.length-(k+1),by omega,k+1,m',congrArg (Value.int .i64) (by omega),rfl,by omega,hOn.ext eu12 zmb,hM',fun x=>by rw [take_snoc_get (List.getElem?_eq_getElem hk1),List.flatMap_append,List.flatMap_cons,List.flatMap_nil,List.append_nil];exact hmj x⟩
 obtain rfl:k=ss.length:=by omega
 rw [List.take_length] at hmg
 have hmade:∀ x:Pl,x∈allP (txF cs) (txF cs).length→(mget m x).getD (Value.int .i64 0)=.int .i64 ((cntI ss (lineN (txF cs) x:Int):Nat):Int):=fun x hx=>by rw [hmg,madeP_count hx]
 clear hmg hk1 hk
 have VS:=RS.ext hEV
 have VG:=RG.ext hEV
 have VT:=hRT.ext hEV
 have V2:=B2.ext hEV
 have iVG:RowI V (.slice ga G.length gc) false 1 (G.map natV):=⟨VG⟩
 (refine jjB (jjC (jja rfl rfl (by omega) (jz (jjB (jjK rfl ?_)))));refine jjE (jjB (jjC ?_)))
 refine Ops.makeMap (Value.int .i64) ?_
 intro mb2 v13 hmb2 hs13b hS13b hM13b
 (refine jJ (eM rfl) (jz (jjB (jjB (jjC (jI (eS rfl) ?_)))));refine jh rfl (jI (eI rfl) (jz (jjD ?_))))
 refine W.keep0 [(2,.pointer (some ⟨b2,0,none⟩)),(5,.bool true),(6,.slice la (allS (txF cs) side wd).length lc),(10,.slice va T.length vc),(12,.map (some mb)),(22,.map (some mb2)),(154,.slice ga G.length gc),(155,.int .i64 (G.length:Int)),(156,.int .i64 ((0:Nat):Int))] ⟨eP rfl,eB rfl,eS rfl,eS rfl,eM rfl,eM rfl,eS rfl,eI rfl,eI rfl,trivial⟩ fun s2=>?_
 refine W.loopG (157::158::159::24::160::161::162::156::[]) (fun g s' U=>∃ (i:Nat) (m2:List (Int×Value)),s' 156=.int .i64 (i:Int)∧g=G.length-i∧i≤G.length∧Ext V U∧MapE (Value.int .i64) U mb2 m2∧∀ x:Int,(mget m2 x).getD (Value.bool false)=.bool (decide (x∈(G.take i).map fun n:Nat=>(n:Int)))) G.length ⟨0,[],rfl,rfl,Nat.zero_le _,hS13b.ext,hM13b,fun x=>rfl⟩ ?_
 rintro _ sd2 U ⟨i,m2,h156,rfl,hi,hEU,hM2,hm2⟩
 refine W.fix h156 ?_
 clear h156
 have hEU':=hEU.toStep
 by_cases hi1:i<G.length
 ·(refine jjB (jjC (jjZ rfl rfl (by omega) (jz (jjB (jjJ rfl ?_)))));refine jjG (jjB (jjD (jjB (jjC ?_))));refine jF rfl rfl rfl (map_get (by omega)) ?_;intro _ _ _;refine jQ rfl rfl (jJ (eI rfl) (jz (jjC (jI (eM rfl) (jI (eI rfl) ?_))))))
  refine Ops.mapUpdate (k:=(G[i]:Int)) (v:=.bool true) hM2 rfl rfl rfl ?_
  intro w5 o5 hp5 hM5
  (refine jz (jjC (jY rfl rfl (by omega) (jI (eI rfl) (jz ?_)))))
  refine ⟨rfl,by (((iterate 9 refine Same.upd rfl ?_);exact Same.ovN)),G.length-(i+1),by omega,i+1,_,congrArg (Value.int .i64) (by omega),rfl,by omega,hp5.ext hEU (by omega),hM5,fun x=>?_⟩
  rw [take_snoc_get (List.getElem?_eq_getElem hi1),List.map_append]
  by_cases ex:x=(G[i]:Int)
  ·subst ex
   rw [mget_set_same];simp
  ·rw [mget_set_other _ _ ex,hm2]
   congr 1
   simp [ex]
 obtain rfl:i=G.length:=by omega
 rw [List.take_length] at hm2
 have hin:∀ n:Nat,n<(lnK cs cs.length).length→(mget m2 (n:Int)).getD (Value.bool false)=.bool (decide (cntI ss (n:Int)=0)):=fun n h=>by
  rw [hm2,←hG n h]
  congr 1
  have:((n:Int)∈G.map fun n:Nat=>(n:Int))↔n∈G:=by
   simp only [List.mem_map]
   exact ⟨fun ⟨y,hy,e⟩=>by obtain rfl:y=n:=by omega
                           exact hy,fun h=>⟨n,h,rfl⟩⟩
  by_cases h1:n∈G
  ·rw [decide_eq_true h1,decide_eq_true (this.2 h1)]
  ·rw [decide_eq_false h1,decide_eq_false (fun h=>h1 (this.1 h))]
 clear hm2 hi1 hi
 have US:=VS.ext hEU
 have UT:=VT.ext hEU
 have U2:=V2.ext hEU
 have UM:=hM.ext hEU
 have iUT:RowI U (.slice va T.length vc) true 6 (T.map encSl):=⟨UT⟩
 (refine jjB (jjC (jja rfl rfl (by omega) (jz (jjB (jjK rfl ?_)))));refine jjE (jjB (jjC ?_)))
 refine Ops.makeMap encPl ?_
 intro mb3 v14 hmb3 hs14 hS14 hM14
 (refine jJ (eM rfl) (jz (jjB (jjB (jjC (jI (eS rfl) ?_)))));refine jh rfl (jI (eI rfl) (jz (jjD ?_))))
 refine W.keep0 [(2,.pointer (some ⟨b2,0,none⟩)),(5,.bool true),(6,.slice la (allS (txF cs) side wd).length lc),(10,.slice va T.length vc),(12,.map (some mb)),(22,.map (some mb2)),(25,.map (some mb3)),(164,.slice va T.length vc),(165,.int .i64 (T.length:Int)),(166,.int .i64 ((0:Nat):Int))] ⟨eP rfl,eB rfl,eS rfl,eS rfl,eM rfl,eM rfl,eM rfl,eS rfl,eI rfl,eI rfl,trivial⟩ fun s3=>?_
 refine W.loopG (167::168::169::27::170::171::172::173::166::[]) (fun g s' X=>∃ (i:Nat),s' 166=.int .i64 (i:Int)∧g=T.length-i∧i≤T.length∧Ext U X∧MapE encPl X mb3 (((T.take i).map (·.1)).map fun k=>(k,(.bool true:Value)))) T.length ⟨0,rfl,rfl,Nat.zero_le _,hS14.ext,hM14⟩ ?_
 rintro _ sd3 X ⟨i,h166,rfl,hi,hEX,hM3⟩
 refine W.fix h166 ?_
 clear h166
 have hEX':=hEX.toStep
 by_cases hi1:i<T.length
 ·(refine jjB (jjC (jjZ rfl rfl (by omega) (jz (jjB (jjJ rfl ?_)))));refine jjG (jjB (jjD (jjB (jjC ?_))));refine jF rfl rfl rfl (map_get (by omega)) ?_;intro _ _ _;refine jQ rfl rfl ?_)
  (apply jjR rfl;(intro _;first|exact eI rfl|exact eB rfl|exact eP rfl|exact eS rfl|exact eT rfl|exact eA rfl|exact eU rfl|exact eF rfl|exact eM rfl|exact eN rfl|exact rfl);exact rfl;exact rfl;exact rfl;exact rfl;intro b27 w_b27 hb_b27 hs_b27 hS_b27 hk_b27;have hA_b27:=Bk.of hk_b27)
  have A27:At w_b27 b27 0 (encSl T[i]).cells.toList:=Bk.toAt (h:=hA_b27)
  (refine jz (jjC (jI (eM rfl) (jm (jn rfl (jO rfl rfl rfl rfl ?_))))))
  refine Ops.mapUpdate (k:=T[i].1) (v:=.bool true) (hM3.ext hS_b27.ext) rfl rfl rfl ?_
  intro w5 o5 hp5 hM5
  have hnew:T[i].1 ∉ ((((T.take i).map (·.1)).map fun k=>(k,(.bool true:Value))).map (·.1)):=by
   have h1:=List.Sublist.nodup (List.Sublist.map (·.1) (List.take_sublist (i+1) T)) hTnd
   rw [take_snoc_get (List.getElem?_eq_getElem hi1),List.map_append,List.nodup_append] at h1
   rw [marks_keys]
   intro hm
   exact h1.2.2 _ hm _ (by simp) rfl
  rw [mset_newP hnew] at hM5
  (refine jz (jjC (jY rfl rfl (by omega) (jI (eI rfl) (jz ?_)))))
  refine ⟨rfl,by (((iterate 10 refine Same.upd rfl ?_);exact Same.ovN)),T.length-(i+1),by omega,i+1,congrArg (Value.int .i64) (by omega),rfl,by omega,hp5.ext (hEX.trans hS_b27.ext) (by omega),?_⟩
  rw [take_snoc_get (List.getElem?_eq_getElem hi1),List.map_append,List.map_append]
  exact hM5
 obtain rfl:i=T.length:=by omega
 rw [List.take_length] at hM3
 have hsome:=mget_marks (T.map (·.1))
 have XS:=US.ext hEX
 have XM:=UM.ext hEX
 have XM2:=hM2.ext hEX
 have X2:=U2.ext hEX
 have eX:Ext w X:=eV.trans (hEU.trans hEX)
 have iXS:RowI X (.slice la (allS (txF cs) side wd).length lc) true 6 ((allS (txF cs) side wd).map encSl):=⟨XS⟩
 have hTD:∀ s∈allS (txF cs) side wd,decide (s.1∈T.map (·.1))=D (lineN (txF cs) s.1):=fun s hs=>by
  cases hB:D (lineN (txF cs) s.1) with
  | true=>exact decide_eq_true (List.mem_map.2 ⟨s,(hfT s).2 ⟨hs,hB⟩,rfl⟩)
  | false =>
    refine decide_eq_false fun h=>?_
    obtain ⟨s',h1,h2⟩:=List.mem_map.1 h
    have:=((hfT s').1 h1).2
    rw [h2,hB] at this
    cases this
 have hstep:=fun {i:Nat} (hi:i<(allP (txF cs) (txF cs).length).length)=>line_step (t:=txF cs) (fun n p h=>line_pos ht h) hi
 have hSP:(allS (txF cs) side wd).length=(allP (txF cs) (txF cs).length).length:=by rw [allS,List.length_map]
 have hPi:∀ i (h:i<(allS (txF cs) side wd).length),(allP (txF cs) (txF cs).length)[i]'(by omega)=(allS (txF cs) side wd)[i].1:=fun i h=>by
  have:=F.at_ i h
  rw [List.getElem?_eq_getElem (by omega)] at this
  exact Option.some.inj this
 obtain ⟨S,hS⟩:∃ S,allS (txF cs) side wd=S:=⟨_,rfl⟩
 rw [hS] at hTD hSP zS XS iXS ⊢
 simp only [hS] at hPi
 have hSm:∀ s∈S,s∈allS (txF cs) side wd:=fun s h=>by rw [hS];exact h
 (refine jjB (jjC (jja rfl rfl (by omega) (jz (jjB (jjK rfl ?_)))));refine jjE (jjB (jjC (jJ (eI rfl) (jJ (eB rfl) (jz ?_)))));refine jjB (jjB (jjC (jI (eS rfl) (jh rfl (jI (eI rfl) ?_)))));refine jz (jjD ?_))
 refine W.keep0 [(2,.pointer (some ⟨b2,0,none⟩)),(5,.bool true),(10,.slice va T.length vc),(12,.map (some mb)),(22,.map (some mb2)),(25,.map (some mb3)),(28,.int .i64 (-1)),(29,.bool false),(174,.slice la S.length lc),(175,.int .i64 (S.length:Int)),(176,.int .i64 ((0:Nat):Int))] ⟨eP rfl,eB rfl,eS rfl,eM rfl,eM rfl,eM rfl,eI rfl,eB rfl,eS rfl,eI rfl,eI rfl,trivial⟩ fun s4=>?_
 refine W.loop (177::178::179::31::180::181::182::183::184::185::28::186::187::188::189::29::32::190::191::192::193::194::195::196::34::197::198::199::200::201::202::203::204::205::206::207::208::209::210::211::212::213::214::215::216::217::218::219::220::221::222::223::224::225::226::227::228::229::230::231::232::233::234::235::236::237::238::239::240::241::242::243::4::244::176::[]) (fun g s' Y=>∃ (i:Nat) (ln:Int) (fb:Bool),s' 176=.int .i64 (i:Int)∧s' 28=.int .i64 ln∧s' 29=.bool fb∧g=S.length-i∧i≤S.length∧(i=0→ln=-1)∧∀ (h:0<i) (hi:i≤S.length),ln=(lineN (txF cs) (S[i-1]'(by omega)).1:Int)∧fb=D (lineN (txF cs) (S[i-1]'(by omega)).1)) S.length ⟨0,_,_,rfl,rfl,rfl,rfl,Nat.zero_le _,fun _=>rfl,fun h=>by omega⟩ ?_
 rintro _ sd4 Y hSY ⟨i,ln,fb,h176,h28,h29,rfl,hi,hi0,hip⟩
 refine W.fix h176 (W.fix (d:=28) h28 (W.fix (d:=29) h29 ?_))
 clear h176 h28 h29
 have eY:=eX.trans hSY.ext
 have Y2:=X2.ext hSY.ext
 have YM:=XM.ext hSY.ext
 have YM2:=XM2.ext hSY.ext
 have YM3:=hM3.ext hSY.ext
 by_cases hi1:i<S.length
 ·have hPS:=hPi i hi1
  have hmem:S[i]∈S:=List.getElem_mem hi1
  have hmP:S[i].1∈allP (txF cs) (txF cs).length:=by rw [←hPS];exact List.getElem_mem _
  have hst1:=hstep (i:=i) (by omega)
  have hlt:=lineN_lt (t:=txF cs) (i:=i) (by omega)
  simp only [hPS] at hst1 hlt
  rw [←hlk] at hlt
  obtain ⟨n,hn⟩:∃ n,lineN (txF cs) S[i].1=n:=⟨_,rfl⟩
  have hD1:=hTD _ hmem
  have hmd:=hmade _ hmP
  rw [hn] at hst1 hlt hD1 hmd
  have hin1:=hin n hlt
  obtain ⟨B,hB⟩:∃ B,D n=B:=⟨_,rfl⟩
  rw [hB] at hD1
  have hsm1:(mget (((T.map (·.1))).map fun k=>(k,(.bool true:Value))) S[i].1).getD (.bool false)=.bool B:=by
   rw [hsome]
   exact congrArg Value.bool (by rw [←hD1];exact decide_eq_decide.2 Iff.rfl)
  (refine jjB (jjC (jjZ rfl rfl (by omega) (jz (jjB (jjJ rfl ?_)))));refine jjG (jjB (jjD (jjB (jjC ?_))));refine jF rfl rfl rfl (map_get (by omega)) ?_;intro _ _ _;refine jQ rfl rfl ?_)
  (apply jjR rfl;(intro _;first|exact eI rfl|exact eB rfl|exact eP rfl|exact eS rfl|exact eT rfl|exact eA rfl|exact eU rfl|exact eF rfl|exact eM rfl|exact eN rfl|exact rfl);exact rfl;exact rfl;exact rfl;exact rfl;intro b31 w_b31 hb_b31 hs_b31 hS_b31 hk_b31;have hA_b31:=Bk.of hk_b31)
  have A31:At w_b31 b31 0 [.int .i64 S[i].1.1,.int .i64 S[i].1.2.1,.int .i64 S[i].1.2.2,.string S[i].2.1,.string S[i].2.2.1,.string S[i].2.2.2]:=Bk.toAt (h:=hA_b31)
  have e31:Ext Y w_b31:=hS_b31.ext
  have Z2:=Y2.ext e31
  have ZM3:=YM3.ext e31
  apply join_w (177::178::179::31::180::181::182::183::184::185::28::186::187::188::189::29::32::190::191::192::193::194::195::196::34::197::198::199::200::201::202::203::204::205::206::207::208::209::210::211::212::213::214::215::216::217::218::219::220::221::222::223::224::225::226::227::228::229::230::231::232::233::234::235::236::237::238::239::240::241::242::243::4::244::176::[]) (upds s4 _) (fun _:Unit=>[(2,.pointer (some ⟨b2,0,none⟩)),(5,.bool true),(10,.slice va T.length vc),(12,.map (some mb)),(22,.map (some mb2)),(25,.map (some mb3)),(28,.int .i64 (n:Int)),(29,.bool B),(31,.pointer (some ⟨b31,0,none⟩)),(32,.int .i64 0),(174,.slice la S.length lc),(175,.int .i64 (S.length:Int)),(176,.int .i64 (i:Int)),(191,.slice sa ss.length sc),(192,.int .i64 (ss.length:Int)),(193,.int .i64 0)]) (fun _ w'=>Ext w_b31 w')
  ·intro rest
   by_cases hz:S[i].1.2.2=0
   ·have hln:ln+1=(n:Int):=by
     have h1:=hst1.1 hz
     by_cases hi0':i=0
     ·rw [if_pos hi0'] at h1
      have:=hi0 hi0';omega
     ·rw [if_neg hi0'] at h1
      have h2:=(hip (by omega) hi).1
      have h3:=hPi (i-1) (by omega)
      rw [h3] at h1
      omega
    (refine jz (jjB (jjB (jjC (jm (jn rfl ?_)))));refine jm (jn rfl (jN rfl rfl rfl (jjh rfl rfl (by omega) (jz (jjJ rfl ?_)))));refine jjB (jjC (jI (eI rfl) (jY rfl rfl (by omega) (jJ (eI rfl) (jz ?_)))));refine jjC (jI (eM rfl) (jm (jn rfl (jO rfl rfl rfl rfl ?_)))))
    refine Ops.lookupV (k:=S[i].1) (v:=.bool B) hsm1 ZM3 rfl rfl ?_
    (refine jJ (eB rfl) (jz (jjB (jjC (jJ (eI rfl) (jz ?_)))));refine jjB (jjB (jjC (jm (jn rfl (jN rfl rfl rfl ?_)))));refine jh rfl (jI (eI rfl) (jz (jjD ?_))))
    exact rest () _ _ (.refl _) (by (((iterate 24 refine Same.upd rfl ?_);exact Same.ovN))) ⟨eP rfl,eB rfl,eS rfl,eM rfl,eM rfl,eM rfl,(by exact congrArg (Value.int .i64) hln),eB rfl,eP rfl,eI rfl,eS rfl,eI rfl,eI rfl,eS rfl,eI rfl,eI rfl,trivial⟩
   ·have h1:=hst1.2 hz
    have h2:=hip h1.1 hi
    have h3:=hPi (i-1) (by omega)
    rw [h3] at h1
    have hln:ln=(n:Int):=by rw [h2.1,←h1.2]
    have hfb:fb=B:=by rw [h2.2,←h1.2,hB]
    subst hln hfb
    (refine jz (jjB (jjB (jjC (jm (jn rfl ?_)))));refine jm (jn rfl (jN rfl rfl rfl (jji rfl rfl (by omega) (jz (jjK rfl ?_)))));refine jjG (jjB (jjC (jJ (eI rfl) (jz (jjB ?_)))));refine jjB (jjC (jm (jn rfl (jN rfl rfl rfl (jh rfl ?_)))));refine jI (eI rfl) (jz (jjD ?_)))
    exact rest () _ _ (.refl _) (by (((iterate 16 refine Same.upd rfl ?_);exact Same.ovN))) ⟨eP rfl,eB rfl,eS rfl,eM rfl,eM rfl,eM rfl,eI rfl,eB rfl,eP rfl,eI rfl,eS rfl,eI rfl,eI rfl,eS rfl,eI rfl,eI rfl,trivial⟩
  rintro _ s5 w5 e5 hs5
  have e5':=e5.toStep
  have hcb:∀ k,cntI (ss.take k) (n:Int)≤8:=fun k=>by
   have h1:cntI (ss.take k) (n:Int)≤(ss.take k).length:=List.length_filter_le _ _
   rw [List.length_take] at h1
   omega
  have ew5:Ext w w5:=eY.trans (e31.trans e5)
  have ew5':=ew5.toStep
  refine W.loop (194::195::196::34::197::198::199::200::201::202::203::204::205::206::207::208::32::209::193::[]) (fun g s' Z=>∃ (k:Nat),s' 193=.int .i64 (k:Int)∧s' 32=.int .i64 ((cntI (ss.take k) (n:Int):Nat):Int)∧g=ss.length-k∧k≤ss.length) ss.length ⟨0,rfl,rfl,rfl,Nat.zero_le _⟩ ?_
  rintro _ sd6 Z hSZ ⟨k,h193,h32,rfl,hk⟩
  refine W.fix h193 (W.fix (d:=32) h32 ?_)
  clear h193 h32
  have hcb1:=hcb k
  have eZ:=ew5.trans hSZ.ext
  have eZ':=eZ.toStep
  by_cases hk1:k<ss.length
  ·have hcs:=cntI_snoc hk1 (n:Int)
   (refine jjB (jjC (jjZ rfl rfl (by omega) (jz (jjB (jjJ rfl ?_)))));refine jjG (jjB (jjD (jjB (jjC ?_))));refine jF rfl rfl rfl (map_get (by omega)) ?_;intro _ _ _;refine jQ rfl rfl ?_)
   (apply jjR rfl;(intro _;first|exact eI rfl|exact eB rfl|exact eP rfl|exact eS rfl|exact eT rfl|exact eA rfl|exact eU rfl|exact eF rfl|exact eM rfl|exact eN rfl|exact rfl);exact rfl;exact rfl;exact rfl;exact rfl;intro b34 w_b34 hb_b34 hs_b34 hS_b34 hk_b34;have hA_b34:=Bk.of hk_b34)
   have A34:At w_b34 b34 0 [.int .i64 ss[k].1,.int .i64 ss[k].2.1,.int .i64 ss[k].2.2.1,.int .i64 ss[k].2.2.2]:=Bk.toAt (h:=hA_b34)
   by_cases c1:ss[k].1≤(n:Int)
   ·by_cases c2:(n:Int)≤ss[k].2.1
    ·rw [if_pos ⟨c1,c2⟩] at hcs
     (refine jz (jjB (jjC (jI (eI rfl) (jm (jn rfl ?_)))));refine jN rfl rfl rfl (jjf rfl rfl (by omega) (jI (eB rfl) (jT rfl rfl rfl (jI (eI rfl) (jT rfl rfl rfl ?_)))));refine jm (jn rfl (jT rfl rfl rfl (jN rfl rfl rfl (jT rfl rfl rfl (jjb rfl rfl (by omega) ?_)))));refine jK rfl (eB rfl) (jz (jjJ rfl (jjC (jI (eI rfl) (jY rfl rfl (by omega) ?_)))));refine jJ (eI rfl) (jz (jjC (jY rfl rfl (by omega) (jI (eI rfl) (jz ?_))))))
     exact ⟨rfl,by (((iterate 21 refine Same.upd rfl ?_);exact Same.ovN)),ss.length-(k+1),by omega,hSZ.ext.trans hS_b34.ext,k+1,congrArg (Value.int .i64) (by omega),congrArg (Value.int .i64) (by omega),rfl,by omega⟩
    ·rw [if_neg (fun h=>c2 h.2)] at hcs
     (refine jz (jjB (jjC (jI (eI rfl) (jm (jn rfl ?_)))));refine jN rfl rfl rfl (jjf rfl rfl (by omega) (jI (eB rfl) (jT rfl rfl rfl (jI (eI rfl) (jT rfl rfl rfl ?_)))));refine jm (jn rfl (jT rfl rfl rfl (jN rfl rfl rfl (jT rfl rfl rfl (jjc rfl rfl (by omega) ?_)))));refine jK rfl (eB rfl) (jz (jjK rfl (jjG (jjC (jY rfl rfl (by omega) ?_)))));refine jI (eI rfl) (jz ?_))
     exact ⟨rfl,by (((iterate 18 refine Same.upd rfl ?_);exact Same.ovN)),ss.length-(k+1),by omega,hSZ.ext.trans hS_b34.ext,k+1,congrArg (Value.int .i64) (by omega),congrArg (Value.int .i64) (by omega),rfl,by omega⟩
   ·rw [if_neg (fun h=>c1 h.1)] at hcs
    (refine jz (jjB (jjC (jI (eI rfl) (jm (jn rfl ?_)))));refine jN rfl rfl rfl (jjg rfl rfl (by omega) (jI (eB rfl) (jU rfl rfl rfl rfl (jU rfl rfl rfl rfl (jU rfl rfl rfl rfl ?_)))));refine jU rfl rfl rfl rfl (jL rfl (eB rfl) (jz (jjK rfl (jjG (jjC ?_)))));refine jY rfl rfl (by omega) (jI (eI rfl) (jz ?_)))
    exact ⟨rfl,by (((iterate 18 refine Same.upd rfl ?_);exact Same.ovN)),ss.length-(k+1),by omega,hSZ.ext.trans hS_b34.ext,k+1,congrArg (Value.int .i64) (by omega),congrArg (Value.int .i64) (by omega),rfl,by omega⟩
  obtain rfl:k=ss.length:=by omega
  rw [List.take_length] at hcb1 ⊢
  have eYZ:Ext Y Z:=e31.trans (e5.trans hSZ.ext)
  have ZM:=YM.ext eYZ
  have ZM2:=YM2.ext eYZ
  have ZM3:=YM3.ext eYZ
  have A31Z:=A31.ext (e5.trans hSZ.ext)
  have hDl:cntI ss (n:Int)=0→B=true:=fun h=>by
   rw [←hB,hD]
   exact left_mono (by rw [left_cnt ss hlt];exact decide_eq_true h)
  obtain ⟨N,hN⟩:∃ N,cntI ss (n:Int)=N:=⟨_,rfl⟩
  rw [hN] at hmd hin1 hDl hcb1 ⊢
  (refine jjB (jjC (jja rfl rfl (by omega) (jz (jjB (jjK rfl ?_)))));refine jjE (jjB (jjC (jI (eM rfl) (jm (jn rfl ?_)))));refine jO rfl rfl rfl rfl ?_)
  refine Ops.lookupV (k:=S[i].1) (v:=.int .i64 (N:Int)) hmd ZM rfl rfl ?_
  (refine jI (eI rfl) (jjk rfl rfl (by omega) (jI (eB rfl) (jT rfl rfl rfl (jI (eM rfl) (jT rfl rfl rfl ?_)))));refine jI (eI rfl) (jT rfl rfl rfl ?_))
  by_cases h0:N=0
  ·have hBt:=hDl h0
   subst hBt h0
   refine Ops.lookupV (k:=(n:Int)) (v:=.bool true) (by rw [hin1];rfl) ZM2 rfl rfl ?_
   (refine jT rfl rfl rfl (jI (eI rfl) (jT rfl rfl rfl (jjh rfl rfl (by omega) (jT rfl rfl rfl ?_)))))
   refine Ops.neqBV (v:=false) (p:=true) (q:=true) rfl rfl rfl ?_
   (refine jL rfl (eB rfl) (jI (eB rfl) (jT rfl rfl rfl (jI (eM rfl) (jT rfl rfl rfl (jI (eI rfl) ?_)))));refine jT rfl rfl rfl ?_)
   refine Ops.lookupV (k:=(n:Int)) (v:=.bool true) (by rw [hin1];rfl) ZM2 rfl rfl ?_
   (refine jT rfl rfl rfl (jI (eB rfl) (jT rfl rfl rfl (jI (eM rfl) (jT rfl rfl rfl (jm ?_)))));refine jn rfl (jT rfl rfl rfl (jO rfl rfl rfl rfl (jT rfl rfl rfl ?_))))
   refine Ops.lookupV (k:=S[i].1) (v:=.bool true) hsm1 ZM3 rfl rfl ?_
   (refine jT rfl rfl rfl (jp rfl (jT rfl rfl rfl (jK rfl (eB rfl) (jL rfl (eB rfl) (jI (eB rfl) ?_)))));refine jT rfl rfl rfl (jI (eM rfl) (jT rfl rfl rfl (jm (jn rfl (jT rfl rfl rfl ?_)))));refine jO rfl rfl rfl rfl (jT rfl rfl rfl ?_))
   refine Ops.lookupV (k:=S[i].1) (v:=.bool true) hsm1 ZM3 rfl rfl ?_
   (refine jT rfl rfl rfl (jI (eB rfl) (jT rfl rfl rfl ?_)))
   refine Ops.neqBV (v:=false) (p:=true) (q:=true) rfl rfl rfl ?_
   (refine jL rfl (eB rfl) (jz (jjK rfl (jjG (jjC (jY rfl rfl (by omega) ?_)))));refine jI (eI rfl) (jz ?_))
   exact ⟨rfl,by (((iterate 39 refine Same.upd rfl ?_);refine Same.ovN' rfl ?_;assumption)),S.length-(i+1),by omega,hSY.ext.trans eYZ,i+1,(n:Int),true,congrArg (Value.int .i64) (by omega),rfl,rfl,rfl,by omega,fun h=>by omega,fun _ _=>⟨by simp only [Nat.add_sub_cancel];rw [hn],by simp only [Nat.add_sub_cancel];rw [hn,hB]⟩⟩
  ·refine Ops.lookupV (k:=(n:Int)) (v:=.bool false) (by rw [hin1,decide_eq_false h0]) ZM2 rfl rfl ?_
   have h0':¬ (N:Int)=0:=by omega
   (refine jT rfl rfl rfl (jI (eI rfl) (jT rfl rfl rfl (jji rfl rfl (by omega) (jT rfl rfl rfl ?_)))))
   refine Ops.neqBV (v:=false) (p:=false) (q:=false) rfl rfl rfl ?_
   (refine jL rfl (eB rfl) (jI (eB rfl) (jT rfl rfl rfl (jI (eM rfl) (jT rfl rfl rfl (jI (eI rfl) ?_)))));refine jT rfl rfl rfl ?_)
   refine Ops.lookupV (k:=(n:Int)) (v:=.bool false) (by rw [hin1,decide_eq_false h0]) ZM2 rfl rfl ?_
   (refine jT rfl rfl rfl (jI (eB rfl) (jU rfl rfl rfl rfl (jU rfl rfl rfl rfl (jU rfl rfl rfl rfl (jU rfl rfl rfl rfl ?_)))));refine jU rfl rfl rfl rfl (jT rfl rfl rfl (jL rfl (eB rfl) (jL rfl (eB rfl) (jI (eB rfl) (jT rfl rfl rfl ?_)))));refine jI (eM rfl) (jT rfl rfl rfl (jm (jn rfl (jT rfl rfl rfl (jO rfl rfl rfl rfl ?_)))));refine jT rfl rfl rfl ?_)
   refine Ops.lookupV (k:=S[i].1) (v:=.bool B) hsm1 ZM3 rfl rfl ?_
   (refine jT rfl rfl rfl (jI (eB rfl) (jT rfl rfl rfl ?_)))
   refine Ops.neqBV (v:=false) (p:=B) (q:=B) (by simp) rfl rfl ?_
   (refine jL rfl (eB rfl) (jz (jjK rfl (jjG (jjC (jY rfl rfl (by omega) ?_)))));refine jI (eI rfl) (jz ?_))
   exact ⟨rfl,by (((iterate 39 refine Same.upd rfl ?_);refine Same.ovN' rfl ?_;assumption)),S.length-(i+1),by omega,hSY.ext.trans eYZ,i+1,(n:Int),B,congrArg (Value.int .i64) (by omega),rfl,rfl,rfl,by omega,fun h=>by omega,fun _ _=>⟨by simp only [Nat.add_sub_cancel];rw [hn],by simp only [Nat.add_sub_cancel];rw [hn,hB]⟩⟩
 obtain rfl:i=S.length:=by omega
 have hml:(((T.map (·.1)).map fun k=>(k,(.bool true:Value)))).length=T.length:=by rw [List.length_map,List.length_map]
 obtain ⟨m3,hm3⟩:∃ m3,((T.map (·.1)).map fun k=>(k,(.bool true:Value)))=m3:=⟨_,rfl⟩
 rw [hm3] at hml YM3
 have iY:RowI Y (.slice a cs.length c) true 2 (cs.map encCh):=inferInstance
 have jY:TextI Y cs:=inferInstance
 (refine jjB (jjC (jja rfl rfl (by omega) (jz (jjB (jjK rfl ?_)))));refine jjE (jjB (jjC (jI (eB rfl) (jI (eB rfl) (jT rfl rfl rfl ?_)))));refine jI (eM rfl) (jT rfl rfl rfl ?_))
 refine Ops.lenM YM3 rfl ?_
 have hml':(m3.length:Int)=(T.length:Int):=by omega
 rw [hml']
 (refine jT rfl rfl rfl (jI (eS rfl) (jT rfl rfl rfl (jh rfl (jT rfl rfl rfl (jjh rfl rfl (by omega) ?_)))));refine jK rfl (eB rfl) (jI (eB rfl) (jT rfl rfl rfl (jm (jn rfl (jT rfl rfl rfl ?_)))));refine jO rfl rfl rfl rfl (jT rfl rfl rfl ?_))
 refine jjQ ((Text_ref1 a c cs _ hsm).mono fun v _ _ h=>h.trans (by rw [ht])) rfl rfl ?_
 rintro _ w20 hS20 rfl
 (refine jK rfl (eB rfl) (jJ (eB rfl) (jz (jjF ?_)));refine jB rfl rfl ⟨inferInstance,?_⟩)
 exact rfl
end
end Go.Proofs.YtbafmbpmiiplkaaGreatDoor
