/- Texts of the proof, part 7: Ch3, Lg3, Ch4, Ch5, Ch6, PlH, PlI, Lr1, Tr4, Tq2, Al5, PcP, HdI, PcM, PcN, Lg1, Eng29, Lg2, Pt1, Rf5, Rf6. -/
import Derived.Test.YtbafmbpmiiplkaaGreatDoorTP6
namespace Go.Proofs.YtbafmbpmiiplkaaGreatDoor
open Go.RowKit

theorem fin4 {P:Program} {fn:Func} {n t u v x:Nat} {R:Value→World→Prop} {s:Sl} {w:World} (hf:fn.results=#[.tmp t,.tmp u,.tmp v,.tmp x]) (ht:Nat.blt t n=true) (hu:Nat.blt u n=true) (hv:Nat.blt v n=true) (hx:Nat.blt x n=true) (h:R (.tuple #[s t,s u,s v,s x]) w):finR P fn n R s [] w:=by
 unfold finR
 refine ⟨rfl,_,?_,h⟩
 have e1:(mkA n s []).tmps[t]?.getD undef=s t:=by
  rw [mkA_getElem?,if_pos (by simpa using ht)];rfl
 have e2:(mkA n s []).tmps[u]?.getD undef=s u:=by
  rw [mkA_getElem?,if_pos (by simpa using hu)];rfl
 have e3:(mkA n s []).tmps[v]?.getD undef=s v:=by
  rw [mkA_getElem?,if_pos (by simpa using hv)];rfl
 have e4:(mkA n s []).tmps[x]?.getD undef=s x:=by
  rw [mkA_getElem?,if_pos (by simpa using hx)];rfl
 simp [results,hf,e1,e2,e3,e4]
structure OpI (w U:World) (a:Option Addr) (c:Nat) (ea:Option Addr) (ec:Nat) (b2 b3 m1 m2 bk:Nat) (L1 L2:List ((Int×Int)×Value)):Prop where
 e:Ext w U
 a2:At U b2 0 [.slice a 1 c]
 a3:At U b3 0 [.int .i64 1,.slice ea 1 ec]
 ak:At U bk 0 [.int .i64 1,.slice ea 1 ec,.slice a 1 c,.map (some m1),.map (some m2)]
 p1:MapE encII U m1 L1
 p2:MapE encII U m2 L2
 lt:w.heap.size≤b2∧b2<b3∧b3<m1∧m1<m2∧m2<bk
theorem OpI.ext {w U V:World} {a:Option Addr} {c:Nat} {ea:Option Addr} {ec b2 b3 m1 m2 bk:Nat} {L1 L2:List ((Int×Int)×Value)} (h:OpI w U a c ea ec b2 b3 m1 m2 bk L1 L2) (e:Ext U V):OpI w V a c ea ec b2 b3 m1 m2 bk L1 L2 :=
 ⟨h.e.trans e,h.a2.ext e,h.a3.ext e,h.ak.ext e,h.p1.ext e,h.p2.ext e,h.lt⟩
theorem OpI.put1 {w U V:World} {a:Option Addr} {c:Nat} {ea:Option Addr} {ec b2 b3 m1 m2 bk:Nat} {L1 L2 L:List ((Int×Int)×Value)} {o:Obj} (h:OpI w U a c ea ec b2 b3 m1 m2 bk L1 L2) (p:PutO U V m1 o) (hM:MapE encII V m1 L):OpI w V a c ea ec b2 b3 m1 m2 bk L L2:=by
 have hl:=h.lt
 exact ⟨p.ext h.e (by omega),p.at_ h.a2 (by omega),p.at_ h.a3 (by omega),p.at_ h.ak (by omega),hM,h.p2.put p (by omega),hl⟩
theorem OpI.put2 {w U V:World} {a:Option Addr} {c:Nat} {ea:Option Addr} {ec b2 b3 m1 m2 bk:Nat} {L1 L2 L:List ((Int×Int)×Value)} {o:Obj} (h:OpI w U a c ea ec b2 b3 m1 m2 bk L1 L2) (p:PutO U V m2 o) (hM:MapE encII V m2 L):OpI w V a c ea ec b2 b3 m1 m2 bk L1 L:=by
 have hl:=h.lt
 exact ⟨p.ext h.e (by omega),p.at_ h.a2 (by omega),p.at_ h.a3 (by omega),p.at_ h.ak (by omega),h.p1.put p (by omega),hM,hl⟩
section
variable (a:Option Addr) (c:Nat) (w:World)
set_option maxHeartbeats 8000000 in
theorem opened_chart (ea:Option Addr) (ec:Nat) [hE:RowI w (.slice ea 1 ec) true 5 ([tqS].map encSt)]:Ct Tryz.prog 134 [.agg #[.slice a 1 c],.agg #[.int .i64 1,.slice ea 1 ec]] w fun v w'=>∃ b2 b3 m1 m2 bk,v=.tuple #[.pointer (some ⟨bk,0,none⟩),.int .i64 1,.int .i64 0,.bool false]∧OpI w w' a c ea ec b2 b3 m1 m2 bk [((0,1),encII (4,7))] [((4,7),encII (0,1))]:=by
 have hcap:=hE.h.cap
 refine Ct.ofW (by simp) ?_
 (refine jjB (jjC ?_))
 (refine jy rfl ?_;intro b2 w_b2 hb_b2 hs_b2 hS_b2 hk_b2;have hA_b2:=At.ofBlock hk_b2)
 skip
 (refine jy rfl ?_;intro b3 w_b3 hb_b3 hs_b3 hS_b3 hk_b3;have hA_b3:=At.ofBlock hk_b3)
 have A2:At w_b3 b2 0 [.slice a 1 c]:=(At.ofBlock hk_b2).ext hS_b3.ext
 have A3:At w_b3 b3 0 [.int .i64 1,.slice ea 1 ec]:=At.ofBlock hk_b3
 (refine jJ (eN rfl) (jJ (eI rfl) (jJ (eI rfl) (jJ (eB rfl) (jz (jjH ?_)))));refine jjB (jjC (jO rfl rfl rfl rfl (jO rfl rfl rfl rfl ?_))))
 refine Ops.makeMap encII ?_
 intro m1 w5 hm1 hs5 hS5 hM1
 skip
 refine Ops.makeMap encII ?_
 intro m2 w6 hm2 hs6 hS6 hM2
 skip
 (refine jjS (cells:=[.int .i64 1,.slice ea 1 ec,.slice a 1 c,.map (some m1),.map (some m2)]) ?_ ?_;exact rfl)
 (refine jy rfl ?_;intro bk w_bk hb_bk hs_bk hS_bk hk_bk;have hA_bk:=At.ofBlock hk_bk)
 have hI:OpI w w_bk a c ea ec b2 b3 m1 m2 bk [] []:=⟨inferInstance,A2.ext (hS5.ext.trans (hS6.ext.trans hS_bk.ext)),A3.ext (hS5.ext.trans (hS6.ext.trans hS_bk.ext)),At.ofBlock hk_bk,(hM1.ext hS6.ext).ext hS_bk.ext,hM2.ext hS_bk.ext,by omega⟩
 have A3k:=hI.a3
 (refine jJ (eP rfl) (jz (jjB (jjC (jm (jn rfl ?_)))));refine jN rfl rfl rfl (jh rfl (jJ (eI rfl) (jz (jjB (jjI ?_)))));refine jjB (jjB (jjC (jm (jn rfl (jN rfl rfl rfl ?_)))));refine jh rfl (jI (eI rfl) (jz (jjD ?_))))
 refine W.keep0 [(2,.pointer (some ⟨b2,0,none⟩)),(3,.pointer (some ⟨b3,0,none⟩)),(4,.pointer (some ⟨bk,0,none⟩)),(5,.int .i64 1),(6,.int .i64 0),(7,.bool false),(29,.slice ea 1 ec),(30,.int .i64 1),(31,.int .i64 ((0:Nat):Int))] ⟨eP rfl,eP rfl,eP rfl,eI rfl,eI rfl,eB rfl,eS rfl,eI rfl,eI rfl,trivial⟩ fun s0=>?_
 clear A2 A3 A3k hM1 hM2 hk_b2 hk_b3 hk_bk
 refine W.loopG (32::33::34::35::9::8::36::37::38::39::40::41::42::43::10::44::45::46::47::48::49::50::51::52::53::54::55::56::57::11::12::59::60::61::62::63::64::58::65::66::13::14::67::68::69::70::71::72::73::74::76::77::78::79::80::81::75::82::83::15::16::84::85::86::87::88::89::90::91::92::93::94::95::96::97::98::99::100::101::102::18::17::103::104::105::106::107::108::109::110::111::112::113::114::115::116::117::5::6::7::118::119::31::[]) (fun g s' V=>∃ k:Nat,s' 31=.int .i64 ((k:Nat):Int)∧s' 5=.int .i64 1∧s' 6=.int .i64 0∧s' 7=.bool false∧g=1-k∧k≤1∧(k=0→OpI w V a c ea ec b2 b3 m1 m2 bk [] [])∧(k=1→OpI w V a c ea ec b2 b3 m1 m2 bk [((0,1),encII (4,7))] [((4,7),encII (0,1))])) 1 ⟨0,rfl,rfl,rfl,rfl,rfl,Nat.zero_le _,fun _=>hI,fun h=>by omega⟩ ?_
 rintro _ sd V ⟨k,h31,h5,h6,h7,rfl,hk,i0,i1⟩
 refine W.fix h31 (W.fix (d:=5) h5 (W.fix (d:=6) h6 (W.fix (d:=7) h7 ?_)))
 clear h31 h5 h6 h7 hI
 by_cases hk1:k<1
 rotate_left
 ·obtain rfl:k=1:=by omega
  (refine jjB (jjC (jja rfl rfl (by omega) (jz (jjB (jjK rfl ?_)))));refine jjE (jjB (jjC (jI (eP rfl) (jI (eI rfl) (jI (eI rfl) ?_)))));refine jI (eB rfl) (jJ (eP rfl) (jJ (eI rfl) (jJ (eI rfl) (jJ (eB rfl) (jz ?_)))));refine jjF ?_)
  exact fin4 rfl rfl rfl rfl rfl ⟨(i1 rfl).e,b2,b3,m1,m2,bk,rfl,i1 rfl⟩
 obtain rfl:k=0:=by omega
 have I0:=i0 rfl
 clear i0 i1
 have e0:(([tqS].map encSt))[0]?=some (encSt tqS):=rfl
 have hEV:RowI V (.slice ea 1 ec) true 5 ([tqS].map encSt):=⟨hE.h.ext I0.e⟩
 have hlt:=I0.lt
 have zV:=I0.ak.lt
 have A3V:=I0.a3
 (refine jjB (jjC (jjZ rfl rfl (by omega) (jz (jjB (jjJ rfl ?_)))));refine jjG (jjB (jjD (jjB (jjC (jI (eI rfl) ?_)))));refine jF rfl rfl rfl (map_get (by omega)) ?_;intro _ _ _;refine jQ rfl rfl ?_)
 ((skip);refine jjY ?_;intro b9 w_b9 hb_b9 hs_b9 hS_b9 hk_b9;have hA_b9:=Bk.of hk_b9)
 (apply jJ;exact eI rfl)
 refine Ops.store rfl rfl rfl rfl rfl ?_
 intro V2 hp2
 have e2:Ext V V2:=hp2.ext hS_b9.ext (by omega)
 have A9:At V2 b9 0 [.int .i64 0,.int .i64 1,.int .i64 2,.int .i64 4,.int .i64 7]:=Bk.toAt (h:=Bk.of hp2.new)
 have z9:V.heap.size≤b9:=by omega
 have J0:=I0.ext e2
 (refine jz (jjB (jjB (jjC (jm (jn rfl ?_)))));refine jN rfl rfl rfl (jm (jn rfl (jN rfl rfl rfl (jZ rfl rfl (by omega) (jI (eI rfl) ?_)))));refine jz (jjD ?_))
 refine W.keep [(2,.pointer (some ⟨b2,0,none⟩)),(3,.pointer (some ⟨b3,0,none⟩)),(4,.pointer (some ⟨bk,0,none⟩)),(5,.int .i64 1),(6,.int .i64 0),(7,.bool false),(8,.int .i64 0),(9,.pointer (some ⟨b9,0,none⟩)),(29,.slice ea 1 ec),(30,.int .i64 1),(31,.int .i64 0),(40,.int .i64 1),(41,.int .i64 ((0:Nat):Int))] (D:=(32::33::34::35::9::8::36::37::38::39::40::41::42::43::10::44::45::46::47::48::49::50::51::52::53::54::55::56::57::11::12::59::60::61::62::63::64::58::65::66::13::14::67::68::69::70::71::72::73::74::76::77::78::79::80::81::75::82::83::15::16::84::85::86::87::88::89::90::91::92::93::94::95::96::97::98::99::100::101::102::18::17::103::104::105::106::107::108::109::110::111::112::113::114::115::116::117::5::6::7::118::119::31::[])) (sO:=upds s0 _) (by (((iterate 16 refine Same.upd rfl ?_);exact Same.ovN))) ⟨eP rfl,eP rfl,eP rfl,eI rfl,eI rfl,eB rfl,eI rfl,eP rfl,eS rfl,eI rfl,eI rfl,eI rfl,eI rfl,trivial⟩ fun s1 hs1=>?_
 refine W.loopG (42::43::10::44::45::46::47::48::49::50::51::52::53::54::55::56::57::11::12::59::60::61::62::63::64::58::65::66::13::14::67::68::69::70::71::72::73::74::76::77::78::79::80::81::75::82::83::15::16::84::85::86::87::88::89::90::91::92::41::[]) (fun g s' U=>∃ k:Nat,s' 41=.int .i64 ((k:Nat):Int)∧g=1-k∧k≤1∧At U b9 0 [.int .i64 0,.int .i64 1,.int .i64 2,.int .i64 4,.int .i64 7]∧(k=0→OpI w U a c ea ec b2 b3 m1 m2 bk [] [])∧(k=1→OpI w U a c ea ec b2 b3 m1 m2 bk [((0,1),encII (4,7))] [((4,7),encII (0,1))])) 1 ⟨0,rfl,rfl,Nat.zero_le _,A9,fun _=>J0,fun h=>by omega⟩ ?_
 rintro _ sd' U ⟨i,h41,rfl,hi,B9,i0,i1⟩
 refine W.fix h41 ?_
 clear h41 J0 I0
 by_cases hi1:i<1
 rotate_left
 ·obtain rfl:i=1:=by omega
  have I1:=i1 rfl
  have A3U:=I1.a3
  (refine jjB (jjC (jja rfl rfl (by omega) (jz (jjB (jjK rfl ?_)))));refine jjE (jjB (jjC (jm (jn rfl (jN rfl rfl rfl ?_)))));refine jI (eI rfl) ?_)
  refine Ops.sliceXHv (hi:=0) rfl rfl rfl (by omega) (by omega) ?_
  (refine jh rfl (jI (eI rfl) (jz (jjD ?_))))
  refine W.loop (99::100::101::102::18::17::103::104::105::106::107::108::109::110::111::112::113::114::115::116::117::5::6::7::118::98::[]) (fun g s' _=>s' 98=.int .i64 ((0:Nat):Int)∧s' 5=.int .i64 1∧s' 6=.int .i64 0∧s' 7=.bool false∧g=0) 0 ⟨rfl,rfl,rfl,rfl,rfl⟩ ?_
  rintro _ sd3 U3 hU3 ⟨h98,h5,h6,h7,rfl⟩
  refine W.fix h98 (W.fix (d:=5) h5 (W.fix (d:=6) h6 (W.fix (d:=7) h7 ?_)))
  clear h98 h5 h6 h7
  (refine jjB (jjC (jja rfl rfl (by omega) (jz (jjB (jjK rfl ?_)))));refine jjE (jjC (jY rfl rfl (by omega) (jI (eI rfl) (jz ?_)))))
  exact ⟨rfl,by (((iterate 7 refine Same.upd rfl ?_);refine Same.ovN' rfl ?_;(iterate 8 refine Same.upd rfl ?_);refine Same.ovN' rfl ?_;assumption)),1-1,by omega,1,rfl,rfl,rfl,rfl,rfl,by omega,fun h=>by omega,fun _=>I1.ext hU3.ext⟩
 obtain rfl:i=0:=by omega
 have I0:=i0 rfl
 clear i0 i1
 have hlt:=I0.lt
 have zU:=I0.ak.lt
 have zB9:=B9.lt
 (refine jjB (jjC (jjZ rfl rfl (by omega) (jz (jjB (jjJ rfl ?_)))));refine jjG (jjB (jjD (jjB (jjC (jI (eI rfl) ?_)))));refine jJ (eI rfl) (jz (jjB ?_)))
 refine W.draw (fun w'=>Ext U w') ?_
 intro u1 hu1
 refine AnyS.mono (K':=fun s w'=>AllEq s [(2,.pointer (some ⟨b2,0,none⟩)),(3,.pointer (some ⟨b3,0,none⟩)),(4,.pointer (some ⟨bk,0,none⟩)),(5,.int .i64 1),(6,.int .i64 0),(7,.bool false),(8,.int .i64 0),(9,.pointer (some ⟨b9,0,none⟩)),(10,.int .i64 0),(29,.slice ea 1 ec),(30,.int .i64 1),(31,.int .i64 0),(40,.int .i64 1),(41,.int .i64 0)]∧Same (42::43::10::44::45::46::47::48::49::50::51::52::53::54::55::56::57::11::12::59::60::61::62::63::64::58::65::66::13::14::67::68::69::70::71::72::73::74::76::77::78::79::80::81::75::82::83::15::16::84::85::86::87::88::89::90::91::92::41::[]) (upds s1 [(2,.pointer (some ⟨b2,0,none⟩)),(3,.pointer (some ⟨b3,0,none⟩)),(4,.pointer (some ⟨bk,0,none⟩)),(5,.int .i64 1),(6,.int .i64 0),(7,.bool false),(8,.int .i64 0),(9,.pointer (some ⟨b9,0,none⟩)),(29,.slice ea 1 ec),(30,.int .i64 1),(31,.int .i64 0),(40,.int .i64 1),(41,.int .i64 ((0:Nat):Int))]) s∧∃ b11 b12,s 11=.pointer (some ⟨b11,0,none⟩)∧s 12=.pointer (some ⟨b12,0,none⟩)∧At w' b11 0 [.int .i64 0,.int .i64 1]∧At w' b12 0 [.int .i64 4,.int .i64 7]∧U.heap.size≤b11∧U.heap.size≤b12∧Ext U w') ?_ ?_
 rotate_left
 ·(refine jjV [0,1,2,3,4,5] ?_ ?_ ?_;(decide +kernel);(exact hu1.ext);(((apply jjT;exact rfl;rintro w' hq;have:=B9.ext hq;refine jm (jn rfl (jz ?_));exact ⟨rfl,rfl⟩;apply jjT;exact rfl;rintro w' hq;have:=B9.ext hq;refine jN rfl rfl rfl (jz ?_);exact ⟨rfl,rfl⟩;apply jjT;exact rfl;rintro w' hq;have:=B9.ext hq;refine jm (jn rfl (jz ?_));exact ⟨rfl,rfl⟩;apply jjT;exact rfl;rintro w' hq;have:=B9.ext hq;refine jN rfl rfl rfl (jz ?_);exact ⟨rfl,rfl⟩;apply jjT;exact rfl;rintro w' hq;have:=B9.ext hq;refine jI (eI rfl) (jz ?_);exact ⟨rfl,rfl⟩;apply jjT;exact rfl;rintro w' hq;have:=B9.ext hq;refine jY rfl rfl (by omega) (jz ?_);exact ⟨rfl,rfl⟩;refine jjU ?_))))
  refine jjV [6] (by decide +kernel) hu1.ext (jjT (v:=encII (0,1)) rfl (fun w' q1=>?_) (jjU ?_));(refine jjS (cells:=[.int .i64 0,.int .i64 1]) ?_ ?_;exact rfl;refine jz ?_;exact ⟨rfl,rfl⟩)
  (refine jjV [7,8,9,10,11,12] ?_ ?_ ?_;(decide +kernel);(exact hu1.ext);(((apply jjT;exact rfl;rintro w' hq;have:=B9.ext hq;refine jm (jn rfl (jz ?_));exact ⟨rfl,rfl⟩;apply jjT;exact rfl;rintro w' hq;have:=B9.ext hq;refine jN rfl rfl rfl (jz ?_);exact ⟨rfl,rfl⟩;apply jjT;exact rfl;rintro w' hq;have:=B9.ext hq;refine jm (jn rfl (jz ?_));exact ⟨rfl,rfl⟩;apply jjT;exact rfl;rintro w' hq;have:=B9.ext hq;refine jN rfl rfl rfl (jz ?_);exact ⟨rfl,rfl⟩;apply jjT;exact rfl;rintro w' hq;have:=B9.ext hq;refine jI (eI rfl) (jz ?_);exact ⟨rfl,rfl⟩;apply jjT;exact rfl;rintro w' hq;have:=B9.ext hq;refine jY rfl rfl (by omega) (jz ?_);exact ⟨rfl,rfl⟩;refine jjU ?_))))
  refine jjV [13] (by decide +kernel) hu1.ext (jjT (v:=encII (4,7)) rfl (fun w' q1=>?_) (jjU ?_));(refine jjS (cells:=[.int .i64 4,.int .i64 7]) ?_ ?_;exact rfl;refine jz ?_;exact ⟨rfl,rfl⟩)
  have x1:=hu1.ext
  refine jjl 14 15 (by decide +kernel) rfl rfl inferInstance ?_ ?_
  ·refine jjY ?_;intro b11 v11 hb11 hs11 hv11 hk11;have k11:Bk v11 b11 [.int .i64 0,.int .i64 0] 215:=Bk.of hk11;have z11:U.heap.size≤b11:=(by rw [hb11];exact Ext.size inferInstance);refine jz ?_
   (apply jjW 15;(decide +kernel);exact rfl;(exact inferInstance))
   refine jjY ?_;intro b12 v12 hb12 hs12 hv12 hk12;have k12:Bk v12 b12 [.int .i64 0,.int .i64 0] 215:=Bk.of hk12;have z12:U.heap.size≤b12:=(by rw [hb12];exact Ext.size inferInstance);refine jz ?_
   have j11:=k11.ext hv12.ext
   have j12:=k12
   (apply jjW 16;(decide +kernel);exact rfl;(exact inferInstance))
   refine Ops.store rfl rfl rfl rfl rfl ?_;intro v16 hp16;have e16:Ext U v16:=hp16.ext inferInstance z11;have q16:Bk v16 b11 [.int .i64 0,.int .i64 1] 215:=Bk.of hp16.new;have s16:=hp16.size;have k12':=hp16.bk j12 (by omega);refine jz ?_
   (apply jjW 17;(decide +kernel);exact rfl;(exact inferInstance))
   refine Ops.store rfl rfl rfl rfl rfl ?_;intro v17 hp17;have e17:Ext U v17:=hp17.ext inferInstance z12;have q17:Bk v17 b12 [.int .i64 4,.int .i64 7] 215:=Bk.of hp17.new;have s17:=hp17.size;have k11':=hp17.bk q16 (by omega);refine jz ?_
   refine jjX (by decide +kernel) inferInstance ?_;exact ⟨⟨eP rfl,eP rfl,eP rfl,eI rfl,eI rfl,eB rfl,eI rfl,eP rfl,eI rfl,eS rfl,eI rfl,eI rfl,eI rfl,eI rfl,trivial⟩,by (((iterate 20 refine Same.upd rfl ?_);exact Same.ovN)),b11,b12,rfl,rfl,Bk.toAt (h:=k11'),Bk.toAt (h:=q17),z11,z12,inferInstance⟩
  ·refine jjY ?_;intro b12 v12 hb12 hs12 hv12 hk12;have k12:Bk v12 b12 [.int .i64 0,.int .i64 0] 215:=Bk.of hk12;have z12:U.heap.size≤b12:=(by rw [hb12];exact Ext.size inferInstance);refine jz ?_
   (apply jjW 14;(decide +kernel);exact rfl;(exact inferInstance))
   refine jjY ?_;intro b11 v11 hb11 hs11 hv11 hk11;have k11:Bk v11 b11 [.int .i64 0,.int .i64 0] 215:=Bk.of hk11;have z11:U.heap.size≤b11:=(by rw [hb11];exact Ext.size inferInstance);refine jz ?_
   have j11:=k11
   have j12:=k12.ext hv11.ext
   (apply jjW 16;(decide +kernel);exact rfl;(exact inferInstance))
   refine Ops.store rfl rfl rfl rfl rfl ?_;intro v16 hp16;have e16:Ext U v16:=hp16.ext inferInstance z11;have q16:Bk v16 b11 [.int .i64 0,.int .i64 1] 215:=Bk.of hp16.new;have s16:=hp16.size;have k12':=hp16.bk j12 (by omega);refine jz ?_
   (apply jjW 17;(decide +kernel);exact rfl;(exact inferInstance))
   refine Ops.store rfl rfl rfl rfl rfl ?_;intro v17 hp17;have e17:Ext U v17:=hp17.ext inferInstance z12;have q17:Bk v17 b12 [.int .i64 4,.int .i64 7] 215:=Bk.of hp17.new;have s17:=hp17.size;have k11':=hp17.bk q16 (by omega);refine jz ?_
   refine jjX (by decide +kernel) inferInstance ?_;exact ⟨⟨eP rfl,eP rfl,eP rfl,eI rfl,eI rfl,eB rfl,eI rfl,eP rfl,eI rfl,eS rfl,eI rfl,eI rfl,eI rfl,eI rfl,trivial⟩,by (((iterate 20 refine Same.upd rfl ?_);exact Same.ovN)),b11,b12,rfl,rfl,Bk.toAt (h:=k11'),Bk.toAt (h:=q17),z11,z12,inferInstance⟩
 rintro s u2 ⟨⟨q2,q3,q4,q5,q6,q7,q8,q9,q10,q29,q30,q31,q40,q41,-⟩,hSa,b11,b12,h11,h12,C11,C12,z11,z12,x2⟩
 refine W.keep [(2,.pointer (some ⟨b2,0,none⟩)),(3,.pointer (some ⟨b3,0,none⟩)),(4,.pointer (some ⟨bk,0,none⟩)),(5,.int .i64 1),(6,.int .i64 0),(7,.bool false),(8,.int .i64 0),(9,.pointer (some ⟨b9,0,none⟩)),(10,.int .i64 0),(29,.slice ea 1 ec),(30,.int .i64 1),(31,.int .i64 0),(40,.int .i64 1),(41,.int .i64 0),(11,.pointer (some ⟨b11,0,none⟩)),(12,.pointer (some ⟨b12,0,none⟩))] (D:=(42::43::10::44::45::46::47::48::49::50::51::52::53::54::55::56::57::11::12::59::60::61::62::63::64::58::65::66::13::14::67::68::69::70::71::72::73::74::76::77::78::79::80::81::75::82::83::15::16::84::85::86::87::88::89::90::91::92::41::[])) (sO:=upds s1 _) hSa ⟨q2,q3,q4,q5,q6,q7,q8,q9,q10,q29,q30,q31,q40,q41,h11,h12,trivial⟩ fun s2 hs2=>?_
 clear q2 q3 q4 q5 q6 q7 q8 q9 q10 q29 q30 q31 q40 q41 h11 h12 hSa hu1
 have I2:=I0.ext x2
 have B2:=B9.ext x2
 (refine jjB (jjB ?_))
 refine W.draw (fun w'=>Ext u2 w') ?_
 intro u3 hu3
 (refine jjV [0,1,2,3,4] ?_ ?_ ?_;(decide +kernel);(exact hu3.ext);(((apply jjT;exact rfl;rintro w' hq;have:=I2.ak.ext hq;have:=C11.ext hq;refine jI (eP rfl) (jz ?_);exact ⟨rfl,rfl⟩;apply jjT;exact rfl;rintro w' hq;have:=I2.ak.ext hq;have:=C11.ext hq;refine jw rfl (jz ?_);exact ⟨rfl,rfl⟩;apply jjT;exact rfl;rintro w' hq;have:=I2.ak.ext hq;have:=C11.ext hq;refine jm (jn rfl (jz ?_));exact ⟨rfl,rfl⟩;apply jjT;exact rfl;rintro w' hq;have:=I2.ak.ext hq;have:=C11.ext hq;refine jN rfl rfl rfl (jz ?_);exact ⟨rfl,rfl⟩;apply jjT;exact rfl;rintro w' hq;have:=I2.ak.ext hq;have:=C11.ext hq;refine jO rfl rfl rfl rfl (jz ?_);exact ⟨rfl,rfl⟩;refine jjU ?_))))
 refine jjV [5] (by decide +kernel) hu3.ext (jjT (v:=.tuple #[encII (0,0),.bool false]) rfl (fun w' q1=>?_) (jjU ?_));(refine Ops.lookupOk (k:=((0:Int),(1:Int))) (encK:=encII) (I2.p1.ext q1) rfl rfl ?_;refine jz ?_;exact ⟨rfl,rfl⟩)
 (refine jjV [6,7,8] ?_ ?_ ?_;(decide +kernel);(exact hu3.ext);(((refine jjT rfl (fun _ _=>jI (eU rfl) (jz ⟨rfl,rfl⟩)) (jjT rfl (fun _ _=>ju rfl rfl (jz ⟨rfl,rfl⟩)) (jjT rfl (fun _ _=>ju rfl rfl (jz ⟨rfl,rfl⟩)) (jjU ?_)))))))
 have x3:=hu3.ext
 (apply jjW 9;(decide +kernel);exact rfl;(exact x3))
 refine jjY ?_
 intro b13 v13 hb13 hs13 hv13 hk13
 have k13:Bk v13 b13 [.int .i64 0,.int .i64 0] 215:=Bk.of hk13
 have z13:u2.heap.size≤b13:=by rw [hb13];exact Ext.size inferInstance
 refine jz ?_
 (apply jjW 10;(decide +kernel);exact rfl;(exact inferInstance))
 refine Ops.store rfl rfl rfl rfl rfl ?_
 intro u4 hp4
 have e4:Ext u2 u4:=hp4.ext inferInstance z13
 refine jz ?_
 (refine jjV [11] ?_ ?_ ?_;(decide +kernel);(exact e4);(((refine jjT rfl (fun _ _=>jJ (eB rfl) (jz ⟨rfl,rfl⟩)) (jjU ?_)))))
 refine jjX (by decide +kernel) e4 ?_
 (refine jjB (jjC (jI (eB rfl) (jq rfl (jz (jjJ rfl ?_))))))
 have I4:=I2.ext e4
 have B4:=B2.ext e4
 have D11:=C11.ext e4
 have D12:=C12.ext e4
 clear hu3 x3
 have hlt4:=I4.lt
 have zk4:=I4.ak.lt
 have zA:=I0.ak.lt
 have zu2:=x2.size
 have zu4:=e4.size
 refine W.draw (fun w'=>Only m1 u4 w') ?_
 intro u5 hu5
 (refine jjV [0,1,2,3,4,5] ?_ ?_ ?_;(decide +kernel);(exact .ofExt hu5.ext);(((apply jjT;exact rfl;rintro w' hq;have:=hq.at_ I4.ak (by omega);have:=hq.at_ D11 (by omega);have:=hq.at_ D12 (by omega);refine jI (eP rfl) (jz ?_);exact ⟨rfl,rfl⟩;apply jjT;exact rfl;rintro w' hq;have:=hq.at_ I4.ak (by omega);have:=hq.at_ D11 (by omega);have:=hq.at_ D12 (by omega);refine jw rfl (jz ?_);exact ⟨rfl,rfl⟩;apply jjT;exact rfl;rintro w' hq;have:=hq.at_ I4.ak (by omega);have:=hq.at_ D11 (by omega);have:=hq.at_ D12 (by omega);refine jm (jn rfl (jz ?_));exact ⟨rfl,rfl⟩;apply jjT;exact rfl;rintro w' hq;have:=hq.at_ I4.ak (by omega);have:=hq.at_ D11 (by omega);have:=hq.at_ D12 (by omega);refine jN rfl rfl rfl (jz ?_);exact ⟨rfl,rfl⟩;apply jjT;exact rfl;rintro w' hq;have:=hq.at_ I4.ak (by omega);have:=hq.at_ D11 (by omega);have:=hq.at_ D12 (by omega);refine jO rfl rfl rfl rfl (jz ?_);exact ⟨rfl,rfl⟩;apply jjT;exact rfl;rintro w' hq;have:=hq.at_ I4.ak (by omega);have:=hq.at_ D11 (by omega);have:=hq.at_ D12 (by omega);refine jO rfl rfl rfl rfl (jz ?_);exact ⟨rfl,rfl⟩;refine jjU ?_))))
 have x5:=hu5.ext
 (apply jjW 6;(decide +kernel);exact rfl;(exact .ofExt x5))
 have I5:=I4.ext x5
 refine Ops.mapUpdate (k:=((0:Int),(1:Int))) (encK:=encII) (v:=encII (4,7)) I5.p1 rfl rfl rfl ?_
 intro u6 o6 hp6 hM6
 have J6:OpI w u6 a c ea ec b2 b3 m1 m2 bk [((0,1),encII (4,7))] []:=I5.put1 hp6 hM6
 have E11:At u6 b11 0 [.int .i64 0,.int .i64 1]:=hp6.at_ (D11.ext x5) (by omega)
 have E12:At u6 b12 0 [.int .i64 4,.int .i64 7]:=hp6.at_ (D12.ext x5) (by omega)
 have B6:At u6 b9 0 [.int .i64 0,.int .i64 1,.int .i64 2,.int .i64 4,.int .i64 7]:=hp6.at_ (B4.ext x5) (by omega)
 refine jz ?_
 refine jjX (by decide +kernel) ((Only.ofExt x5).trans (.ofPut hp6)) ?_
 have zu6:U.heap.size≤u6.heap.size:=by have:=hp6.size;have:=x5.size;omega
 clear I4 I5 D11 D12 B4 hM6 hp6 x5 hu5
 (refine jjB ?_)
 refine W.draw (fun w'=>Ext u6 w') ?_
 intro u7 hu7
 (refine jjV [0,1,2,3,4] ?_ ?_ ?_;(decide +kernel);(exact hu7.ext);(((apply jjT;exact rfl;rintro w' hq;have:=J6.ak.ext hq;have:=E12.ext hq;refine jI (eP rfl) (jz ?_);exact ⟨rfl,rfl⟩;apply jjT;exact rfl;rintro w' hq;have:=J6.ak.ext hq;have:=E12.ext hq;refine jw rfl (jz ?_);exact ⟨rfl,rfl⟩;apply jjT;exact rfl;rintro w' hq;have:=J6.ak.ext hq;have:=E12.ext hq;refine jm (jn rfl (jz ?_));exact ⟨rfl,rfl⟩;apply jjT;exact rfl;rintro w' hq;have:=J6.ak.ext hq;have:=E12.ext hq;refine jN rfl rfl rfl (jz ?_);exact ⟨rfl,rfl⟩;apply jjT;exact rfl;rintro w' hq;have:=J6.ak.ext hq;have:=E12.ext hq;refine jO rfl rfl rfl rfl (jz ?_);exact ⟨rfl,rfl⟩;refine jjU ?_))))
 refine jjV [5] (by decide +kernel) hu7.ext (jjT (v:=.tuple #[encII (0,0),.bool false]) rfl (fun w' q1=>?_) (jjU ?_));(refine Ops.lookupOk (k:=((4:Int),(7:Int))) (encK:=encII) (J6.p2.ext q1) rfl rfl ?_;refine jz ?_;exact ⟨rfl,rfl⟩)
 (refine jjV [6,7,8] ?_ ?_ ?_;(decide +kernel);(exact hu7.ext);(((refine jjT rfl (fun _ _=>jI (eU rfl) (jz ⟨rfl,rfl⟩)) (jjT rfl (fun _ _=>ju rfl rfl (jz ⟨rfl,rfl⟩)) (jjT rfl (fun _ _=>ju rfl rfl (jz ⟨rfl,rfl⟩)) (jjU ?_)))))))
 have x7:=hu7.ext
 (apply jjW 9;(decide +kernel);exact rfl;(exact x7))
 refine jjY ?_
 intro b15 v15 hb15 hs15 hv15 hk15
 have k15:Bk v15 b15 [.int .i64 0,.int .i64 0] 215:=Bk.of hk15
 have z15:u6.heap.size≤b15:=by rw [hb15];exact Ext.size inferInstance
 refine jz ?_
 (apply jjW 10;(decide +kernel);exact rfl;(exact inferInstance))
 refine Ops.store rfl rfl rfl rfl rfl ?_
 intro u8 hp8
 have e8:Ext u6 u8:=hp8.ext inferInstance z15
 refine jz ?_
 (refine jjV [11] ?_ ?_ ?_;(decide +kernel);(exact e8);(((refine jjT rfl (fun _ _=>jJ (eB rfl) (jz ⟨rfl,rfl⟩)) (jjU ?_)))))
 refine jjX (by decide +kernel) e8 ?_
 (refine jjB (jjC (jI (eB rfl) (jq rfl (jz (jjJ rfl ?_))))))
 have I8:=J6.ext e8
 have D11:=E11.ext e8
 have D12:=E12.ext e8
 have B8:=B6.ext e8
 have zu8:=e8.size
 have hlt8:=I8.lt
 refine W.draw (fun w'=>Only m2 u8 w') ?_
 intro u9 hu9
 (refine jjV [0,1,2,3,4,5] ?_ ?_ ?_;(decide +kernel);(exact .ofExt hu9.ext);(((apply jjT;exact rfl;rintro w' hq;have:=hq.at_ I8.ak (by omega);have:=hq.at_ D11 (by omega);have:=hq.at_ D12 (by omega);refine jI (eP rfl) (jz ?_);exact ⟨rfl,rfl⟩;apply jjT;exact rfl;rintro w' hq;have:=hq.at_ I8.ak (by omega);have:=hq.at_ D11 (by omega);have:=hq.at_ D12 (by omega);refine jw rfl (jz ?_);exact ⟨rfl,rfl⟩;apply jjT;exact rfl;rintro w' hq;have:=hq.at_ I8.ak (by omega);have:=hq.at_ D11 (by omega);have:=hq.at_ D12 (by omega);refine jm (jn rfl (jz ?_));exact ⟨rfl,rfl⟩;apply jjT;exact rfl;rintro w' hq;have:=hq.at_ I8.ak (by omega);have:=hq.at_ D11 (by omega);have:=hq.at_ D12 (by omega);refine jN rfl rfl rfl (jz ?_);exact ⟨rfl,rfl⟩;apply jjT;exact rfl;rintro w' hq;have:=hq.at_ I8.ak (by omega);have:=hq.at_ D11 (by omega);have:=hq.at_ D12 (by omega);refine jO rfl rfl rfl rfl (jz ?_);exact ⟨rfl,rfl⟩;apply jjT;exact rfl;rintro w' hq;have:=hq.at_ I8.ak (by omega);have:=hq.at_ D11 (by omega);have:=hq.at_ D12 (by omega);refine jO rfl rfl rfl rfl (jz ?_);exact ⟨rfl,rfl⟩;refine jjU ?_))))
 have x9:=hu9.ext
 (apply jjW 6;(decide +kernel);exact rfl;(exact .ofExt x9))
 have I9:=I8.ext x9
 refine Ops.mapUpdate (k:=((4:Int),(7:Int))) (encK:=encII) (v:=encII (0,1)) I9.p2 rfl rfl rfl ?_
 intro u10 o10 hp10 hM10
 have J10:OpI w u10 a c ea ec b2 b3 m1 m2 bk [((0,1),encII (4,7))] [((4,7),encII (0,1))]:=I9.put2 hp10 hM10
 have B10:At u10 b9 0 [.int .i64 0,.int .i64 1,.int .i64 2,.int .i64 4,.int .i64 7]:=hp10.at_ (B8.ext x9) (by omega)
 refine jz ?_
 refine jjX (by decide +kernel) ((Only.ofExt x9).trans (.ofPut hp10)) ?_
 (refine jjC (jY rfl rfl (by omega) (jI (eI rfl) (jz ?_))))
 exact ⟨rfl,by (((iterate 40 refine Same.upd rfl ?_);assumption)),1-1,by omega,1,rfl,rfl,by omega,B10,fun h=>by omega,fun _=>J10⟩
end

def atR (t:Tx) (p:Pl):ByteArray×Int:=if textB t then (if placeB t p then (wordT t p,0) else (⟨#[]⟩,12)) else (⟨#[]⟩,10)
section
variable (a:Option Addr) (c:Nat) (cs:List Ch) (w:World) [hrow:RowI w (.slice a cs.length c) true 2 (cs.map encCh)] [hT:TextI w cs]
set_option maxHeartbeats 2000000 in
theorem placed_leaf (hs:SmallT cs) (p:Pl):Ct Tryz.prog 135 [.agg #[.slice a cs.length c],encPl p] w fun v w'=>∃ o,v=.tuple #[.pointer o,.int .i64 (atR (txF cs) p).2]∧((atR (txF cs) p).2=0→∃ b,w.heap.size≤b∧o=some ⟨b,0,none⟩∧At w' b 0 [.slice a cs.length c]):=by
 refine Ct.ofW (by simp) ?_
 (refine jjB (jjC ?_))
 (refine jy rfl ?_;intro b2 w_b2 hb_b2 hs_b2 hS_b2 hk_b2;have hA_b2:=At.ofBlock hk_b2)
 skip
 (refine jy rfl ?_;intro b3 w_b3 hb_b3 hs_b3 hS_b3 hk_b3;have hA_b3:=At.ofBlock hk_b3)
 (refine jJ (eN rfl) (jJ (eI rfl) (jz (jjB (jjC (jO rfl rfl rfl rfl ?_))))))
 obtain ⟨B,hB⟩:∃ B,textB (txF cs)=B:=⟨_,rfl⟩
 refine jjQ ((open_leaf a c cs _ hs).mono fun v _ _ h=>by rw [hB] at h;exact h) rfl rfl ?_
 rintro _ w4 hS4 ⟨o,rfl,ho⟩
 rw [atR,hB]
 cases B with
 | false =>
   (refine jI (eU rfl) (ju rfl rfl (ju rfl rfl (jJ rfl (jJ (eI rfl) (jz ?_)))));refine jjB (jjB (jjC (jI (eI rfl) (jc rfl rfl (jz ?_)))));refine jjJ rfl (jjB (jjC (jI (eI rfl) (jJ (eN rfl) (jJ (eI rfl) ?_)))));refine jz (jjF ?_);refine jC rfl rfl rfl ⟨inferInstance,?_⟩)
   exact ⟨_,rfl,fun h=>by simp at h⟩
 | true =>
 obtain ⟨bk,hbk,rfl,hAk⟩:=ho rfl
 obtain ⟨B2,hB2⟩:∃ B,placeB (txF cs) p=B:=⟨_,rfl⟩
 rw [if_pos rfl,if_pos rfl,hB2]
 (refine jI (eU rfl) (ju rfl rfl (ju rfl rfl (jJ (eP rfl) (jJ (eI rfl) (jz ?_)))));refine jjB (jjB (jjC (jI (eI rfl) (jjk rfl rfl (by omega) (jz ?_)))));refine jjK rfl (jjG (jjB (jjB (jjC (jI (eP rfl) ?_)))));refine jO rfl rfl rfl rfl ?_)
 refine jjQ ((has_leaf a c cs _ bk p hs).mono fun v _ _ h=>h.trans (by rw [placeC_B,hB2])) rfl rfl ?_
 rintro _ w5 hS5 rfl
 have z2:=hS_b2.size
 have z3:=hS_b3.size
 cases B2 with
 | false =>
   (refine jq rfl (jz (jjJ rfl (jjB (jjC (jJ (eN rfl) ?_)))));refine jJ (eI rfl) (jz (jjF ?_));refine jC rfl rfl rfl ⟨inferInstance,?_⟩)
   exact ⟨_,rfl,fun h=>by simp at h⟩
 | true =>
   (refine jp rfl (jz (jjK rfl (jjG (jjB (jjC ?_)))));refine jI (eP rfl) (jJ (eP rfl) (jJ (eI rfl) (jz (jjF ?_))));refine jC rfl rfl rfl ⟨inferInstance,?_⟩)
   exact ⟨_,rfl,fun _=>⟨bk,by omega,rfl,hAk.ext hS5.ext⟩⟩
set_option maxHeartbeats 4000000 in
theorem At_leaf (hs:SmallT cs) (p:Pl):Ct Tryz.prog 116 [.agg #[.slice a cs.length c],encPl p] w fun v _=>v=.tuple #[.string (atR (txF cs) p).1,.int .i64 (atR (txF cs) p).2]:=by
 refine Ct.ofW (by simp) ?_
 (refine jjB (jjC ?_))
 (refine jy rfl ?_;intro b2 w_b2 hb_b2 hs_b2 hS_b2 hk_b2;have hA_b2:=At.ofBlock hk_b2)
 skip
 (refine jy rfl ?_;intro b3 w_b3 hb_b3 hs_b3 hS_b3 hk_b3;have hA_b3:=At.ofBlock hk_b3)
 (refine jJ (eT rfl) (jJ (eI rfl) (jz (jjB (jjC (jO rfl rfl rfl rfl ?_)))));refine jO rfl rfl rfl rfl ?_)
 obtain ⟨e,he⟩:∃ e,(atR (txF cs) p).2=e:=⟨_,rfl⟩
 refine jjQ ((placed_leaf a c cs _ hs p).mono fun v _ _ h=>by rw [he] at h;exact h) rfl rfl ?_
 rintro _ w4 hS4 ⟨o,rfl,ho⟩
 rw [he]
 have hin:e=0∨e=10∨e=12:=by
  rw [←he,atR];repeat' split
  all_goals simp
 by_cases h0:e=0
 rotate_left
 ·have h1:(atR (txF cs) p).1=⟨#[]⟩:=by
   rw [atR] at he ⊢
   repeat' split
   all_goals first|rfl|(exfalso;simp_all)
  rw [h1]
  (refine jI (eU rfl) (ju rfl rfl (ju rfl rfl (jJ rfl (jJ (eI rfl) (jz ?_)))));refine jjB (jjB (jjC (jI (eI rfl) (jjj rfl rfl (by omega) (jz ?_)))));refine jjJ rfl (jjB (jjC (jI (eI rfl) (jJ (eT rfl) (jJ (eI rfl) ?_)))));refine jz (jjF ?_);refine jC rfl rfl rfl ⟨inferInstance,?_⟩)
  exact rfl
 subst h0
 obtain ⟨bk,hbk,rfl,hAk⟩:=ho rfl
 have hpl:textB (txF cs)=true∧placeB (txF cs) p=true:=by
  rw [atR] at he
  split at he
  ·split at he
   ·exact ⟨‹_›,‹_›⟩
   ·simp at he
  ·simp at he
 have h1:(atR (txF cs) p).1=wordT (txF cs) p:=by rw [atR,if_pos hpl.1,if_pos hpl.2]
 obtain ⟨l,hl,q,hq',hp3⟩:=placeB_line hpl.2
 have hlc:=lineC_T cs p
 rw [hl] at hlc
 obtain ⟨y,hy,rfl⟩:=Option.map_eq_some_iff.1 hlc.symm
 obtain ⟨x,hx,hyx⟩:=lineC_mem hy
 have hwt:wordT (txF cs) p=y.2.2[q]:=by
  rw [wordT,hl,hp3,Int.toNat_natCast,Option.getD_some,List.getD_eq_getElem?_getD,List.getElem?_eq_getElem hq',Option.getD_some]
 rw [h1,hwt]
 have hrowy:=hT.words x hx y hyx
 (refine jI (eU rfl) (ju rfl rfl (ju rfl rfl (jJ (eP rfl) (jJ (eI rfl) (jz ?_)))));refine jjB (jjB (jjC (jI (eI rfl) (jjk rfl rfl (by omega) (jz ?_)))));refine jjK rfl (jjG (jjB ?_)))
 refine W.draw (fun w'=>Ext w4 w') ?_
 intro w1 hS1
 (refine jjV [0,1,3,4] ?_ ?_ ?_;(decide +kernel);(exact inferInstance);(((refine jjT rfl (fun _ _=>jI (eP rfl) (jz ⟨rfl,rfl⟩)) ?_;apply jjT;exact rfl;rintro w' hq;have:=hq.toStep;refine jO rfl rfl rfl rfl (jz ?_);exact ⟨rfl,rfl⟩;apply jjT;exact rfl;rintro w' hq;have:=hq.toStep;refine jm (jn rfl (jz ?_));exact ⟨rfl,rfl⟩;apply jjT;exact rfl;rintro w' hq;have:=hq.toStep;refine jN rfl rfl rfl (jz ?_);exact ⟨rfl,rfl⟩;refine jjU ?_))))
 (apply jjW 2;(decide +kernel);exact rfl;(exact inferInstance))
 refine jjQ ((line_leaf a c cs _ bk p hs).mono fun v _ _ h=>h.trans (by rw [hy])) rfl rfl ?_
 rintro _ w5 hS5 rfl
 refine jz ?_
 have hE5:Ext w w5:=inferInstance
 have hE45:Ext w4 w5:=inferInstance
 obtain ⟨bw,ow,hya,hAw⟩:=hrowy.place' (map_get hq')
 have hln:lnV (some y)=.slice (some ⟨bw,ow,none⟩) y.2.2.length y.2.1:=by rw [←hya]
 rw [hln]
 rw [Nat.mul_one] at hAw
 refine jjV [5,6,7,8] (by decide +kernel) hE45 ?_
 ((apply jjT;exact rfl;rintro w' hq;have:=hq.toStep;refine jG (j:=q) rfl rfl hp3 hq' ?_;refine jz ?_;exact ⟨rfl,rfl⟩;apply jjT;exact rfl;rintro w' hq;have:=hq.toStep;refine jQ rfl rfl (jz ?_);exact ⟨rfl,rfl⟩;refine jjT rfl (fun _ _=>jJ (eT rfl) (jz ⟨rfl,rfl⟩)) (jjT rfl (fun _ _=>jJ (eI rfl) (jz ⟨rfl,rfl⟩)) (jjU ?_))))
 refine jjX (by decide +kernel) hE45 ?_
 (refine jjF ?_;refine jC rfl rfl rfl ⟨inferInstance,?_⟩)
 exact rfl
end

theorem inThree_chart (lo hi m n o:Int) (b:Nat) (w:World) (h:lo≤m∧m≤hi) (h2:lo≤n∧n≤hi) (h3:lo≤o∧o≤hi) (hR:RowV w false 1 (.slice (some ⟨b,0,none⟩) 3 3) [.int .i64 m,.int .i64 n,.int .i64 o]):Ct Tryz.prog 117 [.int .i64 lo,.int .i64 hi,.slice (some ⟨b,0,none⟩) 3 3] w fun v _=>v=.bool true :=
 (in_chart lo hi _ [m,n,o] w hR).mono fun v _ _ e=>e.trans (by rw [List.all_cons,List.all_cons,List.all_cons,List.all_nil,inB,inB,inB,decide_eq_true h,decide_eq_true h2,decide_eq_true h3];rfl)
abbrev encEd (ea:Option Addr) (ec:Nat) (i:Int):Value:=.agg #[.int .i64 i,.slice ea 1 ec]
structure BookC (w:World) (bk:Nat) (a:Option Addr) (c:Nat):Prop where
 h:∃ (ea:Option Addr) (ec m1 m2:Nat),At w bk 0 [.int .i64 1,.slice ea 1 ec,.slice a 1 c,.map (some m1),.map (some m2)]∧MapE encII w m1 [((0,1),encII (4,7))]∧MapE encII w m2 [((4,7),encII (0,1))]
theorem BookC.ext {w w':World} {bk:Nat} {a:Option Addr} {c:Nat} (h:BookC w bk a c) (e:Ext w w'):BookC w' bk a c:=by
 obtain ⟨ea,ec,m1,m2,h1,h2,h3⟩:=h.h
 exact ⟨ea,ec,m1,m2,h1.ext e,h2.ext e,h3.ext e⟩
section
variable (a:Option Addr) (c:Nat) (b:Option Addr) (d:Nat) (ls:List Ln) (w:World) [hrow:RowI w (.slice a ([(3,b,d,ls)]:List Ch).length c) true 2 (([(3,b,d,ls)]:List Ch).map encCh)] [hT:TextI w [(3,b,d,ls)]] [hg:At w 3 0 checksC] (h:txF [(3,b,d,ls)]=tqT) (hl:ls.length=2) (ea:Option Addr) (ec:Nat) [hE:RowI w (.slice ea 1 ec) true 5 ([tqS].map encSt)]
include hrow hT hg h hl hE in
set_option maxHeartbeats 4000000 in
theorem sound_chart (va:Option Addr) (vc:Nat) [hV:RowI w (.slice va 1 vc) true 2 ([(1:Int)].map (encEd ea ec))]:Ct Tryz.prog 115 [.agg #[.slice a 1 c],.slice va 1 vc] w fun v w'=>∃ la lc bk,v=.tuple #[.slice la 1 lc,.int .i64 0]∧RowV w' false 1 (.slice la 1 lc) [.pointer (some ⟨bk,0,none⟩)]∧BookC w' bk a c:=by
 refine Ct.ofW (by simp) ?_
 (refine jjB (jjC ?_))
 (refine jy rfl ?_;intro b2 w_b2 hb_b2 hs_b2 hS_b2 hk_b2;have hA_b2:=At.ofBlock hk_b2)
 have A2:At w_b2 b2 0 [.slice a 1 c]:=At.ofBlock hk_b2
 (refine jJ (eS rfl) (jJ (eI rfl) (jz (jjB (jjB (jjC ?_)))));refine jI (eS rfl) (jh rfl (jI (eI rfl) (jz (jjD ?_)))))
 refine W.keep0 [(1,.slice va 1 vc),(2,.pointer (some ⟨b2,0,none⟩)),(4,.slice none 0 0),(5,.int .i64 0),(16,.slice va 1 vc),(17,.int .i64 1),(18,.int .i64 ((0:Nat):Int))] ⟨eS rfl,eP rfl,eS rfl,eI rfl,eS rfl,eI rfl,eI rfl,trivial⟩ fun s0=>?_
 refine W.loop (19::20::21::7::22::23::24::8::25::26::27::4::5::28::18::[]) (fun g s' V=>∃ k:Nat,s' 18=.int .i64 ((k:Nat):Int)∧g=1-k∧k≤1) 1 ⟨0,rfl,rfl,Nat.zero_le _⟩ ?_
 rintro _ sd V hSV ⟨k,h18,rfl,hk⟩
 refine W.fix h18 ?_
 clear h18
 by_cases hk1:k<1
 ·obtain rfl:k=0:=by omega
  (refine jjB (jjC (jjZ rfl rfl (by omega) (jz (jjB (jjJ rfl ?_)))));refine jjG (jjB (jjD (jjB (jjC ?_))));refine jF rfl rfl rfl (map_get (by omega)) ?_;intro _ _ _;refine jQ rfl rfl ?_)
  (apply jjR rfl;(intro _;first|exact eI rfl|exact eB rfl|exact eP rfl|exact eS rfl|exact eT rfl|exact eA rfl|exact eU rfl|exact eF rfl|exact eM rfl|exact eN rfl|exact rfl);exact rfl;exact rfl;exact rfl;exact rfl;intro b7 w_b7 hb_b7 hs_b7 hS_b7 hk_b7;have hA_b7:=Bk.of hk_b7)
  have A7:At w_b7 b7 0 [.int .i64 1,.slice ea 1 ec]:=Bk.toAt (h:=hA_b7)
  (refine jz (jjB (jjC (jO rfl rfl rfl rfl (jO rfl rfl rfl rfl ?_)))))
  refine jjQ (Check_chart a c b d ls _ h hl ea ec) rfl rfl ?_
  rintro _ w4 hS4 rfl
  (refine jJ (eI rfl) (jz (jjB (jjC (jI (eI rfl) (jjk rfl rfl (by omega) ?_)))));refine jz (jjK rfl (jjG (jjC (jY rfl rfl (by omega) (jI (eI rfl) ?_)))));refine jz ?_)
  exact ⟨rfl,by (((iterate 13 refine Same.upd rfl ?_);exact Same.ovN)),1-1,by omega,inferInstance,1,rfl,rfl,by omega⟩
 obtain rfl:k=1:=by omega
 (refine jjB (jjC (jja rfl rfl (by omega) (jz (jjB (jjK rfl ?_)))));refine jjE (jjB (jjC (jJ (eS rfl) (jz (jjB ?_)))));refine jjB (jjC (jI (eS rfl) (jh rfl (jI (eI rfl) (jz ?_)))));refine jjD ?_)
 refine W.keep0 [(2,.pointer (some ⟨b2,0,none⟩)),(9,.slice none 0 0),(29,.slice va 1 vc),(30,.int .i64 1),(31,.int .i64 ((0:Nat):Int))] ⟨eP rfl,eS rfl,eS rfl,eI rfl,eI rfl,trivial⟩ fun s1=>?_
 refine W.loop (32::33::34::11::36::37::38::35::39::40::41::42::12::13::14::15::43::4::5::44::45::46::47::9::48::31::[]) (fun g s' U=>∃ (k:Nat) (lv:Value),s' 31=.int .i64 ((k:Nat):Int)∧s' 9=lv∧g=1-k∧k≤1∧(k=0→lv=.slice none 0 0)∧(k=1→∃ la lc bk,lv=.slice la 1 lc∧RowV U false 1 (.slice la 1 lc) [.pointer (some ⟨bk,0,none⟩)]∧BookC U bk a c)) 1 ⟨0,_,rfl,rfl,rfl,Nat.zero_le _,fun _=>rfl,fun h=>by omega⟩ ?_
 rintro _ sd2 U hSU ⟨k,lv,h31,h9,rfl,hk,i0,i1⟩
 by_cases hk2:k<1
 ·obtain rfl:k=0:=by omega
  obtain rfl:=i0 rfl
  clear i0 i1
  refine W.fix h31 (W.fix (d:=9) h9 ?_)
  clear h31 h9
  (refine jjB (jjC (jjZ rfl rfl (by omega) (jz (jjB (jjJ rfl ?_)))));refine jjG (jjB (jjD (jjB (jjC ?_))));refine jF rfl rfl rfl (map_get (by omega)) ?_;intro _ _ _;refine jQ rfl rfl ?_)
  (apply jjR rfl;(intro _;first|exact eI rfl|exact eB rfl|exact eP rfl|exact eS rfl|exact eT rfl|exact eA rfl|exact eU rfl|exact eF rfl|exact eM rfl|exact eN rfl|exact rfl);exact rfl;exact rfl;exact rfl;exact rfl;intro b11 w_b11 hb_b11 hs_b11 hS_b11 hk_b11;have hA_b11:=Bk.of hk_b11)
  have A11:At w_b11 b11 0 [.int .i64 1,.slice ea 1 ec]:=Bk.toAt (h:=hA_b11)
  (refine jz (jjB (jjC (jO rfl rfl rfl rfl (jO rfl rfl rfl rfl ?_)))))
  refine jjQ (opened_chart a c _ ea ec) rfl rfl ?_
  rintro _ w4 hS4 ⟨b2',b3',m1,m2,bk,rfl,hI⟩
  have hB:BookC w4 bk a c:=⟨ea,ec,m1,m2,hI.ak,hI.p1,hI.p2⟩
  (refine jI (eU rfl) (ju rfl rfl (ju rfl rfl (ju rfl rfl (ju rfl rfl (jJ (eP rfl) ?_)))));refine jJ (eI rfl) (jJ (eI rfl) (jJ (eB rfl) (jz (jjB (jjB ?_)))));refine jjC (jI (eB rfl) (jz (jjK rfl (jjG (jjC ?_)))));refine jI (eS rfl) (jI (eP rfl) ?_))
  refine jjP (v:=.pointer (some ⟨bk,0,none⟩)) rfl (by exact rfl) (by exact rfl) (by exact rfl) (by exact rfl) ?_
  intro b5 w5 hb5 hs5 hS5 hk5
  have R5:=RowV.one (agg:=false) (k:=1) rfl hk5
  refine Ops.appendL (B:=w5.heap.size) (OwnL.nil _ _ _ _ _) (Nat.le_refl _) R5 rfl rfl rfl rfl rfl (by simp) (by simp) ?_
  intro v6 w6 hA6 hO6 _ _
  have e56:Ext w5 w6:=hA6.ext (.refl _) (Nat.le_refl _)
  have e56':=e56.toStep
  (refine jJ rfl (jz (jjC (jY rfl rfl (by omega) (jI (eI rfl) (jz ?_))))))
  obtain ⟨ga,gc,rfl⟩:=hO6.slice
  exact ⟨rfl,by (((iterate 26 refine Same.upd rfl ?_);exact Same.ovN)),1-1,by omega,inferInstance,1,_,rfl,rfl,rfl,by omega,fun h=>by omega,fun _=>⟨ga,gc,bk,rfl,hO6.row,(hB.ext hS5.ext).ext e56⟩⟩
 obtain rfl:k=1:=by omega
 obtain ⟨la,lc,bk,rfl,hR,hB⟩:=i1 rfl
 refine W.fix h31 (W.fix (d:=9) h9 ?_)
 (refine jjB (jjC (jja rfl rfl (by omega) (jz (jjB (jjK rfl ?_)))));refine jjE (jjB (jjC (jI (eS rfl) (jJ (eS rfl) (jJ (eI rfl) ?_)))));refine jz (jjF ?_);refine jC rfl rfl rfl ⟨inferInstance,?_⟩)
 exact ⟨la,lc,bk,rfl,hR,hB⟩
include hrow hT hg h hl hE in
set_option maxHeartbeats 1000000 in
theorem placed_chart (p:Pl) (hp:(atR tqT p).2=0):Ct Tryz.prog 83 [.agg #[.slice a 1 c],encEd ea ec 1,encPl p] w fun v w'=>∃ bk,v=.tuple #[.pointer (some ⟨bk,0,none⟩),.int .i64 0]∧BookC w' bk a c:=by
 refine Ct.ofW (by simp) ?_
 (refine jjB (jjC ?_))
 (refine jy rfl ?_;intro b3 w_b3 hb_b3 hs_b3 hS_b3 hk_b3;have hA_b3:=At.ofBlock hk_b3)
 skip
 (refine jy rfl ?_;intro b4 w_b4 hb_b4 hs_b4 hS_b4 hk_b4;have hA_b4:=At.ofBlock hk_b4)
 skip
 (refine jy rfl ?_;intro b5 w_b5 hb_b5 hs_b5 hS_b5 hk_b5;have hA_b5:=At.ofBlock hk_b5)
 have A3:At w_b5 b3 0 [.slice a 1 c]:=((At.ofBlock hk_b3).ext hS_b4.ext).ext hS_b5.ext
 have A4:At w_b5 b4 0 [.int .i64 1,.slice ea 1 ec]:=(At.ofBlock hk_b4).ext hS_b5.ext
 have A5:At w_b5 b5 0 [.int .i64 p.1,.int .i64 p.2.1,.int .i64 p.2.2]:=At.ofBlock hk_b5
 (refine jJ (eN rfl) (jJ (eI rfl) (jz (jjB (jjC (jO rfl rfl rfl rfl ?_)))));refine jO rfl rfl rfl rfl ?_)
 (refine jjP (v:=.agg _) rfl (by exact rfl) (by exact rfl) (by exact rfl) (by exact rfl) ?_;intro b15 w_b15 hb_b15 hs_b15 hS_b15 hk_b15;have hR_b15:=RowV.one (agg:=true) (k:=2) rfl hk_b15)
 have hV:RowI w_b15 (.slice (some ⟨b15,0,none⟩) 1 1) true 2 ([(1:Int)].map (encEd ea ec)):=⟨hR_b15⟩
 skip
 refine jjQ (sound_chart a c b d ls _ h hl ea ec (some ⟨b15,0,none⟩) 1) rfl rfl ?_
 rintro _ w4 hS4 ⟨la,lc,bk,rfl,hR,hB⟩
 obtain ⟨pb,po,rfl,hAp⟩:=hR.place' (j:=0) rfl
 (refine jI (eU rfl) (ju rfl rfl (ju rfl rfl (jJ (eS rfl) (jJ (eI rfl) (jz ?_)))));refine jjB (jjB (jjC (jI (eI rfl) (jjk rfl rfl (by omega) (jz ?_)))));refine jjK rfl (jjG (jjB (jjB (jjC (jO rfl rfl rfl rfl ?_)))));refine jO rfl rfl rfl rfl ?_)
 refine jjQ ((At_leaf a c [(3,b,d,ls)] _ (tq_small h) p).mono fun v _ _ e=>e.trans (by rw [h,hp])) rfl rfl ?_
 rintro _ w5 hS5 rfl
 have A6:At w5 pb (po+0 * 1) [.pointer (some ⟨bk,0,none⟩)]:=hAp.ext hS5.ext
 (refine jI (eU rfl) (ju rfl rfl (ju rfl rfl (jJ (eT rfl) (jJ (eI rfl) (jz ?_)))));refine jjB (jjC (jI (eI rfl) (jjk rfl rfl (by omega) (jz (jjK rfl ?_)))));refine jjG (jjB (jjC (jI (eS rfl) ?_))))
 refine jH 0 rfl rfl rfl (by omega) ?_
 (refine jP rfl rfl rfl (jJ (eP rfl) (jJ (eI rfl) (jz (jjF ?_))));refine jC rfl rfl rfl ⟨inferInstance,?_⟩)
 exact ⟨bk,rfl,hB.ext hS5.ext⟩
end

theorem tq_lines {b:Option Addr} {d:Nat} {ls:List Ln} (h:txF [(3,b,d,ls)]=tqT):∃ l0 l1:Ln,ls=[l0,l1]∧l1.2.2.length=3:=by
 simp only [txF,List.map_cons,List.map_nil,tqT,List.cons.injEq,Prod.mk.injEq,and_true,true_and] at h
 have hl:ls.length=2:=by have:=congrArg List.length h;rwa [List.length_map] at this
 match ls,hl,h with
 | [l0,l1],_,h =>
   simp only [List.map_cons,List.map_nil,List.cons.injEq,and_true] at h
   exact ⟨l0,l1,rfl,by rw [h.2];rfl⟩
section
variable (a:Option Addr) (c:Nat) (w:World) (bk:Nat) (hB:BookC w bk a c)
include hB in
set_option maxHeartbeats 1000000 in
theorem refer_chart:Ct Tryz.prog 84 [.pointer (some ⟨bk,0,none⟩),encPl (0,1,2)] w fun v _=>v=.tuple #[encPl (4,7,3),.bool true]:=by
 obtain ⟨ea,ec,m1,m2,hAk,hM1,hM2⟩:=hB.h
 refine Ct.ofW (by simp) ?_
 (refine jjB (jjC ?_))
 (refine jy rfl ?_;intro b3 w_b3 hb_b3 hs_b3 hS_b3 hk_b3;have hA_b3:=At.ofBlock hk_b3)
 ((skip);refine jjY ?_;intro b4 w_b4 hb_b4 hs_b4 hS_b4 hk_b4;have hA_b4:=Bk.of hk_b4)
 have A3:At w_b4 b3 0 [.int .i64 0,.int .i64 1,.int .i64 2]:=(At.ofBlock hk_b3).ext hS_b4.ext
 (refine jJ (eB rfl) (jz (jjB ?_)))
 have eb:Ext w w_b4:=inferInstance
 have zz:=eb.size
 have hB4:Bk w_b4 b4 [.int .i64 0,.int .i64 0,.int .i64 0] 112:=inferInstance
 refine W.draw (fun w'=>Ext w_b4 w') ?_
 intro u1 hu1
 (refine jjV [0,1,2,3,4,5,6,7] ?_ ?_ ?_;(decide +kernel);(exact hu1.ext);(((apply jjT;exact rfl;rintro w' hq;have:=(hAk.ext eb).ext hq;have:=A3.ext hq;refine jI (eP rfl) (jz ?_);exact ⟨rfl,rfl⟩;apply jjT;exact rfl;rintro w' hq;have:=(hAk.ext eb).ext hq;have:=A3.ext hq;refine jw rfl (jz ?_);exact ⟨rfl,rfl⟩;apply jjT;exact rfl;rintro w' hq;have:=(hAk.ext eb).ext hq;have:=A3.ext hq;refine jm (jn rfl (jz ?_));exact ⟨rfl,rfl⟩;apply jjT;exact rfl;rintro w' hq;have:=(hAk.ext eb).ext hq;have:=A3.ext hq;refine jN rfl rfl rfl (jz ?_);exact ⟨rfl,rfl⟩;apply jjT;exact rfl;rintro w' hq;have:=(hAk.ext eb).ext hq;have:=A3.ext hq;refine jm (jn rfl (jz ?_));exact ⟨rfl,rfl⟩;apply jjT;exact rfl;rintro w' hq;have:=(hAk.ext eb).ext hq;have:=A3.ext hq;refine jN rfl rfl rfl (jz ?_);exact ⟨rfl,rfl⟩;apply jjT;exact rfl;rintro w' hq;have:=(hAk.ext eb).ext hq;have:=A3.ext hq;refine jm (jn rfl (jz ?_));exact ⟨rfl,rfl⟩;apply jjT;exact rfl;rintro w' hq;have:=(hAk.ext eb).ext hq;have:=A3.ext hq;refine jN rfl rfl rfl (jz ?_);exact ⟨rfl,rfl⟩;refine jjU ?_))))
 refine jjV [8] (by decide +kernel) hu1.ext (jjT (v:=encII (0,1)) rfl (fun w' q1=>?_) (jjU ?_));(refine jjS (cells:=[.int .i64 0,.int .i64 1]) ?_ ?_;exact rfl;refine jz ?_;exact ⟨rfl,rfl⟩)
 refine jjV [9] (by decide +kernel) hu1.ext (jjT (v:=.tuple #[encII (4,7),.bool true]) rfl (fun w' q1=>?_) (jjU ?_));(refine Ops.lookupOk (k:=((0:Int),(1:Int))) (encK:=encII) ((hM1.ext eb).ext q1) rfl rfl ?_;refine jz ?_;exact ⟨rfl,rfl⟩)
 (refine jjV [10,11,12] ?_ ?_ ?_;(decide +kernel);(exact hu1.ext);(((refine jjT rfl (fun _ _=>jI (eU rfl) (jz ⟨rfl,rfl⟩)) (jjT rfl (fun _ _=>ju rfl rfl (jz ⟨rfl,rfl⟩)) (jjT rfl (fun _ _=>ju rfl rfl (jz ⟨rfl,rfl⟩)) (jjU ?_)))))))
 have x1:=hu1.ext
 (apply jjW 13;(decide +kernel);exact rfl;(exact x1))
 refine jjY ?_
 intro b6 v6 hb6 hs6 hv6 hk6
 have k6:Bk v6 b6 [.int .i64 0,.int .i64 0] 215:=Bk.of hk6
 have z6:w_b4.heap.size≤b6:=by rw [hb6];exact Ext.size inferInstance
 refine jz ?_
 (apply jjW 14;(decide +kernel);exact rfl;(exact inferInstance))
 refine Ops.store rfl rfl rfl rfl rfl ?_
 intro u4 hp4
 have e4:Ext w_b4 u4:=hp4.ext inferInstance z6
 have A6:At u4 b6 0 [.int .i64 4,.int .i64 7]:=Bk.toAt (h:=Bk.of hp4.new)
 have A34:=A3.ext e4
 refine jz ?_
 (refine jjV [15] ?_ ?_ ?_;(decide +kernel);(exact e4);(((refine jjT rfl (fun _ _=>jJ (eB rfl) (jz ⟨rfl,rfl⟩)) (jjU ?_)))))
 refine jjX (by decide +kernel) e4 ?_
 (refine jjB (jjB (jjC (jI (eB rfl) (jp rfl (jz ?_)))));refine jjK rfl (jjG (jjB (jjC ?_))))
 refine Ops.indexAP 0 rfl rfl rfl rfl ?_
 (refine jN rfl rfl rfl ?_)
 refine Ops.indexAP 1 rfl rfl rfl rfl ?_
 (refine jN rfl rfl rfl (jm (jn rfl (jN rfl rfl rfl (jY rfl rfl (by omega) ?_)))))
 (refine jjS (cells:=[.int .i64 4,.int .i64 7,.int .i64 3]) ?_ ?_;exact rfl)
 have hB4':=hB4.ext e4
 refine Ops.store rfl rfl rfl rfl rfl ?_
 intro u5 hp5
 have:=Bk.toAt (h:=Bk.of hp5.new)
 (refine jJ (eB rfl) (jz (jjF ?_)))
 exact fin2C rfl rfl rfl rfl rfl rfl ⟨hp5.ext (eb.trans e4) (by rw [hb_b4];exact hS_b3.size),rfl⟩
variable (b:Option Addr) (d:Nat) (ls:List Ln) [hrow:RowI w (.slice a ([(3,b,d,ls)]:List Ch).length c) true 2 (([(3,b,d,ls)]:List Ch).map encCh)] [hT:TextI w [(3,b,d,ls)]] (h:txF [(3,b,d,ls)]=tqT)
include hB hrow hT h in
set_option maxHeartbeats 2000000 in
theorem lead_chart:Ct Tryz.prog 86 [.pointer (some ⟨bk,0,none⟩),encPl (4,7,2)] w fun v _=>v=.tuple #[encPl (0,1,1),.bool true]:=by
 obtain ⟨l0,l1,rfl,hw3⟩:=tq_lines h
 have gp:(([(3,b,d,[l0,l1])]:List Ch).map encCh)[0]?=some (encCh (3,b,d,[l0,l1])):=rfl
 obtain ⟨pb,po,rfl,-⟩:=hrow.h.place' gp
 have AC:∀ V,Ext w V→At V pb (po+0 * 2) [.int .i64 3,.slice b [l0,l1].length d]:=fun V hE=>place_k (hrow.h.ext hE) gp
 have hl:=hT.1 _ (List.mem_singleton.2 rfl)
 obtain ⟨lb,lo,hbe,-⟩:=hl.place' (j:=1) rfl
 replace hbe:b=some ⟨lb,lo,none⟩:=hbe
 subst hbe
 have AL:∀ V,Ext w V→At V lb (lo+1 * 1) [.slice l1.1 l1.2.2.length l1.2.1]:=fun V hE=>place_k (hl.ext hE) (j:=1) rfl
 clear hl
 obtain ⟨ea,ec,m1,m2,hAk,hM1,hM2⟩:=hB.h
 clear hrow hT
 refine Ct.ofW (by simp) ?_
 (refine jjB (jjC ?_))
 (refine jy rfl ?_;intro b3 w_b3 hb_b3 hs_b3 hS_b3 hk_b3;have hA_b3:=At.ofBlock hk_b3)
 ((skip);refine jjY ?_;intro b4 w_b4 hb_b4 hs_b4 hS_b4 hk_b4;have hA_b4:=Bk.of hk_b4)
 have A3:At w_b4 b3 0 [.int .i64 4,.int .i64 7,.int .i64 2]:=(At.ofBlock hk_b3).ext hS_b4.ext
 (refine jJ (eB rfl) (jz (jjB ?_)))
 have eb:Ext w w_b4:=inferInstance
 have zz:=eb.size
 have hB4:Bk w_b4 b4 [.int .i64 0,.int .i64 0,.int .i64 0] 48:=inferInstance
 refine W.draw (fun w'=>Ext w_b4 w') ?_
 intro u1 hu1
 (refine jjV [0,1,2,3,4,5,6,7] ?_ ?_ ?_;(decide +kernel);(exact hu1.ext);(((apply jjT;exact rfl;rintro w' hq;have:=(hAk.ext eb).ext hq;have:=A3.ext hq;refine jI (eP rfl) (jz ?_);exact ⟨rfl,rfl⟩;apply jjT;exact rfl;rintro w' hq;have:=(hAk.ext eb).ext hq;have:=A3.ext hq;refine jw rfl (jz ?_);exact ⟨rfl,rfl⟩;apply jjT;exact rfl;rintro w' hq;have:=(hAk.ext eb).ext hq;have:=A3.ext hq;refine jm (jn rfl (jz ?_));exact ⟨rfl,rfl⟩;apply jjT;exact rfl;rintro w' hq;have:=(hAk.ext eb).ext hq;have:=A3.ext hq;refine jN rfl rfl rfl (jz ?_);exact ⟨rfl,rfl⟩;apply jjT;exact rfl;rintro w' hq;have:=(hAk.ext eb).ext hq;have:=A3.ext hq;refine jm (jn rfl (jz ?_));exact ⟨rfl,rfl⟩;apply jjT;exact rfl;rintro w' hq;have:=(hAk.ext eb).ext hq;have:=A3.ext hq;refine jN rfl rfl rfl (jz ?_);exact ⟨rfl,rfl⟩;apply jjT;exact rfl;rintro w' hq;have:=(hAk.ext eb).ext hq;have:=A3.ext hq;refine jm (jn rfl (jz ?_));exact ⟨rfl,rfl⟩;apply jjT;exact rfl;rintro w' hq;have:=(hAk.ext eb).ext hq;have:=A3.ext hq;refine jN rfl rfl rfl (jz ?_);exact ⟨rfl,rfl⟩;refine jjU ?_))))
 refine jjV [8] (by decide +kernel) hu1.ext (jjT (v:=encII (4,7)) rfl (fun w' q1=>?_) (jjU ?_));(refine jjS (cells:=[.int .i64 4,.int .i64 7]) ?_ ?_;exact rfl;refine jz ?_;exact ⟨rfl,rfl⟩)
 refine jjV [9] (by decide +kernel) hu1.ext (jjT (v:=.tuple #[encII (0,1),.bool true]) rfl (fun w' q1=>?_) (jjU ?_));(refine Ops.lookupOk (k:=((4:Int),(7:Int))) (encK:=encII) ((hM2.ext eb).ext q1) rfl rfl ?_;refine jz ?_;exact ⟨rfl,rfl⟩)
 (refine jjV [10,11,12] ?_ ?_ ?_;(decide +kernel);(exact hu1.ext);(((refine jjT rfl (fun _ _=>jI (eU rfl) (jz ⟨rfl,rfl⟩)) (jjT rfl (fun _ _=>ju rfl rfl (jz ⟨rfl,rfl⟩)) (jjT rfl (fun _ _=>ju rfl rfl (jz ⟨rfl,rfl⟩)) (jjU ?_)))))))
 have x1:=hu1.ext
 (apply jjW 13;(decide +kernel);exact rfl;(exact x1))
 refine jjY ?_
 intro b6 v6 hb6 hs6 hv6 hk6
 have k6:Bk v6 b6 [.int .i64 0,.int .i64 0] 215:=Bk.of hk6
 have z6:w_b4.heap.size≤b6:=by rw [hb6];exact Ext.size inferInstance
 refine jz ?_
 (apply jjW 14;(decide +kernel);exact rfl;(exact inferInstance))
 refine Ops.store rfl rfl rfl rfl rfl ?_
 intro u4 hp4
 have e4:Ext w_b4 u4:=hp4.ext inferInstance z6
 have A6:At u4 b6 0 [.int .i64 0,.int .i64 1]:=Bk.toAt (h:=Bk.of hp4.new)
 have A34:=A3.ext e4
 refine jz ?_
 (refine jjV [15] ?_ ?_ ?_;(decide +kernel);(exact e4);(((refine jjT rfl (fun _ _=>jJ (eB rfl) (jz ⟨rfl,rfl⟩)) (jjU ?_)))))
 refine jjX (by decide +kernel) e4 ?_
 (refine jjB (jjB ?_))
 have e4w:Ext w u4:=eb.trans e4
 refine W.draw (fun w'=>Ext u4 w') ?_
 intro u5 hu5
 (refine jjV [0,1,2,3,4,5,6,7,8,9] ?_ ?_ ?_;(decide +kernel);(exact hu5.ext);(((apply jjT;exact rfl;rintro w' hq;have:=(hAk.ext e4w).ext hq;have:=A34.ext hq;refine jI (eB rfl) (jz ?_);exact ⟨rfl,rfl⟩;apply jjT;exact rfl;rintro w' hq;have:=(hAk.ext e4w).ext hq;have:=A34.ext hq;refine jp rfl (jz ?_);exact ⟨rfl,rfl⟩;apply jjT;exact rfl;rintro w' hq;have:=(hAk.ext e4w).ext hq;have:=A34.ext hq;refine jI (eB rfl) (jz ?_);exact ⟨rfl,rfl⟩;apply jjT;exact rfl;rintro w' hq;have:=(hAk.ext e4w).ext hq;have:=A34.ext hq;refine jT rfl rfl rfl (jm (jn rfl (jz ?_)));exact ⟨rfl,rfl⟩;apply jjT;exact rfl;rintro w' hq;have:=(hAk.ext e4w).ext hq;have:=A34.ext hq;refine jT rfl rfl rfl (jN rfl rfl rfl (jz ?_));exact ⟨rfl,rfl⟩;apply jjT;exact rfl;rintro w' hq;have:=(hAk.ext e4w).ext hq;have:=A34.ext hq;refine jT rfl rfl rfl (jI (eP rfl) (jz ?_));exact ⟨rfl,rfl⟩;apply jjT;exact rfl;rintro w' hq;have:=(hAk.ext e4w).ext hq;have:=A34.ext hq;refine jT rfl rfl rfl (jw rfl (jz ?_));exact ⟨rfl,rfl⟩;apply jjT;exact rfl;rintro w' hq;have:=(hAk.ext e4w).ext hq;have:=A34.ext hq;refine jT rfl rfl rfl (jm (jn rfl (jz ?_)));exact ⟨rfl,rfl⟩;apply jjT;exact rfl;rintro w' hq;have:=(hAk.ext e4w).ext hq;have:=A34.ext hq;refine jT rfl rfl rfl (jm (jn rfl (jz ?_)));exact ⟨rfl,rfl⟩;apply jjT;exact rfl;rintro w' hq;have:=(hAk.ext e4w).ext hq;have:=A34.ext hq;refine jT rfl rfl rfl (jN rfl rfl rfl (jz ?_));exact ⟨rfl,rfl⟩;refine jjU ?_))))
 refine jjV [10] (by decide +kernel) hu5.ext (jjT (v:=.pointer (some ⟨b6,0,none⟩)) rfl (fun w' q1=>?_) (jjU ?_));(refine jT rfl rfl rfl ?_;refine Ops.indexAP 0 rfl rfl rfl rfl ?_;refine jz ?_;exact ⟨rfl,rfl⟩)
 (refine jjV [11] ?_ ?_ ?_;(decide +kernel);(exact hu5.ext);(((apply jjT;exact rfl;rintro w' hq;have:=A6.ext hq;refine jT rfl rfl rfl (jN rfl rfl rfl (jz ?_));exact ⟨rfl,rfl⟩;refine jjU ?_))))
 refine jjV [12] (by decide +kernel) hu5.ext (jjT (v:=.pointer (some ⟨pb,po+0 * 2,none⟩)) rfl (fun w' q1=>?_) (jjU ?_));(refine jT rfl rfl rfl ?_;refine jH 0 rfl rfl rfl (by omega) ?_;refine jz ?_;exact ⟨rfl,rfl⟩)
 (refine jjV [13,14] ?_ ?_ ?_;(decide +kernel);(exact hu5.ext);(((apply jjT;exact rfl;rintro w' hq;have:=AC w' (e4w.trans hq);refine jT rfl rfl rfl (jm (jn rfl (jz ?_)));exact ⟨rfl,rfl⟩;apply jjT;exact rfl;rintro w' hq;have:=AC w' (e4w.trans hq);refine jT rfl rfl rfl (jP rfl rfl rfl (jz ?_));exact ⟨rfl,rfl⟩;refine jjU ?_))))
 refine jjV [15] (by decide +kernel) hu5.ext (jjT (v:=.pointer (some ⟨b6,1,none⟩)) rfl (fun w' q1=>?_) (jjU ?_));(refine jT rfl rfl rfl ?_;refine Ops.indexAP 1 rfl rfl rfl rfl ?_;refine jz ?_;exact ⟨rfl,rfl⟩)
 (refine jjV [16] ?_ ?_ ?_;(decide +kernel);(exact hu5.ext);(((apply jjT;exact rfl;rintro w' hq;have:=A6.ext hq;refine jT rfl rfl rfl (jN rfl rfl rfl (jz ?_));exact ⟨rfl,rfl⟩;refine jjU ?_))))
 refine jjV [17] (by decide +kernel) hu5.ext (jjT (v:=.pointer (some ⟨lb,lo+1 * 1,none⟩)) rfl (fun w' q1=>?_) (jjU ?_));(refine jT rfl rfl rfl ?_;refine jH 1 rfl rfl rfl (by simp) ?_;refine jz ?_;exact ⟨rfl,rfl⟩)
 refine jjV [18] (by decide +kernel) hu5.ext (jjT (v:=.slice l1.1 l1.2.2.length l1.2.1) rfl (fun w' q1=>?_) (jjU ?_));(refine jT rfl rfl rfl ?_;refine jR ((AL _ (e4w.trans q1)).get (i:=0) rfl) rfl rfl ?_;refine jz ?_;exact ⟨rfl,rfl⟩)
 (refine jjV [19] ?_ ?_ ?_;(decide +kernel);(exact hu5.ext);(((refine jjT rfl (fun _ _=>jT rfl rfl rfl (jh rfl (jz ⟨rfl,rfl⟩))) (jjU ?_)))))
 refine jjV [20] (by decide +kernel) hu5.ext (jjT (v:=.bool false) rfl (fun w' q1=>?_) (jjU ?_));(refine jT rfl rfl rfl (jje rfl rfl (by omega) (jz ?_));exact ⟨rfl,rfl⟩)
 (refine jjV [21] ?_ ?_ ?_;(decide +kernel);(exact hu5.ext);(((refine jjT rfl (fun _ _=>jL rfl (eB rfl) (jz ⟨rfl,rfl⟩)) (jjU ?_)))))
 refine jjX (by decide +kernel) hu5.ext ?_
 have A35:=A34.ext hu5.ext
 have A65:=A6.ext hu5.ext
 (refine jjK rfl (jjG (jjB (jjC ?_))))
 refine Ops.indexAP 0 rfl rfl rfl rfl ?_
 (refine jN rfl rfl rfl ?_)
 refine Ops.indexAP 1 rfl rfl rfl rfl ?_
 (refine jN rfl rfl rfl (jm (jn rfl (jN rfl rfl rfl (jZ rfl rfl (by omega) ?_)))))
 (refine jjS (cells:=[.int .i64 0,.int .i64 1,.int .i64 1]) ?_ ?_;exact rfl)
 have hB4':=(hB4.ext e4).ext hu5.ext
 refine Ops.store rfl rfl rfl rfl rfl ?_
 intro u6 hp6
 have:=Bk.toAt (h:=Bk.of hp6.new)
 (refine jJ (eB rfl) (jz (jjF ?_)))
 exact fin2C rfl rfl rfl rfl rfl rfl ⟨hp6.ext (e4w.trans hu5.ext) (by rw [hb_b4];exact hS_b3.size),rfl⟩
end

section
variable (a:Option Addr) (c:Nat) (b:Option Addr) (d:Nat) (ls:List Ln) (w:World) [hrow:RowI w (.slice a ([(3,b,d,ls)]:List Ch).length c) true 2 (([(3,b,d,ls)]:List Ch).map encCh)] [hT:TextI w [(3,b,d,ls)]] [hg:At w 3 0 checksC] (h:txF [(3,b,d,ls)]=tqT) (hl:ls.length=2) (ea:Option Addr) (ec:Nat) [hE:RowI w (.slice ea 1 ec) true 5 ([tqS].map encSt)]
include hrow hT hg h hl hE in
set_option maxHeartbeats 1000000 in
theorem Refer_chart:Ct Tryz.prog 46 [.agg #[.slice a 1 c],encEd ea ec 1,encPl (0,1,2)] w fun v _=>v=.tuple #[encPl (4,7,3),.int .i64 0]:=by
 refine Ct.ofW (by simp) ?_
 (refine jjB (jjC ?_))
 (refine jy rfl ?_;intro b3 w_b3 hb_b3 hs_b3 hS_b3 hk_b3;have hA_b3:=At.ofBlock hk_b3)
 skip
 (refine jy rfl ?_;intro b4 w_b4 hb_b4 hs_b4 hS_b4 hk_b4;have hA_b4:=At.ofBlock hk_b4)
 skip
 (refine jy rfl ?_;intro b5 w_b5 hb_b5 hs_b5 hS_b5 hk_b5;have hA_b5:=At.ofBlock hk_b5)
 ((skip);refine jjY ?_;intro b6 w_b6 hb_b6 hs_b6 hS_b6 hk_b6;have hA_b6:=Bk.of hk_b6)
 have A3:At w_b6 b3 0 [.slice a 1 c]:=(((At.ofBlock hk_b3).ext hS_b4.ext).ext hS_b5.ext).ext hS_b6.ext
 have A4:At w_b6 b4 0 [.int .i64 1,.slice ea 1 ec]:=((At.ofBlock hk_b4).ext hS_b5.ext).ext hS_b6.ext
 have A5:At w_b6 b5 0 [.int .i64 0,.int .i64 1,.int .i64 2]:=(At.ofBlock hk_b5).ext hS_b6.ext
 have hB6:Bk w_b6 b6 [.int .i64 0,.int .i64 0,.int .i64 0] 112:=inferInstance
 (refine jJ (eI rfl) (jz (jjB (jjC (jO rfl rfl rfl rfl (jO rfl rfl rfl rfl ?_)))));refine jO rfl rfl rfl rfl ?_)
 refine jjQ (placed_chart a c b d ls _ h hl ea ec (0,1,2) (by kernel_rfl)) rfl rfl ?_
 rintro _ w7 hS7 ⟨bk,rfl,hB⟩
 (refine jI (eU rfl) (ju rfl rfl (ju rfl rfl (jJ (eP rfl) (jJ (eI rfl) (jz ?_)))));refine jjB (jjB (jjC (jI (eI rfl) (jjk rfl rfl (by omega) (jz ?_)))));refine jjK rfl (jjG (jjB (jjC (jI (eP rfl) (jO rfl rfl rfl rfl ?_))))))
 refine jjQ (refer_chart a c _ bk hB) rfl rfl ?_
 rintro _ w8 hS8 rfl
 (((refine jI (eU rfl) (ju rfl rfl (ju rfl rfl ?_))));refine jjY ?_;intro b10 w_b10 hb_b10 hs_b10 hS_b10 hk_b10;have hA_b10:=Bk.of hk_b10)
 skip
 refine Ops.store rfl rfl rfl rfl rfl ?_
 intro u1 hp1
 have e0:Ext w_b6 w_b10:=inferInstance
 have z1:w_b6.heap.size≤b10:=by rw [hb_b10];exact Ext.size inferInstance
 have e1:Ext w_b6 u1:=hp1.ext e0 z1
 have A10:At u1 b10 0 [.int .i64 4,.int .i64 7,.int .i64 3]:=Bk.toAt (h:=Bk.of hp1.new)
 have hB6':=hB6.ext e1
 (refine jJ (eB rfl) (jz (jjB (jjB (jjC (jI (eB rfl) ?_)))));refine jp rfl (jz (jjK rfl (jjG (jjB (jjC ?_)))));refine jO rfl rfl rfl rfl ?_)
 refine Ops.store rfl rfl rfl rfl rfl ?_
 intro u2 hp2
 have:=Bk.toAt (h:=Bk.of hp2.new)
 have e6:Ext w w_b6:=inferInstance
 have z6:w.heap.size≤b6:=by rw [hb_b6];exact Ext.size inferInstance
 (refine jJ (eI rfl) (jz (jjF ?_)))
 exact fin2C rfl rfl rfl rfl rfl rfl ⟨hp2.ext (e6.trans e1) z6,rfl⟩
include hrow hT hg h hl hE in
set_option maxHeartbeats 1000000 in
theorem numbered_chart (va:Option Addr) (vc:Nat) [hV:RowI w (.slice va 1 vc) true 2 ([(1:Int)].map (encEd ea ec))]:Ct Tryz.prog 85 [.agg #[.slice a 1 c],encPl (4,7,2),.slice va 1 vc] w fun v w'=>∃ la lc bk,v=.tuple #[.slice la 1 lc,.int .i64 0]∧RowV w' false 1 (.slice la 1 lc) [.pointer (some ⟨bk,0,none⟩)]∧BookC w' bk a c:=by
 refine Ct.ofW (by simp) ?_
 (refine jjB (jjC ?_))
 (refine jy rfl ?_;intro b3 w_b3 hb_b3 hs_b3 hS_b3 hk_b3;have hA_b3:=At.ofBlock hk_b3)
 skip
 (refine jy rfl ?_;intro b4 w_b4 hb_b4 hs_b4 hS_b4 hk_b4;have hA_b4:=At.ofBlock hk_b4)
 have A3:At w_b4 b3 0 [.slice a 1 c]:=(At.ofBlock hk_b3).ext hS_b4.ext
 have A4:At w_b4 b4 0 [.int .i64 4,.int .i64 7,.int .i64 2]:=At.ofBlock hk_b4
 (refine jJ (eS rfl) (jJ (eI rfl) (jz (jjB (jjC (jO rfl rfl rfl rfl ?_)))));refine jI (eS rfl) ?_)
 refine jjQ (sound_chart a c b d ls _ h hl ea ec va vc) rfl rfl ?_
 rintro _ w4 hS4 ⟨la,lc,bk,rfl,hR,hB⟩
 (refine jI (eU rfl) (ju rfl rfl (ju rfl rfl (jJ (eS rfl) (jJ (eI rfl) (jz ?_)))));refine jjB (jjB (jjC (jI (eI rfl) (jjk rfl rfl (by omega) (jz ?_)))));refine jjK rfl (jjG (jjB (jjB (jjC (jm ?_)))));refine jn rfl (jN rfl rfl rfl (jm (jn rfl (jN rfl rfl rfl (jm ?_)))));refine jn rfl (jN rfl rfl rfl ?_))
 refine Ops.buildSliceF (cells:=[.int .i64 4,.int .i64 7,.int .i64 2]) rfl rfl rfl ?_
 intro b9 w5 hb9 hs9 hS5 hk9
 have R9:RowV w5 false 1 (.slice (some ⟨b9,0,none⟩) 3 3) [.int .i64 4,.int .i64 7,.int .i64 2]:=hk9.row (fun x hx=>by simp at hx;rcases hx with rfl|rfl|rfl<;>rfl) (by simp)
 skip
 refine jjQ (inThree_chart 1 999 4 7 2 b9 _ (by omega) (by omega) (by omega) R9) rfl rfl ?_
 rintro _ w6 hS6 rfl
 (refine jp rfl (jz (jjK rfl (jjG (jjB (jjC ?_)))));refine jI (eS rfl) (jJ (eS rfl) (jJ (eI rfl) (jz (jjF ?_))));refine jC rfl rfl rfl ⟨inferInstance,?_⟩)
 exact ⟨la,lc,bk,rfl,hR.ext (hS5.ext.trans hS6.ext),hB.ext (hS5.ext.trans hS6.ext)⟩
include hrow hT hg h hl hE in
set_option maxHeartbeats 1000000 in
theorem Lead_chart:Ct Tryz.prog 48 [.agg #[.slice a 1 c],encEd ea ec 1,encPl (4,7,2)] w fun v _=>v=.tuple #[encPl (0,1,1),.int .i64 0]:=by
 refine Ct.ofW (by simp) ?_
 (refine jjB (jjC ?_))
 (refine jy rfl ?_;intro b3 w_b3 hb_b3 hs_b3 hS_b3 hk_b3;have hA_b3:=At.ofBlock hk_b3)
 skip
 (refine jy rfl ?_;intro b4 w_b4 hb_b4 hs_b4 hS_b4 hk_b4;have hA_b4:=At.ofBlock hk_b4)
 skip
 (refine jy rfl ?_;intro b5 w_b5 hb_b5 hs_b5 hS_b5 hk_b5;have hA_b5:=At.ofBlock hk_b5)
 ((skip);refine jjY ?_;intro b6 w_b6 hb_b6 hs_b6 hS_b6 hk_b6;have hA_b6:=Bk.of hk_b6)
 have A3:At w_b6 b3 0 [.slice a 1 c]:=(((At.ofBlock hk_b3).ext hS_b4.ext).ext hS_b5.ext).ext hS_b6.ext
 have A4:At w_b6 b4 0 [.int .i64 1,.slice ea 1 ec]:=((At.ofBlock hk_b4).ext hS_b5.ext).ext hS_b6.ext
 have A5:At w_b6 b5 0 [.int .i64 4,.int .i64 7,.int .i64 2]:=(At.ofBlock hk_b5).ext hS_b6.ext
 have hB6:Bk w_b6 b6 [.int .i64 0,.int .i64 0,.int .i64 0] 48:=inferInstance
 (refine jJ (eI rfl) (jz (jjB (jjC (jO rfl rfl rfl rfl (jO rfl rfl rfl rfl ?_)))));refine jO rfl rfl rfl rfl ?_)
 (refine jjP (v:=.agg _) rfl (by exact rfl) (by exact rfl) (by exact rfl) (by exact rfl) ?_;intro b15 w_b15 hb_b15 hs_b15 hS_b15 hk_b15;have hR_b15:=RowV.one (agg:=true) (k:=2) rfl hk_b15)
 have hV:RowI w_b15 (.slice (some ⟨b15,0,none⟩) 1 1) true 2 ([(1:Int)].map (encEd ea ec)):=⟨hR_b15⟩
 skip
 refine jjQ (numbered_chart a c b d ls _ h hl ea ec (some ⟨b15,0,none⟩) 1) rfl rfl ?_
 rintro _ w7 hS7 ⟨la,lc,bk,rfl,hR,hB⟩
 obtain ⟨pb,po,rfl,hAp⟩:=hR.place' (j:=0) rfl
 (refine jI (eU rfl) (ju rfl rfl (ju rfl rfl (jJ (eS rfl) (jJ (eI rfl) (jz ?_)))));refine jjB (jjB (jjC (jI (eI rfl) (jjk rfl rfl (by omega) (jz ?_)))));refine jjK rfl (jjG (jjB ?_)))
 have e6:Ext w_b6 w7:=inferInstance
 have A57:=A5.ext e6
 refine W.draw (fun w'=>Ext w7 w') ?_
 intro u1 hu1
 refine AnyS.mono (K':=fun s w'=>s 6=.pointer (some ⟨b6,0,none⟩)∧∃ b10,s 10=.pointer (some ⟨b10,0,none⟩)∧s 11=.bool true∧At w' b10 0 [.int .i64 0,.int .i64 1,.int .i64 1]∧Ext w7 w') ?_ ?_
 rotate_left
 ·(refine jjV [0] ?_ ?_ ?_;(decide +kernel);(exact hu1.ext);(((refine jjT rfl (fun _ _=>jI (eS rfl) (jz ⟨rfl,rfl⟩)) (jjU ?_)))))
  refine jjV [1] (by decide +kernel) hu1.ext (jjT (v:=.pointer (some ⟨pb,po+0 * 1,none⟩)) rfl (fun w' q1=>?_) (jjU ?_));(refine jH 0 rfl rfl rfl (by simp) ?_;refine jz ?_;exact ⟨rfl,rfl⟩)
  refine jjV [2] (by decide +kernel) hu1.ext (jjT (v:=.pointer (some ⟨bk,0,none⟩)) rfl (fun w' q1=>?_) (jjU ?_));(refine jR ((hAp.ext q1).get (i:=0) rfl) rfl rfl ?_;refine jz ?_;exact ⟨rfl,rfl⟩)
  (refine jjV [3] ?_ ?_ ?_;(decide +kernel);(exact hu1.ext);(((apply jjT;exact rfl;rintro w' hq;have:=A57.ext hq;refine jO rfl rfl rfl rfl (jz ?_);exact ⟨rfl,rfl⟩;refine jjU ?_))))
  have x1:=hu1.ext
  refine jjl 4 8 (by decide +kernel) rfl rfl inferInstance ?_ ?_
  ·refine jjQ (lead_chart a c _ bk (hB.ext inferInstance) b d ls h) rfl rfl ?_;rintro _ w9 hS9 rfl;refine jz ?_;(refine jjV [5,6,7] ?_ ?_ ?_;(decide +kernel);(exact inferInstance);(((refine jjT rfl (fun _ _=>jI (eU rfl) (jz ⟨rfl,rfl⟩)) (jjT rfl (fun _ _=>ju rfl rfl (jz ⟨rfl,rfl⟩)) (jjT rfl (fun _ _=>ju rfl rfl (jz ⟨rfl,rfl⟩)) (jjU ?_)))))))
   (apply jjW 8;(decide +kernel);exact rfl;(exact inferInstance))
   refine jjY ?_;intro b10 v10 hb10 hs10 hv10 hk10;have k10:Bk v10 b10 [.int .i64 0,.int .i64 0,.int .i64 0] 48:=Bk.of hk10;have z10:w7.heap.size≤b10:=(by rw [hb10];exact Ext.size inferInstance);refine jz ?_
   (apply jjW 9;(decide +kernel);exact rfl;(exact inferInstance));refine Ops.store rfl rfl rfl rfl rfl ?_;intro u4 hp4;have e4:Ext w7 u4:=hp4.ext inferInstance z10;refine jz ?_;(refine jjV [10] ?_ ?_ ?_;(decide +kernel);(exact e4);(((refine jjT rfl (fun _ _=>jJ (eB rfl) (jz ⟨rfl,rfl⟩)) (jjU ?_)))));refine jjX (by decide +kernel) e4 ?_;exact ⟨rfl,b10,rfl,rfl,Bk.toAt (h:=Bk.of hp4.new),e4⟩
  ·refine jjY ?_;intro b10 v10 hb10 hs10 hv10 hk10;have k10:Bk v10 b10 [.int .i64 0,.int .i64 0,.int .i64 0] 48:=Bk.of hk10;have z10:w7.heap.size≤b10:=(by rw [hb10];exact Ext.size inferInstance);refine jz ?_
   (apply jjW 4;(decide +kernel);exact rfl;(exact inferInstance))
   refine jjQ (lead_chart a c _ bk (hB.ext inferInstance) b d ls h) rfl rfl ?_;rintro _ w9 hS9 rfl;refine jz ?_;(refine jjV [5,6,7] ?_ ?_ ?_;(decide +kernel);(exact inferInstance);(((refine jjT rfl (fun _ _=>jI (eU rfl) (jz ⟨rfl,rfl⟩)) (jjT rfl (fun _ _=>ju rfl rfl (jz ⟨rfl,rfl⟩)) (jjT rfl (fun _ _=>ju rfl rfl (jz ⟨rfl,rfl⟩)) (jjU ?_)))))))
   (apply jjW 9;(decide +kernel);exact rfl;(exact inferInstance));refine Ops.store rfl rfl rfl rfl rfl ?_;intro u4 hp4;have e4:Ext w7 u4:=hp4.ext inferInstance z10;refine jz ?_;(refine jjV [10] ?_ ?_ ?_;(decide +kernel);(exact e4);(((refine jjT rfl (fun _ _=>jJ (eB rfl) (jz ⟨rfl,rfl⟩)) (jjU ?_)))));refine jjX (by decide +kernel) e4 ?_;exact ⟨rfl,b10,rfl,rfl,Bk.toAt (h:=Bk.of hp4.new),e4⟩
 rintro s u4 ⟨h6,b10,h10,h11,A10,e4⟩
 refine W.keep0 [(6,.pointer (some ⟨b6,0,none⟩)),(10,.pointer (some ⟨b10,0,none⟩)),(11,.bool true)] ⟨h6,h10,h11,trivial⟩ fun s0=>?_
 have hB6':=(hB6.ext e6).ext e4
 (refine jjB (jjB (jjC (jI (eB rfl) (jp rfl (jz ?_)))));refine jjK rfl (jjG (jjB (jjC (jO rfl rfl rfl rfl ?_)))))
 refine Ops.store rfl rfl rfl rfl rfl ?_
 intro u2 hp2
 have:=Bk.toAt (h:=Bk.of hp2.new)
 have e6w:Ext w w_b6:=inferInstance
 have z6:w.heap.size≤b6:=by rw [hb_b6];exact Ext.size inferInstance
 (refine jJ (eI rfl) (jz (jjF ?_)))
 exact fin2C rfl rfl rfl rfl rfl rfl ⟨hp2.ext ((e6w.trans e6).trans e4) z6,rfl⟩
end

section
variable {rs:List Rd} {l:List ByteArray} {k n:Int} (hn:nextsB rs=true) (hf:∀ r∈rs,r.1.1=k→r.1.2.1=n→fitR l r.1.2.2 r.2.1 r.2.2=true) (hl:∀ s∈l,wordB s=true)
include hn hf hl
end

section
variable {t:Tx} {id:Int} {rs:List Rd} (ht:textB t=true) (hc:copyB t id rs=true)
include ht hc
end

theorem good_of_copy {t:Tx} {id:Int} {rs:List Rd} (h:copyB t id rs=true):GoodR rs:=by
 simp only [copyB,Bool.and_eq_true,List.all_eq_true,decide_eq_true_eq] at h
 obtain ⟨⟨⟨_,hl⟩,hr,hn⟩,_⟩:=h
 exact ⟨by omega,hn,fun r h=>(readB_kind (hr r h)).1,fun r h=>(readB_kind (hr r h)).2.1,fun r h=>(readB_kind (hr r h)).2.2⟩
set_option maxHeartbeats 2000000 in
theorem Read_leaf (a:Option Addr) (c:Nat) (cs:List Ch) (w:World) [hrow:RowI w (.slice a cs.length c) true 2 (cs.map encCh)] [hT:TextI w cs] [hg:At w 2 0 kindsC] (id:Int) (ra:Option Addr) (rc:Nat) (rs:List Rd) (hs:SmallT cs) (hrs:SmallR rs) (hc:cpE (txF cs) id rs=0)
  [hrd:RowI w (.slice ra rs.length rc) true 5 (rs.map encRd)] :
  Ct Tryz.prog 51 [.agg #[.slice a cs.length c],.agg #[.int .i64 id,.slice ra rs.length rc]] w fun v w'=>∃ a' c' ds,v=.tuple #[.agg #[.slice a' (List.length ds) c'],.int .i64 0]∧txF ds=readT (txF cs) rs∧RowV w' true 2 (.slice a' ds.length c') (ds.map encCh)∧TextI w' ds:=by
 obtain ⟨ht,hcp⟩:=cpE_zero hc
 refine Ct.ofW (by simp) ?_
 (refine jjB (jjC ?_))
 (refine jy rfl ?_;intro b2 w_b2 hb_b2 hs_b2 hS_b2 hk_b2;have hA_b2:=At.ofBlock hk_b2)
 skip
 (refine jy rfl ?_;intro b3 w_b3 hb_b3 hs_b3 hS_b3 hk_b3;have hA_b3:=At.ofBlock hk_b3)
 ((skip);refine jjY ?_;intro b4 w_b4 hb_b4 hs_b4 hS_b4 hk_b4;have hA_b4:=Bk.of hk_b4)
 (refine jJ (eI rfl) (jz (jjB (jjC (jO rfl rfl rfl rfl (jO rfl rfl rfl rfl ?_))))))
 refine jjQ ((copied_leaf a c cs _ id ra rc rs hs hrs).mono fun v _ _ h=>by rw [hc] at h;exact h) rfl rfl ?_
 rintro _ w5 hS5 ⟨o,rfl,ho⟩
 obtain ⟨bk,rfl,hAk⟩:=ho rfl
 (refine jI (eU rfl) (ju rfl rfl (ju rfl rfl (jJ (eP rfl) (jJ (eI rfl) (jz ?_)))));refine jjB (jjB (jjC (jI (eI rfl) (jjk rfl rfl (by omega) (jz ?_)))));refine jjK rfl (jjG (jjB (jjC (jI (eP rfl) (jO rfl rfl rfl rfl ?_))))))
 have hE5:Ext w w5:=inferInstance
 have zE5:=hE5.size
 have z2:=hS_b2.size
 have z3:=hS_b3.size
 have hB4:Bk w5 b4 [.slice none 0 0] 24:=inferInstance
 refine jjQ (read_leaf a c cs _ bk id ra rc rs hs (good_of_copy hcp)) rfl rfl ?_
 rintro _ w6 hS6 ⟨a',c',ds,rfl,htx,hO⟩
 skip
 have hB46:Bk w6 b4 [.slice none 0 0] 24:=inferInstance
 have hE6:Ext w w6:=inferInstance
 refine Ops.store rfl rfl rfl rfl rfl ?_
 intro V2 hp2
 have hl4:=hB4.lt
 have hO2:=hO.put hp2 (by omega)
 have hA4:At V2 b4 0 [.slice a' (ds.map encCh).length c']:=Bk.toAt (h:=Bk.of hp2.new)
 (refine jJ (eI rfl) (jz (jjF ?_)))
 have hr:=hO2.out.row
 rw [List.length_map] at hr
 exact fin2C rfl rfl rfl rfl rfl rfl ⟨hp2.ext hE6 (by omega),a',c',ds,by rw [List.length_map];rfl,htx,hr,hO2.text⟩

section
variable (a a':Option Addr) (c c':Nat) (cs ds:List Ch) (w:World) [hrow:RowI w (.slice a cs.length c) true 2 (cs.map encCh)] [hT:TextI w cs] [hrow':RowI w (.slice a' ds.length c') true 2 (ds.map encCh)] [hT':TextI w ds]
set_option maxHeartbeats 4000000 in
theorem Same_ref1 (hs:SmallT cs):Ct Tryz.prog 52 [.agg #[.slice a cs.length c],.agg #[.slice a' ds.length c']] w fun v _=>v=.bool (decide (txF cs=txF ds)):=by
 have hs1:=hs.1
 refine Ct.ofW (by simp) ?_
 (refine jjB (jjC ?_))
 (refine jy rfl ?_;intro b2 w_b2 hb_b2 hs_b2 hS_b2 hk_b2;have hA_b2:=At.ofBlock hk_b2)
 skip
 (refine jy rfl ?_;intro b3 w_b3 hb_b3 hs_b3 hS_b3 hk_b3;have hA_b3:=At.ofBlock hk_b3)
 by_cases hl:cs.length=ds.length
 rotate_left
 ·(refine jJ (eB rfl) (jz (jjB (jjB (jjC (jm ?_)))));refine jn rfl (jN rfl rfl rfl (jh rfl (jm (jn rfl (jN rfl rfl rfl ?_)))));refine jh rfl (jjj rfl rfl (by omega) (jz (jjJ rfl (jjB (jjC ?_)))));refine jJ (eB rfl) (jz (jjF ?_));refine jB rfl rfl ⟨inferInstance,?_⟩)
  rw [decide_eq_false (fun e=>hl (by have:=congrArg List.length e;rwa [txF_len,txF_len] at this))];exact rfl
 (refine jJ (eB rfl) (jz (jjB (jjB (jjC (jm ?_)))));refine jn rfl (jN rfl rfl rfl (jh rfl (jm (jn rfl (jN rfl rfl rfl ?_)))));refine jh rfl (jjk rfl rfl (by omega) (jz (jjK rfl (jjG (jjB ?_)))));refine jjB (jjC (jJ (eI rfl) (jz (jjD ?_)))))
 refine W.keep0 [(2,.pointer (some ⟨b2,0,none⟩)),(3,.pointer (some ⟨b3,0,none⟩)),(5,.int .i64 ((0:Nat):Int))] ⟨eP rfl,eP rfl,eI rfl,trivial⟩ fun s0=>?_
 refine W.loop (16::17::18::19::20::23::24::25::26::27::28::29::30::31::32::6::7::33::34::35::36::37::38::39::40::41::42::43::44::45::46::4::8::47::48::49::50::51::54::55::56::57::58::59::60::61::62::63::64::65::52::53::21::22::5::[]) (fun g s' V=>∃ k:Nat,s' 5=.int .i64 ((k:Nat):Int)∧g=cs.length-k∧k≤cs.length∧∀ (j:Nat) (hj:j<cs.length),j<k→txC cs[j]=txC (ds[j]'(by omega))) cs.length ⟨0,rfl,rfl,Nat.zero_le _,by intros;omega⟩ ?_
 rintro _ sd w1 hS1 ⟨k,h5,rfl,hk,hpre⟩
 refine W.fix h5 ?_
 clear h5
 by_cases hkc:k<cs.length
 rotate_left
 ·have e:txF cs=txF ds:=by
   refine List.ext_getElem (by rw [txF_len,txF_len];exact hl) fun j hj _=>?_
   rw [txF_len] at hj
   simpa [txF] using hpre j hj (by omega)
  (refine jjB (jjB (jjC (jI (eI rfl) (jm (jn rfl ?_)))));refine jN rfl rfl rfl (jh rfl (jja rfl rfl (by omega) (jz (jjK rfl (jjE ?_)))));refine jjB (jjC (jJ (eB rfl) (jz (jjF ?_))));refine jB rfl rfl ⟨inferInstance,?_⟩)
  rw [decide_eq_true e];exact rfl
 have hkd:k<ds.length:=by omega
 obtain ⟨ba,oa,rfl,hA⟩:=hrow.h.place' (map_get hkc)
 obtain ⟨bd,od,rfl,hD⟩:=hrow'.h.place' (map_get hkd)
 (refine jjB (jjB (jjC (jI (eI rfl) (jm (jn rfl ?_)))));refine jN rfl rfl rfl (jh rfl (jjZ rfl rfl (by omega) (jz (jjJ rfl (jjG ?_)))));refine jjB (jjD (jjB ?_)))
 refine W.draw (fun w'=>Ext w_b3 w') ?_
 intro w2 hS2
 have hE2:Ext w_b3 w2:=hS1.ext.trans hS2.ext
 (refine jjV [0,1,2,3,4,5,6,7,8,9] ?_ ?_ ?_;(decide +kernel);(exact hE2);(((apply jjT;exact rfl;rintro w' hq;have:=hq.toStep;refine jm (jn rfl (jz ?_));exact ⟨rfl,rfl⟩;apply jjT;exact rfl;rintro w' hq;have:=hq.toStep;refine jN rfl rfl rfl (jz ?_);exact ⟨rfl,rfl⟩;refine jjT rfl (fun _ _=>jI (eI rfl) (jz ⟨rfl,rfl⟩)) ?_;apply jjT;exact rfl;rintro w' hq;have:=hq.toStep;refine jH _ rfl rfl rfl (by omega) (jz ?_);exact ⟨rfl,rfl⟩;apply jjT;exact rfl;rintro w' hq;have:=hq.toStep;refine jQ rfl rfl (jz ?_);exact ⟨rfl,rfl⟩;apply jjT;exact rfl;rintro w' hq;have:=hq.toStep;refine jm (jn rfl (jz ?_));exact ⟨rfl,rfl⟩;apply jjT;exact rfl;rintro w' hq;have:=hq.toStep;refine jN rfl rfl rfl (jz ?_);exact ⟨rfl,rfl⟩;refine jjT rfl (fun _ _=>jI (eI rfl) (jz ⟨rfl,rfl⟩)) ?_;apply jjT;exact rfl;rintro w' hq;have:=hq.toStep;refine jH _ rfl rfl rfl (by omega) (jz ?_);exact ⟨rfl,rfl⟩;apply jjT;exact rfl;rintro w' hq;have:=hq.toStep;refine jQ rfl rfl (jz ?_);exact ⟨rfl,rfl⟩;refine jjU ?_))))
 have hl6:=hE2.size
 refine AnyS.mono (K':=fun s w'=>s 2=.pointer (some ⟨b2,0,none⟩)∧s 3=.pointer (some ⟨b3,0,none⟩)∧s 5=.int .i64 ((k:Nat):Int)∧(∃ b6 b7,s 6=.pointer (some ⟨b6,0,none⟩)∧s 7=.pointer (some ⟨b7,0,none⟩)∧At w' b6 0 [.int .i64 cs[k].1,.slice cs[k].2.1 cs[k].2.2.2.length cs[k].2.2.1]∧At w' b7 0 [.int .i64 ds[k].1,.slice ds[k].2.1 ds[k].2.2.2.length ds[k].2.2.1])∧Ext w_b3 w'∧Same (16::17::18::19::20::23::24::25::26::27::28::29::30::31::32::6::7::33::34::35::36::37::38::39::40::41::42::43::44::45::46::4::8::47::48::49::50::51::54::55::56::57::58::59::60::61::62::63::64::65::52::53::21::22::5::[]) (upds s0 [(2,.pointer (some ⟨b2,0,none⟩)),(3,.pointer (some ⟨b3,0,none⟩)),(5,.int .i64 ((0:Nat):Int))]) s) ?_ ?_
 rotate_left
 ·refine jjl 10 11 (by decide +kernel) rfl rfl hE2 ?_ ?_
  ·refine jjY ?_
   intro b6 wa hb6 hs6 hS6 hk6
   have k6:=Bk.of hk6
   refine jz ?_
   (apply jjW 11;(decide +kernel);exact rfl;(exact hE2.trans hS6.ext))
   refine jjY ?_
   intro b7 wb hb7 hs7 hS7 hk7
   have k7:=Bk.of hk7
   have m6:=k6.ext hS7.ext
   refine jz ?_
   have eb:=(hE2.trans hS6.ext).trans hS7.ext
   have zb:=hE2.size
   (apply jjW 12;(decide +kernel);exact rfl;(exact eb))
   refine Ops.store rfl rfl rfl rfl rfl ?_
   intro wc hpc
   have m7:=hpc.bk (k7) (by omega)
   have m6:Bk wc b6 [.int .i64 cs[k].1,.slice cs[k].2.1 cs[k].2.2.2.length cs[k].2.2.1] 99:=⟨hpc.new⟩
   refine jz ?_
   have ec:=hpc.ext eb (by omega)
   (apply jjW 13;(decide +kernel);exact rfl;(exact ec))
   refine Ops.store rfl rfl rfl rfl rfl ?_
   intro wd hpd
   have n6:=hpd.bk m6 (by omega)
   have n7:Bk wd b7 [.int .i64 ds[k].1,.slice ds[k].2.1 ds[k].2.2.2.length ds[k].2.2.1] 99:=⟨hpd.new⟩
   have ed:=hpd.ext ec (by omega)
   refine jz ?_
   refine jjX (by decide +kernel) ed ?_
   exact ⟨rfl,rfl,rfl,⟨b6,b7,rfl,rfl,Bk.toAt (h:=n6),Bk.toAt (h:=n7)⟩,ed,by (((iterate 18 refine Same.upd rfl ?_);exact Same.ovN))⟩
  ·refine jjY ?_
   intro b7 wa hb7 hs7 hS7 hk7
   have k7:=Bk.of hk7
   refine jz ?_
   (apply jjW 10;(decide +kernel);exact rfl;(exact hE2.trans hS7.ext))
   refine jjY ?_
   intro b6 wb hb6 hs6 hS6 hk6
   have k6:=Bk.of hk6
   have m7:=k7.ext hS6.ext
   refine jz ?_
   have eb:=(hE2.trans hS7.ext).trans hS6.ext
   have zb:=hE2.size
   (apply jjW 12;(decide +kernel);exact rfl;(exact eb))
   refine Ops.store rfl rfl rfl rfl rfl ?_
   intro wc hpc
   have m7:=hpc.bk (m7) (by omega)
   have m6:Bk wc b6 [.int .i64 cs[k].1,.slice cs[k].2.1 cs[k].2.2.2.length cs[k].2.2.1] 99:=⟨hpc.new⟩
   refine jz ?_
   have ec:=hpc.ext eb (by omega)
   (apply jjW 13;(decide +kernel);exact rfl;(exact ec))
   refine Ops.store rfl rfl rfl rfl rfl ?_
   intro wd hpd
   have n6:=hpd.bk m6 (by omega)
   have n7:Bk wd b7 [.int .i64 ds[k].1,.slice ds[k].2.1 ds[k].2.2.2.length ds[k].2.2.1] 99:=⟨hpd.new⟩
   have ed:=hpd.ext ec (by omega)
   refine jz ?_
   refine jjX (by decide +kernel) ed ?_
   exact ⟨rfl,rfl,rfl,⟨b6,b7,rfl,rfl,Bk.toAt (h:=n6),Bk.toAt (h:=n7)⟩,ed,by (((iterate 18 refine Same.upd rfl ?_);exact Same.ovN))⟩
 rintro s w3 ⟨h2,h3,h5,⟨b6,b7,h6,h7,hA6,hA7⟩,hE3,hsm⟩
 clear hl6 hE2 hS2 w2
 have hS3:Step w_b3 w3:=hE3.toStep
 have hsk:=hs.2 _ (List.getElem_mem hkc)
 refine W.keep [(2,.pointer (some ⟨b2,0,none⟩)),(3,.pointer (some ⟨b3,0,none⟩)),(5,.int .i64 ((k:Nat):Int)),(6,.pointer (some ⟨b6,0,none⟩)),(7,.pointer (some ⟨b7,0,none⟩))] (D:=(16::17::18::19::20::23::24::25::26::27::28::29::30::31::32::6::7::33::34::35::36::37::38::39::40::41::42::43::44::45::46::4::8::47::48::49::50::51::54::55::56::57::58::59::60::61::62::63::64::65::52::53::21::22::5::[])) (sO:=upds s0 _) hsm ⟨h2,h3,h5,h6,h7,trivial⟩ fun s1 hs1'=>?_
 clear h2 h3 h5 h6 h7 hsm
 have hno:txC cs[k]≠txC ds[k]→¬ txF cs=txF ds:=fun h e=>h (by
  have h1:(txF cs)[k]?=some (txC cs[k]):=by simp [txF,hkc]
  have h2:(txF ds)[k]?=some (txC ds[k]):=by simp [txF,hkd]
  rw [e,h2] at h1
  exact (Option.some.inj h1).symm)
 by_cases hid:cs[k].1=ds[k].1
 rotate_left
 ·(refine jjB (jjB (jjC (jm (jn rfl (jN rfl rfl rfl ?_)))));refine jm (jn rfl (jN rfl rfl rfl (jjj rfl rfl (by omega) (jI (eB rfl) (jU rfl rfl rfl rfl ?_)))));refine jU rfl rfl rfl rfl (jU rfl rfl rfl rfl (jU rfl rfl rfl rfl (jU rfl rfl rfl rfl (jU rfl rfl rfl rfl (jU rfl rfl rfl rfl ?_)))));refine jK rfl (eB rfl) (jz (jjJ rfl (jjB (jjC (jJ (eB rfl) ?_)))));refine jz (jjF ?_);refine jB rfl rfl ⟨inferInstance,?_⟩)
  rw [decide_eq_false (hno fun e=>hid (congrArg (fun x:Int×List (List ByteArray)=>x.1) e))];exact rfl
 by_cases hll:cs[k].2.2.2.length=ds[k].2.2.2.length
 rotate_left
 ·(refine jjB (jjB (jjC (jm (jn rfl (jN rfl rfl rfl ?_)))));refine jm (jn rfl (jN rfl rfl rfl (jjk rfl rfl (by omega) (jI (eB rfl) (jT rfl rfl rfl ?_)))));refine jm (jn rfl (jT rfl rfl rfl (jN rfl rfl rfl (jT rfl rfl rfl (jh rfl ?_)))));refine jT rfl rfl rfl (jm (jn rfl (jT rfl rfl rfl (jN rfl rfl rfl (jT rfl rfl rfl ?_)))));refine jh rfl (jT rfl rfl rfl (jjj rfl rfl (by omega) (jL rfl (eB rfl) (jz (jjJ rfl ?_)))));refine jjB (jjC (jJ (eB rfl) (jz (jjF ?_))));refine jB rfl rfl ⟨inferInstance,?_⟩)
  rw [decide_eq_false (hno fun e=>hll (by have:=congrArg (fun x:Int×List (List ByteArray)=>x.2.length) e;simpa using this))];exact rfl
 (refine jjB (jjB (jjC (jm (jn rfl (jN rfl rfl rfl ?_)))));refine jm (jn rfl (jN rfl rfl rfl (jjk rfl rfl (by omega) (jI (eB rfl) (jT rfl rfl rfl ?_)))));refine jm (jn rfl (jT rfl rfl rfl (jN rfl rfl rfl (jT rfl rfl rfl (jh rfl ?_)))));refine jT rfl rfl rfl (jm (jn rfl (jT rfl rfl rfl (jN rfl rfl rfl (jT rfl rfl rfl ?_)))));refine jh rfl (jT rfl rfl rfl (jjk rfl rfl (by omega) (jL rfl (eB rfl) (jz (jjK rfl ?_)))));refine jjG (jjB (jjC (jJ (eI rfl) (jz (jjD ?_))))))
 refine W.keep [(2,.pointer (some ⟨b2,0,none⟩)),(3,.pointer (some ⟨b3,0,none⟩)),(5,.int .i64 ((k:Nat):Int)),(6,.pointer (some ⟨b6,0,none⟩)),(7,.pointer (some ⟨b7,0,none⟩)),(8,.int .i64 ((0:Nat):Int))] (D:=(16::17::18::19::20::23::24::25::26::27::28::29::30::31::32::6::7::33::34::35::36::37::38::39::40::41::42::43::44::45::46::4::8::47::48::49::50::51::54::55::56::57::58::59::60::61::62::63::64::65::52::53::21::22::5::[])) (sO:=upds s0 _) (by (((iterate 15 refine Same.upd rfl ?_);assumption))) ⟨eP rfl,eP rfl,eI rfl,eP rfl,eP rfl,eI rfl,trivial⟩ fun s2 hs2'=>?_
 refine W.loop (47::48::49::50::51::54::55::56::57::58::59::60::61::62::63::64::65::4::52::53::8::[]) (fun g s' V=>∃ n:Nat,s' 8=.int .i64 ((n:Nat):Int)∧g=cs[k].2.2.2.length-n∧n≤cs[k].2.2.2.length∧∀ (j:Nat) (hj:j<cs[k].2.2.2.length),j<n→cs[k].2.2.2[j].2.2=(ds[k].2.2.2[j]'(by omega)).2.2) cs[k].2.2.2.length ⟨0,rfl,rfl,Nat.zero_le _,by intros;omega⟩ ?_
 rintro _ sd2 w4 hS4 ⟨n,h8,rfl,hn,hpre2⟩
 refine W.fix h8 ?_
 clear h8
 by_cases hnl:n<cs[k].2.2.2.length
 rotate_left
 ·have e:txC cs[k]=txC ds[k]:=by
   refine Prod.ext hid (List.ext_getElem (by simpa using hll) fun j hj _=>?_)
   rw [List.length_map] at hj
   simpa using hpre2 j hj (by omega)
  (refine jjB (jjB (jjC (jI (eI rfl) (jm (jn rfl ?_)))));refine jN rfl rfl rfl (jh rfl (jja rfl rfl (by omega) (jz (jjK rfl (jjE ?_)))));refine jjC (jI (eI rfl) (jY rfl rfl (by omega) (jJ (eI rfl) (jz ?_)))))
  refine ⟨rfl,by (((iterate 9 refine Same.upd rfl ?_);refine Same.ovN' rfl ?_;assumption)),cs.length-(k+1),by omega,inferInstance,k+1,congrArg (Value.int .i64) (by omega),rfl,by omega,fun j hj hjk=>?_⟩
  by_cases ej:j=k
  ·subst ej;exact e
  ·exact hpre j hj (by omega)
 have hnl2:n<ds[k].2.2.2.length:=by omega
 obtain ⟨bl,ol,el,hAl⟩:=(hT.line hkc).h.place' (map_get hnl)
 obtain ⟨bm,om,em,hAm⟩:=(hT'.line hkd).h.place' (map_get hnl2)
 rw [Nat.mul_one] at hAl hAm
 have hE4:Ext w w4:=inferInstance
 have k6:=hA6.ext hS4.ext
 have k7:=hA7.ext hS4.ext
 (refine jjB (jjB (jjC (jI (eI rfl) (jm (jn rfl ?_)))));refine jN rfl rfl rfl (jh rfl (jjZ rfl rfl (by omega) (jz (jjJ rfl (jjG ?_)))));refine jjB (jjD (jjB ?_)))
 rw [el] at k6
 rw [em] at k7
 have hW1:=(hT.word hkc hnl).h
 have hW2:=(hT'.word hkd hnl2).h
 refine W.draw (fun w'=>Ext w4 w') ?_
 intro w5 hS5
 (refine jjV [0,1,2,3,4,5,6,7,8,9] ?_ ?_ ?_;(decide +kernel);(exact hS5.ext);(((apply jjT;exact rfl;rintro w' hq;have:=hq.toStep;refine jm (jn rfl (jz ?_));exact ⟨rfl,rfl⟩;apply jjT;exact rfl;rintro w' hq;have:=hq.toStep;refine jN rfl rfl rfl (jz ?_);exact ⟨rfl,rfl⟩;refine jjT rfl (fun _ _=>jI (eI rfl) (jz ⟨rfl,rfl⟩)) ?_;apply jjT;exact rfl;rintro w' hq;have:=hq.toStep;refine jG rfl rfl rfl (by omega) (jz ?_);exact ⟨rfl,rfl⟩;apply jjT;exact rfl;rintro w' hq;have:=hq.toStep;refine jQ rfl rfl (jz ?_);exact ⟨rfl,rfl⟩;apply jjT;exact rfl;rintro w' hq;have:=hq.toStep;refine jm (jn rfl (jz ?_));exact ⟨rfl,rfl⟩;apply jjT;exact rfl;rintro w' hq;have:=hq.toStep;refine jN rfl rfl rfl (jz ?_);exact ⟨rfl,rfl⟩;refine jjT rfl (fun _ _=>jI (eI rfl) (jz ⟨rfl,rfl⟩)) ?_;apply jjT;exact rfl;rintro w' hq;have:=hq.toStep;refine jG rfl rfl rfl (by omega) (jz ?_);exact ⟨rfl,rfl⟩;apply jjT;exact rfl;rintro w' hq;have:=hq.toStep;refine jQ rfl rfl (jz ?_);exact ⟨rfl,rfl⟩;refine jjU ?_))))
 (apply jjW 10;(decide +kernel);exact rfl;(exact hS5.ext))
 obtain ⟨B,hB⟩:∃ B,decide (cs[k].2.2.2[n].2.2=ds[k].2.2.2[n].2.2)=B:=⟨_,rfl⟩
 refine jjQ ((same_words1 _ _ _ _ _ _ cs[k].2.2.2[n].2.2 ds[k].2.2.2[n].2.2 _ rfl rfl (hW1.ext (hE4.trans hS5.ext)) (hW2.ext (hE4.trans hS5.ext))).mono fun v _ _ h=>h.trans (by rw [hB])) rfl rfl ?_
 rintro _ w6 hS6 rfl
 refine jz ?_
 have e6:=hS5.ext.trans hS6.ext
 cases B with
 | true =>
   have hBe:=of_decide_eq_true hB
   (refine jjV [11] ?_ ?_ ?_;(decide +kernel);(exact e6);(((refine jjT rfl (fun _ _=>jp rfl (jz ⟨rfl,rfl⟩)) (jjU ?_)))))
   refine jjX (by decide +kernel) e6 ?_
   (refine jjK rfl (jjG (jjC (jI (eI rfl) (jY rfl rfl (by omega) (jJ (eI rfl) ?_)))));refine jz ?_)
   refine ⟨rfl,by (((iterate 21 refine Same.upd rfl ?_);exact Same.ovN)),cs[k].2.2.2.length-(n+1),by omega,inferInstance,n+1,congrArg (Value.int .i64) (by omega),rfl,by omega,fun j hj hjn=>?_⟩
   by_cases ej:j=n
   ·subst ej;exact hBe
   ·exact hpre2 j hj (by omega)
 | false =>
   have hBe:=of_decide_eq_false hB
   (refine jjV [11] ?_ ?_ ?_;(decide +kernel);(exact e6);(((refine jjT rfl (fun _ _=>jq rfl (jz ⟨rfl,rfl⟩)) (jjU ?_)))))
   refine jjX (by decide +kernel) e6 ?_
   (refine jjJ rfl (jjB (jjC (jJ (eB rfl) (jz (jjF ?_)))));refine jB rfl rfl ⟨inferInstance,?_⟩)
   rw [decide_eq_false (hno fun e=>hBe (by
    have h1:(txC cs[k]).2[n]?=some cs[k].2.2.2[n].2.2:=by simp [hnl]
    have h2:(txC ds[k]).2[n]?=some ds[k].2.2.2[n].2.2:=by simp [hnl2]
    rw [e,h2] at h1
    exact (Option.some.inj h1).symm))];exact rfl
end

abbrev wSeaAnd:ByteArray:=⟨#[115,101,97,32,97,110,100]⟩
def tqU:Tx:=[(3,[[wOld,wSea],[wAnd,tqCold,wOld]])]
theorem tq_ask:askE tqT 12 1=0:=by kernel_rfl
theorem tq_make:makeR tqT 12 1 (0,1,2)=(((0,1,2),wOld,wSeaAnd,wNo),0):=make_at (k:=0) (i:=4) tq_ask (by decide) (by kernel_rfl) (by kernel_rfl)
theorem tq_moved:movedS tqT 2 tqR (0,1,1)=((0,1,0),0):=by kernel_rfl
theorem tq_cp:cpE tqT 2 tqR=0:=by kernel_rfl
theorem tq_read:readT tqT tqR=tqU:=by kernel_rfl
theorem tqR_small:SmallR tqR:=small_of_greatR (by kernel_rfl) (by decide)
theorem eqIn_ref (w:World) (d:Nat) (a b:Pl):(Op.equalIn (d+2) 112 (encPl a) (encPl b)).run Tryz.prog w=.ok (decide (a=b)) w :=
 eqIn_int3 Tryz.underlying112 (by decide) rfl (by decide) rfl (by decide) rfl inferInstance inferInstance inferInstance (of_decide_eq_true (by kernel_rfl)) w d a b
instance eqT_ref:EqT Tryz.prog 112 encPl:=eqT_int3 eqIn_ref (of_decide_eq_true (by kernel_rfl))
abbrev tqC (b1 b2 b3:Nat):List Ch:=[(3,some ⟨b3,0,none⟩,2,[(some ⟨b1,0,none⟩,2,[wOld,wSea]),(some ⟨b2,0,none⟩,3,[wAnd,tqCold,wOld])])]
theorem tqC_txF (b1 b2 b3:Nat):txF (tqC b1 b2 b3)=tqU:=rfl
theorem tqU_made (w:World) (b1 b2 b3 b5:Nat) (m1:Bk w b1 [strV wOld,strV wSea] 9) (m2:Bk w b2 [strV wAnd,strV tqCold,strV wOld] 9) (m3:Bk w b3 [.slice (some ⟨b1,0,none⟩) 2 2,.slice (some ⟨b2,0,none⟩) 3 3] 70) (m5:Bk w b5 [.int .i64 3,.slice (some ⟨b3,0,none⟩) 2 2] 99) :
  RowI w (.slice (some ⟨b5,0,none⟩) (tqC b1 b2 b3).length 1) true 2 ((tqC b1 b2 b3).map encCh)∧TextI w (tqC b1 b2 b3):=by
 refine ⟨⟨Bk.rows (xs:=(tqC b1 b2 b3).map encCh) m5 (by simp [fitsV]) (by simp)⟩,?_,?_⟩
 ·intro x hx
  simp only [List.mem_cons,List.not_mem_nil,or_false] at hx
  subst hx
  exact m3.row (fun x hx=>by simp at hx;rcases hx with rfl|rfl<;>rfl) (by simp)
 ·intro x hx
  simp only [List.mem_cons,List.not_mem_nil,or_false] at hx
  subst hx
  intro y hy
  simp only [List.mem_cons,List.not_mem_nil,or_false] at hy
  rcases hy with rfl|rfl
  ·exact m1.row (strs_fit [_,_]) (by simp)
  ·exact m2.row (strs_fit [_,_,_]) (by simp)
set_option maxHeartbeats 16000000 in
theorem alive03d_top (w:World) [hgs:At w 1 0 sidesC] [hgk:At w 2 0 kindsC] [hgc:At w 3 0 checksC]:Ct Tryz.prog 17 [] w fun v _=>v=.bool true:=by
 refine Ct.ofW (by simp) ?_
 (refine jjB (jjC (jJ (eB rfl) (jz (jjB (jjC ?_))))))
 refine jjQ (topSea_top _) rfl rfl ?_
 rintro _ w1 hS1 ⟨a1,c1,cs1,rfl,hR1,hT1,hx1⟩
 have i1:=RowI.mk hR1
 (refine jjS (cells:=[.int .i64 12,.int .u8 1]) ?_ ?_;exact rfl)
 refine jjQ (topAt_top 1 2 _) rfl rfl ?_
 rintro _ w2 hS2 rfl
 have hmk:=Make_slip a1 c1 cs1 12 1 w2 (0,1,2) (tq_small hx1) (by omega)
 rw [hx1,tq_make] at hmk
 refine jjQ hmk rfl rfl ?_
 rintro _ w3 hS3 rfl
 (refine jI (eU rfl) (ju rfl rfl (ju rfl rfl ?_)))
 (apply jjR rfl;(intro _;first|exact eI rfl|exact eB rfl|exact eP rfl|exact eS rfl|exact eT rfl|exact eA rfl|exact eU rfl|exact eF rfl|exact eM rfl|exact eN rfl|exact rfl);exact rfl;exact rfl;exact rfl;exact rfl;intro b1 w_b1 hb_b1 hs_b1 hS_b1 hk_b1;have hA_b1:=Bk.of hk_b1)
 (refine jJ (eI rfl) (jz (jjB (jjC ?_))))
 refine jjQ (topSea_top _) rfl rfl ?_
 rintro _ w4 hS4 ⟨a2,c2,cs2,rfl,hR2,hT2,hx2⟩
 refine jjQ (topEdition_top _) rfl rfl ?_
 rintro _ w5 hS5 ⟨ea,ec,rfl,hRe⟩
 refine jjQ (topAt_top 1 2 _) rfl rfl ?_
 rintro _ w6 hS6 rfl
 obtain ⟨b2,d2,ls2,rfl,hl2⟩:=tq_len hx2
 have i2:=RowI.mk hR2
 have ie:=RowI.mk hRe
 refine jjQ (Refer_chart a2 c2 b2 d2 ls2 _ hx2 hl2 ea ec) rfl rfl ?_
 rintro _ w7 hS7 rfl
 (refine jI (eU rfl) (ju rfl rfl (ju rfl rfl ?_)))
 (apply jjR rfl;(intro _;first|exact eI rfl|exact eB rfl|exact eP rfl|exact eS rfl|exact eT rfl|exact eA rfl|exact eU rfl|exact eF rfl|exact eM rfl|exact eN rfl|exact rfl);exact rfl;exact rfl;exact rfl;exact rfl;intro b3 w_b3 hb_b3 hs_b3 hS_b3 hk_b3;have hA_b3:=Bk.of hk_b3)
 (refine jJ (eI rfl) (jz (jjB (jjC ?_))))
 refine jjQ (topSea_top _) rfl rfl ?_
 rintro _ w8 hS8 ⟨a3,c3,cs3,rfl,hR3,hT3,hx3⟩
 refine jjQ (topEdition_top _) rfl rfl ?_
 rintro _ w9 hS9 ⟨ea',ec',rfl,hRe'⟩
 (refine jjS (cells:=[.int .i64 4,.int .i64 7,.int .i64 2]) ?_ ?_;exact rfl)
 obtain ⟨b3',d3,ls3,rfl,hl3⟩:=tq_len hx3
 have i3:=RowI.mk hR3
 have ie':=RowI.mk hRe'
 refine jjQ (Lead_chart a3 c3 b3' d3 ls3 _ hx3 hl3 ea' ec') rfl rfl ?_
 rintro _ w10 hS10 rfl
 (refine jI (eU rfl) (ju rfl rfl (ju rfl rfl ?_)))
 (apply jjR rfl;(intro _;first|exact eI rfl|exact eB rfl|exact eP rfl|exact eS rfl|exact eT rfl|exact eA rfl|exact eU rfl|exact eF rfl|exact eM rfl|exact eN rfl|exact rfl);exact rfl;exact rfl;exact rfl;exact rfl;intro b5 w_b5 hb_b5 hs_b5 hS_b5 hk_b5;have hA_b5:=Bk.of hk_b5)
 (refine jJ (eI rfl) (jz (jjB (jjC ?_))))
 refine jjQ (topSea_top _) rfl rfl ?_
 rintro _ w11 hS11 ⟨a4,c4,cs4,rfl,hR4,hT4,hx4⟩
 have i4:=RowI.mk hR4
 refine jjQ (topCopy_top _) rfl rfl ?_
 rintro _ w12 hS12 ⟨ra,rc,rfl,hRr⟩
 have ir:=RowI.mk hRr
 refine jjQ (topAt_top 1 1 _) rfl rfl ?_
 rintro _ w13 hS13 rfl
 have hmv:=Moved_slip a4 c4 cs4 w13 2 ra rc tqR (0,1,1) (tq_small hx4) tqR_small
 rw [hx4,tq_moved] at hmv
 refine jjQ hmv rfl rfl ?_
 rintro _ w14 hS14 rfl
 (refine jI (eU rfl) (ju rfl rfl (ju rfl rfl ?_)))
 (apply jjR rfl;(intro _;first|exact eI rfl|exact eB rfl|exact eP rfl|exact eS rfl|exact eT rfl|exact eA rfl|exact eU rfl|exact eF rfl|exact eM rfl|exact eN rfl|exact rfl);exact rfl;exact rfl;exact rfl;exact rfl;intro b7 w_b7 hb_b7 hs_b7 hS_b7 hk_b7;have hA_b7:=Bk.of hk_b7)
 (refine jJ (eI rfl) (jz (jjB (jjC ?_))))
 refine jjQ (topSea_top _) rfl rfl ?_
 rintro _ w15 hS15 ⟨a5,c5,cs5,rfl,hR5,hT5,hx5⟩
 have i5:=RowI.mk hR5
 refine jjQ (topCopy_top _) rfl rfl ?_
 rintro _ w16 hS16 ⟨ra5,rc5,rfl,hRr5⟩
 have ir5:=RowI.mk hRr5
 have hrd:=Read_leaf a5 c5 cs5 w16 2 ra5 rc5 tqR (tq_small hx5) tqR_small (by rw [hx5,tq_cp])
 rw [hx5,tq_read] at hrd
 refine jjQ hrd rfl rfl ?_
 rintro _ w17 hS17 ⟨a6,c6,ds,rfl,hxd,hRd,hTd⟩
 (refine jI (eU rfl) (ju rfl rfl (ju rfl rfl ?_)))
 (apply jjR rfl;(intro _;first|exact eI rfl|exact eB rfl|exact eP rfl|exact eS rfl|exact eT rfl|exact eA rfl|exact eU rfl|exact eF rfl|exact eM rfl|exact eN rfl|exact rfl);exact rfl;exact rfl;exact rfl;exact rfl;intro b9 w_b9 hb_b9 hs_b9 hS_b9 hk_b9;have hA_b9:=Bk.of hk_b9)
 have A1:At w_b9 b1 0 [.int .i64 0,.int .i64 1,.int .i64 2,.string wOld,.string wSeaAnd,.string wNo]:=inferInstance
 have A3:At w_b9 b3 0 [.int .i64 4,.int .i64 7,.int .i64 3]:=inferInstance
 have A5:At w_b9 b5 0 [.int .i64 0,.int .i64 1,.int .i64 1]:=inferInstance
 have A7:At w_b9 b7 0 [.int .i64 0,.int .i64 1,.int .i64 0]:=inferInstance
 have A9:At w_b9 b9 0 [.slice a6 ds.length c6]:=inferInstance
 have hE9:Ext w w_b9:=inferInstance
 have iD:=RowI.mk (hRd.ext hS_b9.ext)
 have iT:TextI w_b9 ds:=inferInstance
 (refine jJ (eI rfl) (jz (jjB ?_)))
 refine W.keep0 [(1,.pointer (some ⟨b1,0,none⟩)),(2,.int .i64 0),(3,.pointer (some ⟨b3,0,none⟩)),(4,.int .i64 0),(5,.pointer (some ⟨b5,0,none⟩)),(6,.int .i64 0),(7,.pointer (some ⟨b7,0,none⟩)),(8,.int .i64 0),(9,.pointer (some ⟨b9,0,none⟩)),(10,.int .i64 0)] ⟨eP rfl,eI rfl,eP rfl,eI rfl,eP rfl,eI rfl,eP rfl,eI rfl,eP rfl,eI rfl,trivial⟩ fun s0=>?_
 clear hS1 hS2 hS3 hS_b1 hS4 hS5 hS6 hS7 hS_b3 hS8 hS9 hS10 hS_b5 hS11 hS12 hS13 hS14 hS_b7 hS15 hS16 hS17 hS_b9
 refine W.draw (fun w'=>Ext w_b9 w') ?_
 intro v0 hv0
 (refine jjV [0,1,2,3] ?_ ?_ ?_;(decide +kernel);(exact hv0.ext);(((refine jjT rfl (fun _ _=>jI (eI rfl) (jz ⟨rfl,rfl⟩)) (jjT rfl (fun _ _=>ja rfl rfl (jz ⟨rfl,rfl⟩)) (jjT rfl (fun _ _=>jI (eB rfl) (jz ⟨rfl,rfl⟩)) ?_));apply jjT;exact rfl;rintro w' hq;have:=hq.toStep;refine jT rfl rfl rfl (jO rfl rfl rfl rfl (jz ?_));exact ⟨rfl,rfl⟩;refine jjU ?_))))
 (apply jjW 4;(decide +kernel);exact rfl;(exact hv0.ext))
 (refine jT rfl rfl rfl ?_)
 refine jjQ (topAt_top 1 2 _) rfl rfl ?_
 rintro _ v1 hv1 rfl
 refine jz ?_
 refine jjV [5] (by decide +kernel) inferInstance (jjT (v:=.agg #[.int .i64 0,.int .i64 1,.int .i64 2,.string wOld,.string wSeaAnd,.string wNo]) rfl (fun w' q1=>?_) (jjU ?_));(refine jT rfl rfl rfl ?_;refine jjS (cells:=[.int .i64 0,.int .i64 1,.int .i64 2,.string wOld,.string wSeaAnd,.string wNo]) ?_ ?_;exact rfl;refine jz ?_;exact ⟨rfl,rfl⟩)
 refine jjV [6] (by decide +kernel) inferInstance (jjT (v:=.bool true) rfl (fun w' q1=>?_) (jjU ?_));(refine jT rfl rfl rfl ?_;refine Ops.eqlT (enc:=encSl) ((0,1,2),wOld,wSeaAnd,wNo) ((0,1,2),wOld,wSeaAnd,wNo) rfl rfl ?_;rw [decide_eq_true rfl];refine jz ?_;exact ⟨rfl,rfl⟩)
 (refine jjV [7,8,9,10,11,12,13] ?_ ?_ ?_;(decide +kernel);(exact inferInstance);(((refine jjT rfl (fun _ _=>jK rfl (eB rfl) (jz ⟨rfl,rfl⟩)) (jjT rfl (fun _ _=>jI (eB rfl) (jz ⟨rfl,rfl⟩)) (jjT rfl (fun _ _=>jT rfl rfl rfl (jI (eI rfl) (jz ⟨rfl,rfl⟩))) (jjT rfl (fun _ _=>jT rfl rfl rfl (ja rfl rfl (jz ⟨rfl,rfl⟩))) (jjT rfl (fun _ _=>jK rfl (eB rfl) (jz ⟨rfl,rfl⟩)) (jjT rfl (fun _ _=>jI (eB rfl) (jz ⟨rfl,rfl⟩)) ?_)))));apply jjT;exact rfl;rintro w' hq;have:=hq.toStep;refine jT rfl rfl rfl (jO rfl rfl rfl rfl (jz ?_));exact ⟨rfl,rfl⟩;refine jjU ?_))))
 refine jjV [14] (by decide +kernel) inferInstance (jjT (v:=.agg #[.int .i64 4,.int .i64 7,.int .i64 3]) rfl (fun w' q1=>?_) (jjU ?_));(refine jT rfl rfl rfl ?_;refine jjS (cells:=[.int .i64 4,.int .i64 7,.int .i64 3]) ?_ ?_;exact rfl;refine jz ?_;exact ⟨rfl,rfl⟩)
 refine jjV [15] (by decide +kernel) inferInstance (jjT (v:=.bool true) rfl (fun w' q1=>?_) (jjU ?_));(refine jT rfl rfl rfl ?_;refine Ops.eqlT (enc:=encPl) (4,7,3) (4,7,3) rfl rfl ?_;rw [decide_eq_true rfl];refine jz ?_;exact ⟨rfl,rfl⟩)
 (refine jjV [16,17,18,19,20,21,22] ?_ ?_ ?_;(decide +kernel);(exact inferInstance);(((refine jjT rfl (fun _ _=>jK rfl (eB rfl) (jz ⟨rfl,rfl⟩)) (jjT rfl (fun _ _=>jI (eB rfl) (jz ⟨rfl,rfl⟩)) (jjT rfl (fun _ _=>jT rfl rfl rfl (jI (eI rfl) (jz ⟨rfl,rfl⟩))) (jjT rfl (fun _ _=>jT rfl rfl rfl (ja rfl rfl (jz ⟨rfl,rfl⟩))) (jjT rfl (fun _ _=>jK rfl (eB rfl) (jz ⟨rfl,rfl⟩)) (jjT rfl (fun _ _=>jI (eB rfl) (jz ⟨rfl,rfl⟩)) ?_)))));apply jjT;exact rfl;rintro w' hq;have:=hq.toStep;refine jT rfl rfl rfl (jO rfl rfl rfl rfl (jz ?_));exact ⟨rfl,rfl⟩;refine jjU ?_))))
 (apply jjW 23;(decide +kernel);exact rfl;(exact inferInstance))
 (refine jT rfl rfl rfl ?_)
 refine jjQ (topAt_top 1 1 _) rfl rfl ?_
 rintro _ v2 hv2 rfl
 refine jz ?_
 refine jjV [24] (by decide +kernel) inferInstance (jjT (v:=.bool true) rfl (fun w' q1=>?_) (jjU ?_));(refine jT rfl rfl rfl ?_;refine Ops.eqlT (enc:=encPl) (0,1,1) (0,1,1) rfl rfl ?_;rw [decide_eq_true rfl];refine jz ?_;exact ⟨rfl,rfl⟩)
 (refine jjV [25,26,27,28,29,30,31] ?_ ?_ ?_;(decide +kernel);(exact inferInstance);(((refine jjT rfl (fun _ _=>jK rfl (eB rfl) (jz ⟨rfl,rfl⟩)) (jjT rfl (fun _ _=>jI (eB rfl) (jz ⟨rfl,rfl⟩)) (jjT rfl (fun _ _=>jT rfl rfl rfl (jI (eI rfl) (jz ⟨rfl,rfl⟩))) (jjT rfl (fun _ _=>jT rfl rfl rfl (ja rfl rfl (jz ⟨rfl,rfl⟩))) (jjT rfl (fun _ _=>jK rfl (eB rfl) (jz ⟨rfl,rfl⟩)) (jjT rfl (fun _ _=>jI (eB rfl) (jz ⟨rfl,rfl⟩)) ?_)))));apply jjT;exact rfl;rintro w' hq;have:=hq.toStep;refine jT rfl rfl rfl (jO rfl rfl rfl rfl (jz ?_));exact ⟨rfl,rfl⟩;refine jjU ?_))))
 (apply jjW 32;(decide +kernel);exact rfl;(exact inferInstance))
 (refine jT rfl rfl rfl ?_)
 refine jjQ (topAt_top 1 0 _) rfl rfl ?_
 rintro _ v3 hv3 rfl
 refine jz ?_
 refine jjV [33] (by decide +kernel) inferInstance (jjT (v:=.bool true) rfl (fun w' q1=>?_) (jjU ?_));(refine jT rfl rfl rfl ?_;refine Ops.eqlT (enc:=encPl) (0,1,0) (0,1,0) rfl rfl ?_;rw [decide_eq_true rfl];refine jz ?_;exact ⟨rfl,rfl⟩)
 (refine jjV [34,35,36,37,38,39,40] ?_ ?_ ?_;(decide +kernel);(exact inferInstance);(((refine jjT rfl (fun _ _=>jK rfl (eB rfl) (jz ⟨rfl,rfl⟩)) (jjT rfl (fun _ _=>jI (eB rfl) (jz ⟨rfl,rfl⟩)) (jjT rfl (fun _ _=>jT rfl rfl rfl (jI (eI rfl) (jz ⟨rfl,rfl⟩))) (jjT rfl (fun _ _=>jT rfl rfl rfl (ja rfl rfl (jz ⟨rfl,rfl⟩))) (jjT rfl (fun _ _=>jK rfl (eB rfl) (jz ⟨rfl,rfl⟩)) (jjT rfl (fun _ _=>jI (eB rfl) (jz ⟨rfl,rfl⟩)) ?_)))));apply jjT;exact rfl;rintro w' hq;have:=hq.toStep;refine jT rfl rfl rfl (jO rfl rfl rfl rfl (jz ?_));exact ⟨rfl,rfl⟩;refine jjU ?_))))
 refine jjl 41 42 (by decide +kernel) rfl rfl inferInstance ?b1 ?b2
 case b1 =>
  (refine jT rfl rfl rfl ?_);refine Ops.buildSliceF (cells:=[strV wOld,strV wSea]) rfl rfl rfl ?_;intro b86 w86 hb86 hs86 hS86 hk86;refine jz ?_
  (apply jjW 42;(decide +kernel);exact rfl;(exact inferInstance))
  (refine jT rfl rfl rfl ?_);refine Ops.buildSliceF (cells:=[strV wAnd,strV tqCold,strV wOld]) rfl rfl rfl ?_;intro b87 w87 hb87 hs87 hS87 hk87;refine jz ?_
  (apply jjW 43;(decide +kernel);exact rfl;(exact inferInstance))
  (refine jT rfl rfl rfl ?_)
  refine Ops.buildSliceF (cells:=[.slice (some ⟨b86,0,none⟩) 2 2,.slice (some ⟨b87,0,none⟩) 3 3]) rfl rfl rfl ?_
  intro b88 w88 hb88 hs88 hS88 hk88
  refine jz ?_
  refine jjV [44] (by decide +kernel) inferInstance (jjT (v:=.agg #[.int .i64 3,.slice (some ⟨b88,0,none⟩) 2 2]) rfl (fun w' q1=>?_) (jjU ?_));(refine jT rfl rfl rfl ?_;refine jjS (cells:=[.int .i64 3,.slice (some ⟨b88,0,none⟩) 2 2]) ?_ ?_;exact rfl;refine jz ?_;exact ⟨rfl,rfl⟩)
  (apply jjW 45;(decide +kernel);exact rfl;(exact inferInstance))
  (refine jT rfl rfl rfl ?_)
  refine Ops.buildSliceF (cells:=[.int .i64 3,.slice (some ⟨b88,0,none⟩) 2 2]) rfl rfl rfl ?_
  intro b90 w90 hb90 hs90 hS90 hk90
  refine jz ?_
  refine jjV [46] (by decide +kernel) inferInstance (jjT (v:=.agg #[.slice (some ⟨b90,0,none⟩) 1 1]) rfl (fun w' q1=>?_) (jjU ?_));(refine jT rfl rfl rfl ?_;refine jjS (cells:=[.slice (some ⟨b90,0,none⟩) 1 1]) ?_ ?_;exact rfl;refine jz ?_;exact ⟨rfl,rfl⟩)
  have m1:Bk w90 b86 [strV wOld,strV wSea] 9:=inferInstance
  have m2:Bk w90 b87 [strV wAnd,strV tqCold,strV wOld] 9:=inferInstance
  have m3:Bk w90 b88 [.slice (some ⟨b86,0,none⟩) 2 2,.slice (some ⟨b87,0,none⟩) 3 3] 70:=inferInstance
  have m5:Bk w90 b90 [.int .i64 3,.slice (some ⟨b88,0,none⟩) 2 2] 99:=inferInstance
  obtain ⟨iR,iX⟩:=tqU_made w90 b86 b87 b88 b90 m1 m2 m3 m5
  have iD9:RowI w90 (.slice a6 ds.length c6) true 2 (ds.map encCh):=inferInstance
  have iT9:TextI w90 ds:=inferInstance
  (apply jjW 47;(decide +kernel);exact rfl;(exact inferInstance))
  (refine jT rfl rfl rfl ?_)
  refine jjQ ((Same_ref1 a6 (some ⟨b90,0,none⟩) c6 1 ds (tqC b86 b87 b88) _ (small_of_great (by rw [hxd];kernel_rfl))).mono (R':=fun v _=>v=.bool true) fun v _ _ h=>h.trans (by rw [hxd,tqC_txF,decide_eq_true rfl])) rfl rfl ?_
  rintro _ v9 hv9 rfl
  refine jz ?_
  (refine jjV [48,49] ?_ ?_ ?_;(decide +kernel);(exact inferInstance);(((refine jjT rfl (fun _ _=>jK rfl (eB rfl) (jz ⟨rfl,rfl⟩)) (jjT rfl (fun _ _=>jJ (eB rfl) (jz ⟨rfl,rfl⟩)) (jjU ?_))))))
  refine jjX (by decide +kernel) inferInstance ?_
  (refine jjF ?_;refine jB rfl rfl ⟨inferInstance,?_⟩)
  exact rfl
 case b2 =>
  (refine jT rfl rfl rfl ?_);refine Ops.buildSliceF (cells:=[strV wAnd,strV tqCold,strV wOld]) rfl rfl rfl ?_;intro b87 w87 hb87 hs87 hS87 hk87;refine jz ?_
  (apply jjW 41;(decide +kernel);exact rfl;(exact inferInstance))
  (refine jT rfl rfl rfl ?_);refine Ops.buildSliceF (cells:=[strV wOld,strV wSea]) rfl rfl rfl ?_;intro b86 w86 hb86 hs86 hS86 hk86;refine jz ?_
  (apply jjW 43;(decide +kernel);exact rfl;(exact inferInstance))
  (refine jT rfl rfl rfl ?_)
  refine Ops.buildSliceF (cells:=[.slice (some ⟨b86,0,none⟩) 2 2,.slice (some ⟨b87,0,none⟩) 3 3]) rfl rfl rfl ?_
  intro b88 w88 hb88 hs88 hS88 hk88
  refine jz ?_
  refine jjV [44] (by decide +kernel) inferInstance (jjT (v:=.agg #[.int .i64 3,.slice (some ⟨b88,0,none⟩) 2 2]) rfl (fun w' q1=>?_) (jjU ?_));(refine jT rfl rfl rfl ?_;refine jjS (cells:=[.int .i64 3,.slice (some ⟨b88,0,none⟩) 2 2]) ?_ ?_;exact rfl;refine jz ?_;exact ⟨rfl,rfl⟩)
  (apply jjW 45;(decide +kernel);exact rfl;(exact inferInstance))
  (refine jT rfl rfl rfl ?_)
  refine Ops.buildSliceF (cells:=[.int .i64 3,.slice (some ⟨b88,0,none⟩) 2 2]) rfl rfl rfl ?_
  intro b90 w90 hb90 hs90 hS90 hk90
  refine jz ?_
  refine jjV [46] (by decide +kernel) inferInstance (jjT (v:=.agg #[.slice (some ⟨b90,0,none⟩) 1 1]) rfl (fun w' q1=>?_) (jjU ?_));(refine jT rfl rfl rfl ?_;refine jjS (cells:=[.slice (some ⟨b90,0,none⟩) 1 1]) ?_ ?_;exact rfl;refine jz ?_;exact ⟨rfl,rfl⟩)
  have m1:Bk w90 b86 [strV wOld,strV wSea] 9:=inferInstance
  have m2:Bk w90 b87 [strV wAnd,strV tqCold,strV wOld] 9:=inferInstance
  have m3:Bk w90 b88 [.slice (some ⟨b86,0,none⟩) 2 2,.slice (some ⟨b87,0,none⟩) 3 3] 70:=inferInstance
  have m5:Bk w90 b90 [.int .i64 3,.slice (some ⟨b88,0,none⟩) 2 2] 99:=inferInstance
  obtain ⟨iR,iX⟩:=tqU_made w90 b86 b87 b88 b90 m1 m2 m3 m5
  have iD9:RowI w90 (.slice a6 ds.length c6) true 2 (ds.map encCh):=inferInstance
  have iT9:TextI w90 ds:=inferInstance
  (apply jjW 47;(decide +kernel);exact rfl;(exact inferInstance))
  (refine jT rfl rfl rfl ?_)
  refine jjQ ((Same_ref1 a6 (some ⟨b90,0,none⟩) c6 1 ds (tqC b86 b87 b88) _ (small_of_great (by rw [hxd];kernel_rfl))).mono (R':=fun v _=>v=.bool true) fun v _ _ h=>h.trans (by rw [hxd,tqC_txF,decide_eq_true rfl])) rfl rfl ?_
  rintro _ v9 hv9 rfl
  refine jz ?_
  (refine jjV [48,49] ?_ ?_ ?_;(decide +kernel);(exact inferInstance);(((refine jjT rfl (fun _ _=>jK rfl (eB rfl) (jz ⟨rfl,rfl⟩)) (jjT rfl (fun _ _=>jJ (eB rfl) (jz ⟨rfl,rfl⟩)) (jjU ?_))))))
  refine jjX (by decide +kernel) inferInstance ?_
  (refine jjF ?_;refine jB rfl rfl ⟨inferInstance,?_⟩)
  exact rfl

section
variable {P:Program}
theorem eqU8 (w:World) (d:Nat) {t:Nat} (u:TU P t (.int .u8)) (a b:Int):(Op.equalIn (d+1) t (.int .u8 a) (.int .u8 b)).run P w=.ok (decide (a=b)) w:=by
 rw [run_equalIn_int w d t .u8 .u8 a b u.h]
 congr 1
theorem eqIn_ft {t:Nat} {f0 f1 f2:Field} (hu:P.underlying t=some (.struct #[f0,f1,f2])) (h0:f0.name ≠ "_") (h0':f0.offset=0) (h1:f1.name ≠ "_") (h1':f1.offset=1) (h2:f2.name ≠ "_") (h2':f2.offset=2)
  (u0:TU P f0.type (.int .u8)) (u1:TU P f1.type (.int .i64)) (u2:TU P f2.type (.int .i64)) (hp:P.stoodInHeld t=false) (w:World) (d:Nat) (a b:Ft):(Op.equalIn (d+2) t (encFt a) (encFt b)).run P w=.ok (decide (a=b)) w:=by
 have hf:P.fieldsOf t=#[f0,f1,f2]:=by simp [Program.fieldsOf,hu]
 have ht:P.underlying t=some (.struct (P.fieldsOf t)):=by rw [hf];exact hu
 rw [run_equalIn_struct w (d+1) t _ _ ht hp,hf]
 obtain ⟨a1,a2,a3⟩:=a
 obtain ⟨b1,b2,b3⟩:=b
 rw [eqFields_cons h0 (part_cell u0 rfl (by rw [h0'];rfl)) (part_cell u0 rfl (by rw [h0'];rfl)) (eqU8 w d u0 a1 b1)]
 by_cases c0:a1=b1
 ·rw [decide_eq_true c0,if_pos rfl,eqFields_cons h1 (part_cell u1 rfl (by rw [h1'];rfl)) (part_cell u1 rfl (by rw [h1'];rfl)) (eqInt w d u1 a2 b2)]
  by_cases c1:a2=b2
  ·rw [decide_eq_true c1,if_pos rfl,eqFields_cons h2 (part_cell u2 rfl (by rw [h2'];rfl)) (part_cell u2 rfl (by rw [h2'];rfl)) (eqInt w d u2 a3 b3)]
   by_cases c2:a3=b3
   ·simp [c0,c1,c2,Op.eqFields]
   ·simp [c2]
  ·simp [c1]
 ·simp [c0]
theorem eqT_ftG {t:Nat} (h:∀ (w:World) (d:Nat) (a b:Ft),(Op.equalIn (d+2) t (encFt a) (encFt b)).run P w=.ok (decide (a=b)) w) (hg:P.eqGuardType P.depth t=false):EqT P t encFt where
 eq w a b:=h w 9998 a b
 guard op x y w a b:=by
  cases op<;>simp [encFt,eqGuard,hg]
 kind a b:=⟨fun w=>by simp [encFt,binOp],fun w=>by simp [encFt,binOp]⟩
end
theorem eqIn_fault (w:World) (d:Nat) (a b:Ft):(Op.equalIn (d+2) 66 (encFt a) (encFt b)).run Tryz.prog w=.ok (decide (a=b)) w :=
 eqIn_ft Tryz.underlying66 (by decide) rfl (by decide) rfl (by decide) rfl inferInstance inferInstance inferInstance (of_decide_eq_true (by kernel_rfl)) w d a b
instance eqT_fault:EqT Tryz.prog 66 encFt:=eqT_ftG eqIn_fault (of_decide_eq_true (by kernel_rfl))
set_option maxHeartbeats 4000000 in
theorem SameFaults_ref5 (a b:Option Addr) (c e:Nat) (x:Ft) (w:World) (h1:RowV w true 3 (.slice a 1 c) [encFt x]) (h2:RowV w true 3 (.slice b 1 e) [encFt x]):Ct Tryz.prog 18 [.slice a 1 c,.slice b 1 e] w fun v _=>v=.bool true:=by
 have g:([x].map encFt)[0]?=some (encFt x):=rfl
 obtain ⟨p1,o1,rfl,-⟩:=h1.place' (j:=0) rfl
 obtain ⟨p2,o2,rfl,-⟩:=h2.place' (j:=0) rfl
 have P1:At w p1 (o1+0 * 3) (encFt x).cells.toList:=place_k h1 rfl
 have P2:At w p2 (o2+0 * 3) (encFt x).cells.toList:=place_k h2 rfl
 refine Ct.ofW (by simp) ?_
 (refine jjB (jjC (jJ (eB rfl) (jz (jjB (jjB ?_)))));refine jjC (jI (eS rfl) (jh rfl (jI (eS rfl) (jh rfl (jjk rfl rfl (by omega) ?_)))));refine jz (jjK rfl (jjG (jjB (jjB (jjC ?_)))));refine jJ (eI rfl) (jz (jjD ?_)))
 refine W.keep0 [(0,.slice (some ⟨p1,o1,none⟩) 1 c),(1,.slice (some ⟨p2,o2,none⟩) 1 e),(5,.int .i64 ((0:Nat):Int))] ⟨eS rfl,eS rfl,eI rfl,trivial⟩ fun s0=>?_
 refine W.loop (11::12::13::14::17::18::19::20::21::22::23::24::25::4::15::16::5::[]) (fun g s' _=>∃ j:Nat,s' 5=.int .i64 (j:Int)∧g=1-j∧j≤1) 1 ⟨0,rfl,rfl,by omega⟩ ?_
 rintro _ sd V hSV ⟨j,h5,rfl,hj⟩
 refine W.fix h5 ?_
 clear h5
 by_cases hj1:j=1
 ·subst hj1
  (refine jjB (jjB (jjC (jI (eI rfl) (jI (eS rfl) (jh rfl ?_)))));refine jja rfl rfl (by omega) (jz (jjK rfl (jjE (jjB (jjC ?_)))));refine jJ (eB rfl) (jz (jjF ?_));refine jB rfl rfl ⟨inferInstance,?_⟩)
  exact rfl
 obtain rfl:j=0:=by omega
 (refine jjB (jjB (jjC (jI (eI rfl) (jI (eS rfl) (jh rfl ?_)))));refine jjZ rfl rfl (by omega) (jz (jjJ rfl (jjG (jjB (jjD ?_)))));refine jjB ?_)
 refine W.draw (fun w'=>Ext V w') ?_
 intro u1 hu1
 (refine jjV [0,1] ?_ ?_ ?_;(decide +kernel);(exact hu1.ext);(((refine jjT rfl (fun _ _=>jI (eS rfl) (jz ⟨rfl,rfl⟩)) (jjT rfl (fun _ _=>jI (eI rfl) (jz ⟨rfl,rfl⟩)) (jjU ?_))))))
 refine jjV [2] (by decide +kernel) hu1.ext (jjT (v:=.pointer (some ⟨p1,o1,none⟩)) rfl (fun w' q1=>?_) (jjU ?_));(refine jH 0 rfl rfl rfl (by omega) ?_;refine jz ?_;exact ⟨rfl,rfl⟩)
 refine jjV [3] (by decide +kernel) hu1.ext (jjT (v:=encFt x) rfl (fun w' q1=>?_) (jjU ?_));(refine Ops.loadOA (off:=0) (P1.ext (hSV.ext.trans q1)) rfl rfl rfl rfl ?_;refine jz ?_;exact ⟨rfl,rfl⟩)
 (refine jjV [4,5] ?_ ?_ ?_;(decide +kernel);(exact hu1.ext);(((refine jjT rfl (fun _ _=>jI (eS rfl) (jz ⟨rfl,rfl⟩)) (jjT rfl (fun _ _=>jI (eI rfl) (jz ⟨rfl,rfl⟩)) (jjU ?_))))))
 refine jjV [6] (by decide +kernel) hu1.ext (jjT (v:=.pointer (some ⟨p2,o2,none⟩)) rfl (fun w' q1=>?_) (jjU ?_));(refine jH 0 rfl rfl rfl (by omega) ?_;refine jz ?_;exact ⟨rfl,rfl⟩)
 refine jjV [7] (by decide +kernel) hu1.ext (jjT (v:=encFt x) rfl (fun w' q1=>?_) (jjU ?_));(refine Ops.loadOA (off:=0) (P2.ext (hSV.ext.trans q1)) rfl rfl rfl rfl ?_;refine jz ?_;exact ⟨rfl,rfl⟩)
 refine jjV [8] (by decide +kernel) hu1.ext (jjT (v:=.bool false) rfl (fun w' q1=>?_) (jjU ?_));(refine Ops.neqT (enc:=encFt) x x rfl rfl ?_;rw [decide_eq_false (fun h=>h rfl)];refine jz ?_;exact ⟨rfl,rfl⟩)
 refine jjX (by decide +kernel) hu1.ext ?_
 (refine jjK rfl (jjG (jjC (jI (eI rfl) (jY rfl rfl (by omega) (jJ (eI rfl) ?_)))));refine jz ?_)
 exact ⟨rfl,by (((iterate 17 refine Same.upd rfl ?_);exact Same.ovN)),0,by omega,hSV.ext.trans hu1.ext,1,congrArg (Value.int .i64) (by omega),rfl,by omega⟩
theorem tq_noCmp (b8 b9:Nat):NoCmp trS (trX b8 b9):=by
 refine ⟨fun j hj=>?_,rfl⟩
 obtain rfl:j=0:=by simp at hj;omega
 rfl
theorem tq_doubt (D:Nat→Bool) (h0:D 0=true) (h1:D 1=false):doubtL tqT 1 12 D 2=[slP tqT 1 12 (0,0,0),slP tqT 1 12 (0,0,1)]:=by
 rw [doubtL_succ,doubtL_succ,h0,h1]
 have e0:doubtL tqT 1 12 D 0=[]:=rfl
 rw [e0,if_pos rfl,if_neg (by decide),List.nil_append,List.append_nil]
 have:(prL tqT tqT.length).getD 0 (0,0)=(0,0):=by kernel_rfl
 rw [this,lnS]
 rfl
theorem tq_word:(slP tqT 1 12 (0,0,0)).2.1=wOld:=by
 rw [slP,makeF_yes (k:=0) (i:=0) (by decide) (by kernel_rfl)]
 kernel_rfl
section
variable (a:Option Addr) (c:Nat) (cs:List Ch) (ha:Option Addr) (hc:Nat) (sa:Option Addr) (sc:Nat) (xa:Option Addr) (xc b8 b9:Nat) (w:World)
 [hrow:RowI w (.slice a cs.length c) true 2 (cs.map encCh)] [hT:TextI w cs] [hhs:RowI w (.slice ha trH.length hc) true 3 (trH.map encHp)] [hss:RowI w (.slice sa trS.length sc) true 4 (trS.map encShr)] [hxs:RowI w (.slice xa (trX b8 b9).length xc) true 2 ((trX b8 b9).map encSht)] [hxi:ShtI w (trX b8 b9)] [hgs:At w 1 0 sidesC]
theorem tr_round {cs:List Ch} (h:txF cs=tqT) (b8 b9:Nat):RoundOk (lnK cs cs.length).length trH trS (trX b8 b9):=by
 obtain ⟨l0,l1,hL,-⟩:=lnK_tq h
 rw [hL];exact tr_ok b8 b9
theorem DoubtE_hand (ht:txF cs=tqT):Ct Tryz.prog 10 [.agg #[.slice a cs.length c,.slice ha trH.length hc,.slice sa trS.length sc,.slice xa (trX b8 b9).length xc],encCut 12 1] w fun v w'=>∃ (va:Option Addr) (vc:Nat) (s0 s1:Slp),v=.tuple #[.slice va 2 vc,.int .i64 0]∧s0.2.1=wOld∧RowV w' true 6 (.slice va 2 vc) [encSl s0,encSl s1]:=by
 have htx:textB (txF cs)=true:=by rw [ht];kernel_rfl
 refine Ct.mono (DoubtX_hand a c cs ha hc trH sa sc trS xa xc (trX b8 b9) 12 1 w (tq_small ht) htx (by decide) (by decide) (tr_round ht b8 b9)) fun v w' _ h=>?_
 obtain ⟨al,D,va,vc,hv,hR,hD,hal⟩:=h
 obtain rfl:=hal (tq_noCmp b8 b9)
 obtain ⟨l0,l1,hL,-⟩:=lnK_tq ht
 have hl:(lnK cs cs.length).length=2:=by rw [hL];rfl
 rw [hl] at hD
 have h0:D 0=true:=by rw [hD];rfl
 have h1:D 1=false:=by rw [hD];rfl
 rw [hl,ht,tq_doubt D h0 h1] at hv hR
 exact ⟨va,vc,_,_,hv,tq_word,hR⟩
end
section
variable (w:World) [hgs:At w 1 0 sidesC] [hgk:At w 2 0 kindsC] [hgc:At w 3 0 checksC] [hst:At w 0 0 stepsC]
set_option maxHeartbeats 16000000 in
theorem alive05d_top:Ct Tryz.prog 4 [] w fun v _=>v=.bool true:=by
 refine Ct.ofW (by simp) ?_
 (refine jjB (jjC (jJ (eB rfl) (jz (jjB (jjC ?_))))))
 refine jjQ (topRound_top _) rfl rfl ?_
 rintro _ w1 hS1 ⟨a,c,cs,ha,hc,sa,sc,xa,xc,b8,b9,R⟩
 obtain rfl:=R.v
 have i1:=RowI.mk R.r
 have i2:=R.t
 have i3:=RowI.mk R.h
 have i4:=RowI.mk R.s
 have i5:=RowI.mk R.sh
 have i6:=R.si
 refine jjQ (Explain_hand a c cs ha hc sa sc xa xc b8 b9 _ (tq_small R.x) R.x) rfl rfl ?_
 rintro _ w2 hS2 ⟨fa,fc,rfl,hF⟩
 (refine jI (eU rfl) (ju rfl rfl (ju rfl rfl (jJ (eS rfl) (jJ (eI rfl) (jz ?_)))));refine jjB (jjC ?_))
 clear i1 i2 i3 i4 i5 i6
 refine jjQ (topRound_top _) rfl rfl ?_
 rintro _ w3 hS3 ⟨a',c',cs',ha',hc',sa',sc',xa',xc',b8',b9',R'⟩
 obtain rfl:=R'.v
 have i1:=RowI.mk R'.r
 have i2:=R'.t
 have i3:=RowI.mk R'.h
 have i4:=RowI.mk R'.s
 have i5:=RowI.mk R'.sh
 have i6:=R'.si
 (refine jjS (cells:=[.int .i64 12,.int .u8 1]) ?_ ?_;exact rfl)
 refine jjQ (DoubtE_hand a' c' cs' ha' hc' sa' sc' xa' xc' b8' b9' _ R'.x) rfl rfl ?_
 rintro _ w4 hS4 ⟨va,vc,s0,s1,rfl,hs0,hV⟩
 (refine jI (eU rfl) (ju rfl rfl (ju rfl rfl (jJ (eS rfl) (jJ (eI rfl) (jz ?_)))));refine jjB (jjC ?_))
 clear i1 i2 i3 i4 i5 i6
 refine jjQ (topRound_top _) rfl rfl ?_
 rintro _ w5 hS5 ⟨a2,c2,cs2,ha2,hc2,sa2,sc2,xa2,xc2,b82,b92,R2⟩
 obtain rfl:=R2.v
 have i1:=RowI.mk R2.r
 have i2:=R2.t
 have i3:=RowI.mk R2.h
 have i4:=RowI.mk R2.s
 have i5:=RowI.mk R2.sh
 have i6:=R2.si
 refine jjQ (Back_hand a2 c2 cs2 ha2 hc2 sa2 sc2 xa2 xc2 b82 b92 _ (tq_small R2.x) (by rw [R2.x];kernel_rfl) (tr_round R2.x b82 b92)) rfl rfl ?_
 rintro _ w6 hS6 rfl
 (refine jI (eU rfl) (ju rfl rfl (ju rfl rfl (jJ (eI rfl) (jJ (eI rfl) (jz ?_)))));refine jjB (jjC ?_))
 clear i1 i2 i3 i4 i5 i6
 refine jjQ (alive03d_top _) rfl rfl ?_
 rintro _ w7 hS7 rfl
 obtain ⟨p,o,rfl,V0⟩:=hV.place' (j:=0) rfl
 have V1:At w4 p (o+0 * 6) [.int .i64 s0.1.1,.int .i64 s0.1.2.1,.int .i64 s0.1.2.2,.string wOld,.string s0.2.2.1,.string s0.2.2.2]:=by
  have:=place_k hV (j:=0) rfl
  rw [←hs0];exact this
 (refine jI (eB rfl) (jT rfl rfl rfl (jI (eI rfl) (jT rfl rfl rfl (jjh rfl rfl (by omega) (jK rfl (eB rfl) ?_)))));refine jI (eB rfl) (jT rfl rfl rfl (jI (eS rfl) (jT rfl rfl rfl ?_))))
 (refine jjS (cells:=[.int .u8 3,.int .i64 1,.int .i64 1]) ?_ ?_;exact rfl)
 (refine jT rfl rfl rfl ?_)
 (refine jjP (v:=.agg _) rfl (by exact rfl) (by exact rfl) (by exact rfl) (by exact rfl) ?_;intro b31 w_b31 hb_b31 hs_b31 hS_b31 hk_b31;have hR_b31:=RowV.one (agg:=true) (k:=3) rfl hk_b31)
 have R31:RowV w_b31 true 3 (.slice (some ⟨b31,0,none⟩) 1 1) [encFt (3,1,1)]:=hR_b31
 have eF:Ext w2 w_b31:=inferInstance
 (refine jT rfl rfl rfl ?_)
 refine jjQ (SameFaults_ref5 fa (some ⟨b31,0,none⟩) fc 1 (3,1,1) _ (hF.ext eF) R31) rfl rfl ?_
 rintro _ w8 hS8 rfl
 have eV:Ext w4 w8:=inferInstance
 have V2:=V1.ext eV
 (refine jK rfl (eB rfl) (jI (eB rfl) (jT rfl rfl rfl (jI (eI rfl) (jT rfl rfl rfl (jjh rfl rfl (by omega) ?_)))));refine jK rfl (eB rfl) (jI (eB rfl) (jT rfl rfl rfl (jI (eS rfl) (jT rfl rfl rfl (jh rfl ?_)))));refine jT rfl rfl rfl (jjh rfl rfl (by omega) (jK rfl (eB rfl) (jI (eB rfl) (jT rfl rfl rfl (jI (eS rfl) ?_)))));refine jT rfl rfl rfl ?_)
 refine jH 0 rfl rfl rfl (by omega) ?_
 (refine jT rfl rfl rfl (jm (jn rfl (jT rfl rfl rfl (jP rfl rfl rfl (jT rfl rfl rfl ?_))))))
 refine Ops.eqlSV (v:=true) (decide_eq_true rfl) rfl rfl ?_
 (refine jK rfl (eB rfl) (jI (eB rfl) (jT rfl rfl rfl (jI (eI rfl) (jT rfl rfl rfl (jjh rfl rfl (by omega) ?_)))));refine jK rfl (eB rfl) (jI (eB rfl) (jT rfl rfl rfl (jI (eI rfl) (jT rfl rfl rfl (jjh rfl rfl (by omega) ?_)))));refine jK rfl (eB rfl) (jJ (eB rfl) (jz (jjF ?_)));refine jB rfl rfl ⟨inferInstance,?_⟩)
 exact rfl
end

theorem flat_atP {α β:Type} (f:α→List β) {l:List α} {n w:Nat} {a:α} {x:β} (hn:l[n]?=some a) (hw:(f a)[w]?=some x):(l.flatMap f)[((l.take n).flatMap f).length+w]?=some x:=by
 obtain ⟨hlt,ha⟩:=List.getElem?_eq_some_iff.1 hn
 have hw':=(List.getElem?_eq_some_iff.1 hw).1
 have e:l=l.take n++(a::l.drop (n+1)):=by
  rw [←ha,←List.drop_eq_getElem_cons hlt,List.take_append_drop]
 have e2:l.flatMap f=(l.take n).flatMap f++(f a++(l.drop (n+1)).flatMap f):=by
  conv=>lhs;rw [e]
  rw [List.flatMap_append,List.flatMap_cons]
 rw [e2,List.getElem?_append_right (Nat.le_add_right _ _),Nat.add_sub_cancel_left,List.getElem?_append_left hw']
 exact hw
abbrev plL (t:Tx) (p:Nat×Nat):List Pl:=lnP p.1 p.2 ((wsT t p.1).getD p.2 []).length
def offL (t:Tx) (n:Nat):Nat:=(((prL t t.length).take n).flatMap (plL t)).length
theorem offL_succ {t:Tx} {n:Nat} {p:Nat×Nat} (h:(prL t t.length)[n]?=some p):offL t (n+1)=offL t n+((wsT t p.1).getD p.2 []).length:=by
 rw [offL,take_snoc_get h,List.flatMap_append,List.length_append,←offL]
 simp [plL,lnP]
theorem offL_all (t:Tx):offL t (prL t t.length).length=(allP t t.length).length:=by
 rw [offL,List.take_length,allP_pairs]
theorem offL_mono (t:Tx) {a b:Nat} (h:a≤b):offL t a≤offL t b:=by
 have e:((prL t t.length).take a)=((prL t t.length).take b).take a:=by rw [List.take_take,Nat.min_eq_left h]
 rw [offL,offL,e]
 have:=List.take_append_drop a ((prL t t.length).take b)
 conv=>rhs;rw [←this]
 rw [List.flatMap_append,List.length_append]
 omega
theorem allP_at {t:Tx} {n w:Nat} {p:Nat×Nat} (h:(prL t t.length)[n]?=some p) (hw:w<((wsT t p.1).getD p.2 []).length):(allP t t.length)[offL t n+w]?=some ((p.1:Int),(p.2:Int),(w:Int)):=by
 rw [allP_pairs]
 exact flat_atP (plL t) h (by rw [plL,lnP,List.getElem?_map,List.getElem?_range hw];rfl)
theorem seg_filter {t:Tx} {side W:Int} {f u:Nat} (hfu:f≤u) (hu:u<(prL t t.length).length):((allS t side W).take (offL t (u+1))).drop (offL t f)=(allS t side W).filter fun s=>decide (f≤lineN t s.1∧lineN t s.1≤u):=by
 have hd:=doubt_filter t side W (fun n=>decide (f≤n∧n≤u))
 rw [←hd]
 have hlen:∀ n,n≤(prL t t.length).length→((List.range n).flatMap fun n=>lnS t side W ((prL t t.length).getD n (0,0))).length=offL t n:=fun n=>by
  induction n with
  | zero=>intro _;simp [offL]
  | succ n ih =>
    intro hn
    have hg:(prL t t.length)[n]?=some ((prL t t.length)[n]'(by omega)):=List.getElem?_eq_getElem (by omega)
    rw [List.range_succ,List.flatMap_append,List.length_append,ih (by omega),offL_succ hg,List.flatMap_cons,List.flatMap_nil,List.append_nil,List.getD_eq_getElem?_getD,hg]
    simp [lnS,lnP]
 have key:∀ d,u+1+d≤(prL t t.length).length→(((List.range (u+1+d)).flatMap fun n=>lnS t side W ((prL t t.length).getD n (0,0))).take (offL t (u+1))).drop (offL t f)=doubtL t side W (fun n=>decide (f≤n∧n≤u)) (u+1+d):=fun d=>by
  induction d with
  | succ d ih =>
    intro hn
    rw [←Nat.add_assoc,doubtL_succ,if_neg (by simp;omega),List.append_nil,←ih (by omega),List.range_succ,List.flatMap_append]
    congr 1
    rw [List.take_append_of_le_length]
    rw [hlen _ (by omega)]
    exact offL_mono t (by omega)
  | zero =>
    intro hn
    rw [Nat.add_zero,←hlen (u+1) (by omega),List.take_length]
    have key2:∀ e,f+e≤u+1→((List.range (f+e)).flatMap fun n=>lnS t side W ((prL t t.length).getD n (0,0))).drop (offL t f)=doubtL t side W (fun n=>decide (f≤n∧n≤u)) (f+e):=fun e=>by
     induction e with
     | zero =>
       intro _
       rw [Nat.add_zero,←hlen f (by omega),List.drop_length]
       have:∀ m,m≤f→doubtL t side W (fun n=>decide (f≤n∧n≤u)) m=[]:=fun m=>by
        induction m with
        | zero=>intro _;rfl
        | succ m ihm=>intro hm;rw [doubtL_succ,ihm (by omega),if_neg (by simp;omega)];rfl
       rw [this f (Nat.le_refl _)]
     | succ e ih =>
       intro he
       rw [←Nat.add_assoc,doubtL_succ,if_pos (by simp;omega),←ih (by omega),List.range_succ,List.flatMap_append,List.drop_append_of_le_length]
       ·simp
       ·rw [hlen _ (by omega)];exact offL_mono t (by omega)
    have:=key2 (u+1-f) (by omega)
    rw [show f+(u+1-f)=u+1 by omega] at this
    exact this
 have h:=key ((prL t t.length).length-(u+1)) (by omega)
 rw [show u+1+((prL t t.length).length-(u+1))=(prL t t.length).length by omega] at h
 rw [←h,allS_lines]
theorem line_of {t:Tx}:∀ (n i:Nat),n≤(prL t t.length).length→i<offL t n→∃ m w p,m<n∧(prL t t.length)[m]?=some p∧w<((wsT t p.1).getD p.2 []).length∧i=offL t m+w
 | 0,i,_,h=>by simp [offL] at h
 | n+1,i,hn,h=>by
   have hg:(prL t t.length)[n]?=some ((prL t t.length)[n]'(by omega)):=List.getElem?_eq_getElem (by omega)
   by_cases h1:i<offL t n
   ·obtain ⟨m,w,p,h2,h3⟩:=line_of n i (by omega) h1
    exact ⟨m,w,p,by omega,h3⟩
   ·rw [offL_succ hg] at h
    exact ⟨n,i-offL t n,_,by omega,hg,by omega,by omega⟩
theorem lineN_at {t:Tx} {n w:Nat} {p:Nat×Nat} (h:(prL t t.length)[n]?=some p):lineN t ((p.1:Int),(p.2:Int),(w:Int))=n:=by
 obtain ⟨hlt,he⟩:=List.getElem?_eq_some_iff.1 h
 rw [lineN]
 simp only [Int.toNat_natCast]
 rw [←he]
 exact List.Nodup.idxOf_getElem (prL_nodup t t.length) n hlt
theorem line_step {t:Tx} (hne:∀ (n:Nat) (p:Nat×Nat),(prL t t.length)[n]?=some p→0<((wsT t p.1).getD p.2 []).length) {i:Nat} (hi:i<(allP t t.length).length) :
  ((allP t t.length)[i].2.2=0→lineN t (allP t t.length)[i]=if i=0 then 0 else lineN t ((allP t t.length)[i-1]'(by omega))+1) ∧
  ((allP t t.length)[i].2.2≠0→0<i∧lineN t (allP t t.length)[i]=lineN t ((allP t t.length)[i-1]'(by omega))):=by
 obtain ⟨n,w,p,hn,hp,hw,e⟩:=line_of (t:=t) _ i (Nat.le_refl _) (by rw [offL_all];exact hi)
 have h1:=allP_at hp hw
 rw [←e,List.getElem?_eq_getElem hi,Option.some.injEq] at h1
 have hl1:lineN t (allP t t.length)[i]=n:=by rw [h1];exact lineN_at hp
 refine ⟨fun h0=>?_,fun h0=>?_⟩
 ·rw [h1] at h0
  simp only at h0
  obtain rfl:w=0:=by omega
  rw [hl1]
  by_cases hi0:i=0
  ·rw [if_pos hi0]
   by_cases hn0:n=0
   ·exact hn0
   ·obtain ⟨m,rfl⟩:∃ m,n=m+1:=⟨n-1,by omega⟩
    have hg:(prL t t.length)[m]?=some ((prL t t.length)[m]'(by omega)):=List.getElem?_eq_getElem (by omega)
    have:=hne m _ hg
    have:=offL_succ hg
    omega
  ·rw [if_neg hi0]
   have hn0:n≠0:=fun h=>by subst h;simp [offL] at e;omega
   obtain ⟨m,rfl⟩:∃ m,n=m+1:=⟨n-1,by omega⟩
   have hg:(prL t t.length)[m]?=some ((prL t t.length)[m]'(by omega)):=List.getElem?_eq_getElem (by omega)
   have hm:=hne m _ hg
   have ho:=offL_succ hg
   have h2:=allP_at hg (w:=((wsT t ((prL t t.length)[m]'(by omega)).1).getD ((prL t t.length)[m]'(by omega)).2 []).length-1) (by omega)
   rw [show offL t m+(((wsT t ((prL t t.length)[m]'(by omega)).1).getD ((prL t t.length)[m]'(by omega)).2 []).length-1)=i-1 by omega,List.getElem?_eq_getElem (by omega),Option.some.injEq] at h2
   rw [h2,lineN_at hg]
 ·rw [h1] at h0
  simp only at h0
  have hw0:w≠0:=fun h=>h0 (by rw [h];rfl)
  refine ⟨by omega,?_⟩
  have h2:=allP_at hp (w:=w-1) (by omega)
  rw [show offL t n+(w-1)=i-1 by omega,List.getElem?_eq_getElem (by omega),Option.some.injEq] at h2
  rw [hl1,h2,lineN_at hp]

theorem sent_hand (bd:Nat) (v0 v1 v3 v4 v5:Value) (sa:Option Addr) (sc:Nat) (ss:List Shr) (w:World) [hd:At w bd 0 [v0,v1,.slice sa ss.length sc,v3,v4,v5]] (k:Nat) (hk:k<ss.length):Ct Tryz.prog 28 [.pointer (some ⟨bd,0,none⟩),.int .i64 (k:Int)] w fun v _=>v=.bool true:=by
 refine Ct.ofW (by simp) ?_
 (refine jjB (jjC (jJ (eB rfl) (jz (jjB (jjC ?_)))));refine jI (eI rfl) (jI (eP rfl) (jw rfl (jm (jn rfl (jm ?_)))));refine jn rfl (jN rfl rfl rfl (jh rfl (jjZ rfl rfl (by omega) (jJ (eB rfl) (jz ?_)))));refine jjF ?_;refine jB rfl rfl ⟨inferInstance,?_⟩)
 exact rfl
def gapL (nl:Nat) (ss:List Shr) (n:Nat):List Nat:=(List.range n).filter fun i=>leftI nl (fun _=>true) ss ss.length (i:Int)
theorem gapL_succ (nl:Nat) (ss:List Shr) (n:Nat):gapL nl ss (n+1)=gapL nl ss n++if leftI nl (fun _=>true) ss ss.length (n:Int) then [n] else []:=by
 rw [gapL,List.range_succ,List.filter_append,←gapL]
 congr 1
 by_cases h:leftI nl (fun _=>true) ss ss.length (n:Int)=true
 ·rw [if_pos h];simp [h]
 ·rw [if_neg h];simp [h]
theorem gapL_len (nl:Nat) (ss:List Shr) (n:Nat):(gapL nl ss n).length≤n:=by
 have:=List.length_filter_le (fun i:Nat=>leftI nl (fun _=>true) ss ss.length (i:Int)) (List.range n)
 rwa [List.length_range] at this
section
variable (a:Option Addr) (c:Nat) (cs:List Ch) (ha:Option Addr) (hc:Nat) (hs:List Hp) (sa:Option Addr) (sc:Nat) (ss:List Shr) (xa:Option Addr) (xc:Nat) (xs:List Sht) (w:World)
 [hrow:RowI w (.slice a cs.length c) true 2 (cs.map encCh)] [hT:TextI w cs] [hhs:RowI w (.slice ha hs.length hc) true 3 (hs.map encHp)] [hss:RowI w (.slice sa ss.length sc) true 4 (ss.map encShr)] [hxs:RowI w (.slice xa xs.length xc) true 2 (xs.map encSht)] [hxi:ShtI w xs]
set_option maxHeartbeats 8000000 in
theorem Gaps_hand (hsm:SmallT cs) (ht:textB (txF cs)=true) (hp:RoundOk (lnK cs cs.length).length hs ss xs):Ct Tryz.prog 9 [.agg #[.slice a cs.length c,.slice ha hs.length hc,.slice sa ss.length sc,.slice xa xs.length xc]] w fun v w' =>
  ∃ (ga:Option Addr) (gc:Nat),v=.tuple #[.slice ga (gapL (lnK cs cs.length).length ss (lnK cs cs.length).length).length gc,.int .i64 0]∧RowV w' false 1 (.slice ga (gapL (lnK cs cs.length).length ss (lnK cs cs.length).length).length gc) ((gapL (lnK cs cs.length).length ss (lnK cs cs.length).length).map natV):=by
 have hfew:=hp.few
 have hs8:=hp.s1
 refine Ct.ofW (by simp) ?_
 (refine jjB (jjC ?_))
 (refine jy rfl ?_;intro b1 w_b1 hb_b1 hs_b1 hS_b1 hk_b1;have hA_b1:=At.ofBlock hk_b1)
 have A1:At w_b1 b1 0 [.slice a cs.length c,.slice ha hs.length hc,.slice sa ss.length sc,.slice xa xs.length xc]:=At.ofBlock hk_b1
 (refine jJ (eS rfl) (jJ (eI rfl) (jz (jjB (jjC (jO rfl rfl rfl rfl ?_))))))
 refine jjQ (open_hand a c cs ha hc hs sa sc ss xa xc xs _ hsm ht hp) rfl rfl ?_
 rintro _ w4 hS4 ⟨bd,rfl,hD⟩
 obtain ⟨la,lc,pa,pc,D1,D2,D3⟩:=hD.h
 have i4:RowI w4 (.slice la (lnK cs cs.length).length lc) false 1 ((lnK cs cs.length).map encLn):=⟨D2⟩
 (refine jI (eU rfl) (ju rfl rfl (ju rfl rfl (jJ (eP rfl) (jJ (eI rfl) (jz ?_)))));refine jjB (jjB (jjC (jI (eI rfl) (jjk rfl rfl (by omega) (jz ?_)))));refine jjK rfl (jjG (jjB (jjC (jI (eP rfl) (jI (eP rfl) ?_)))));refine jv ?_)
 refine jjQ (uncoveredX_hand bd _ _ _ _ sa sc ss la lc (lnK cs cs.length) 28 [.pointer (some ⟨bd,0,none⟩)] [] _ (hd:=D1) (fun _=>true) (fun V hV i hi=>sent_hand bd _ _ _ _ _ sa sc ss V (hd:=D1.ext hV) i hi) hfew hs8 (fun i h=>⟨(hp.sp i h).1,(hp.sp i h).2.1,(hp.sp i h).2.2.1⟩)) rfl rfl ?_
 rintro _ w5 hS5 ⟨mb,m,rfl,hM,hSet⟩
 have D5:=D1.ext hS5.ext
 (refine jJ (eM rfl) (jz (jjB (jjC (jJ (eS rfl) (jz ?_)))));refine jjB (jjB (jjC (jI (eP rfl) (jw rfl (jm ?_)))));refine jn rfl (jN rfl rfl rfl (jh rfl (jI (eI rfl) (jz (jjD ?_))))))
 refine W.keep0 [(6,.map (some mb)),(7,.slice none 0 0),(25,.int .i64 ((lnK cs cs.length).length:Int)),(26,.int .i64 ((0:Nat):Int))] ⟨eM rfl,eS rfl,eI rfl,eI rfl,trivial⟩ fun s0=>?_
 refine W.loopG (27::28::8::29::30::31::32::33::34::35::7::36::26::[]) (fun g s' V=>∃ (k:Nat) (lv:Value),s' 26=.int .i64 (k:Int)∧s' 7=lv∧g=(lnK cs cs.length).length-k∧k≤(lnK cs cs.length).length∧Ext w5 V∧OwnL V w5.heap.size 3 false 1 lv ((gapL (lnK cs cs.length).length ss k).map natV)) (lnK cs cs.length).length ⟨0,.slice none 0 0,rfl,rfl,rfl,Nat.zero_le _,.refl _,OwnL.nil _ _ _ _ _⟩ ?_
 rintro _ sd V ⟨k,lv,h26,h7,rfl,hk,hEV,hO⟩
 obtain ⟨ga,gc,rfl⟩:=hO.slice
 rw [List.length_map] at hO h7
 refine W.fix h26 (W.fix (d:=7) h7 ?_)
 clear h26 h7
 have hEV':=hEV.toStep
 have hgl:=gapL_len (lnK cs cs.length).length ss k
 by_cases hk1:k<(lnK cs cs.length).length
 rotate_left
 ·obtain rfl:k=(lnK cs cs.length).length:=by omega
  (refine jjB (jjC (jja rfl rfl (by omega) (jz (jjB (jjK rfl ?_)))));refine jjE (jjB (jjC (jI (eS rfl) (jJ (eS rfl) (jJ (eI rfl) ?_)))));refine jz (jjF ?_);refine jC rfl rfl rfl ⟨inferInstance,?_⟩)
  exact ⟨ga,gc,rfl,hO.row⟩
 have hsn:=gapL_succ (lnK cs cs.length).length ss k
 obtain ⟨B,hB⟩:∃ B,leftI (lnK cs cs.length).length (fun _=>true) ss ss.length (k:Int)=B:=⟨_,rfl⟩
 rw [hB] at hsn
 (refine jjB (jjC (jjZ rfl rfl (by omega) (jz (jjB (jjJ rfl ?_)))));refine jjG (jjB (jjD (jjB (jjC (jI (eI rfl) ?_)))));refine jJ (eI rfl) (jz (jjB (jjC (jI (eM rfl) (jI (eI rfl) ?_))))))
 refine Ops.lookupV (k:=(k:Int)) (v:=.bool B) (by rw [hSet.look,hB]) (hM.ext hEV) rfl rfl ?_
 cases B with
 | false =>
   rw [if_neg (by decide),List.append_nil] at hsn
   (refine jz (jjK rfl (jjG (jjC (jY rfl rfl (by omega) (jI (eI rfl) ?_)))));refine jz ?_)
   exact ⟨rfl,by (((iterate 10 refine Same.upd rfl ?_);exact Same.ovN)),(lnK cs cs.length).length-(k+1),by omega,k+1,_,congrArg (Value.int .i64) (by omega),rfl,rfl,by omega,hEV,by rw [hsn];exact hO⟩
 | true =>
   rw [if_pos rfl] at hsn
   (refine jz (jjJ rfl (jjC (jI (eS rfl) (jI (eI rfl) ?_)))))
   (refine jjP (v:=.int _ _) rfl (by exact rfl) (by exact rfl) (by exact rfl) (by exact rfl) ?_;intro b34 w_b34 hb_b34 hs_b34 hS_b34 hk_b34;have hR_b34:=RowV.one (agg:=false) (k:=1) rfl hk_b34)
   have e34:=hEV.trans hS_b34.ext
   refine Ops.appendL (hO.ext hS_b34.ext) e34.size hR_b34 rfl rfl rfl rfl rfl ?_ ?_ ?_
   ·rw [List.length_map];simp only [List.length_cons,List.length_nil];omega
   ·rw [List.length_map];simp only [List.length_cons,List.length_nil];omega
   intro v6 w6 hA6 hO6 _ _
   (refine jJ rfl (jz (jjC (jY rfl rfl (by omega) (jI (eI rfl) (jz ?_))))))
   refine ⟨rfl,by (((iterate 15 refine Same.upd rfl ?_);exact Same.ovN)),(lnK cs cs.length).length-(k+1),by omega,k+1,v6,congrArg (Value.int .i64) (by omega),rfl,rfl,by omega,hA6.ext e34 (Nat.le_refl _),?_⟩
   rw [hsn,List.map_append]
   exact hO6
end

def cntI (ss:List Shr) (n:Int):Nat:=(ss.filter fun s=>decide (s.1≤n∧n≤s.2.1)).length
def segP (t:Tx) (s:Shr):List Pl:=(allP t t.length).filter fun p=>decide (s.1≤(lineN t p:Int)∧(lineN t p:Int)≤s.2.1)
theorem allP_nodupM (t:Tx):(allP t t.length).Nodup:=sorted_nodup (allP_sorted t t.length)
theorem madeP_count {t:Tx} {p:Pl} (hp:p∈allP t t.length):∀ ss:List Shr,(ss.flatMap (segP t)).count p=cntI ss (lineN t p)
 | []=>rfl
 | s::ss=>by
   rw [List.flatMap_cons,List.count_append,madeP_count hp ss,cntI,cntI,List.filter_cons]
   by_cases h:s.1≤(lineN t p:Int)∧(lineN t p:Int)≤s.2.1
   ·have h1:(segP t s).count p=1:=List.Nodup.count (allP_nodupM t |>.filter _) |>.trans (if_pos (List.mem_filter.2 ⟨hp,by simpa using h⟩))
    rw [if_pos (by simpa using h),List.length_cons,h1];omega
   ·have h1:(segP t s).count p=0:=List.count_eq_zero_of_not_mem (fun hc=>h (by simpa using (List.mem_filter.1 hc).2))
    rw [if_neg (by simpa using h),h1];omega
theorem cntI_snoc {ss:List Shr} {k:Nat} (hk:k<ss.length) (n:Int):cntI (ss.take (k+1)) n=cntI (ss.take k) n+if ss[k].1≤n∧n≤ss[k].2.1 then 1 else 0:=by
 rw [cntI,take_snoc_get (List.getElem?_eq_getElem hk),List.filter_append,List.length_append,←cntI]
 congr 1
 rw [List.filter_cons,List.filter_nil]
 by_cases h:ss[k].1≤n∧n≤ss[k].2.1
 ·rw [if_pos h,if_pos (by simpa using h)];rfl
 ·rw [if_neg h,if_neg (by simpa using h)];rfl
theorem covI_cnt (ss:List Shr) (n:Int):∀ k,k≤ss.length→covI (fun _=>true) ss k n=decide (0<cntI (ss.take k) n)
 | 0,_=>by simp [covI,cntI]
 | k+1,hk=>by
   rw [covI_succ,covI_cnt ss n k (by omega),cntI_snoc (by omega),List.getD_eq_getElem?_getD,List.getElem?_eq_getElem (by omega),Option.getD_some,Bool.true_and]
   by_cases h:ss[k].1≤n∧n≤ss[k].2.1
   ·rw [if_pos h,decide_eq_true h,Bool.or_true,decide_eq_true (by omega)]
   ·rw [if_neg h,decide_eq_false h,Bool.or_false,Nat.add_zero]
theorem left_cnt (ss:List Shr) {nl n:Nat} (hn:n<nl):leftI nl (fun _=>true) ss ss.length (n:Int)=decide (cntI ss n=0):=by
 rw [leftI,decide_eq_true (by omega),Bool.true_and,covI_cnt ss n _ (Nat.le_refl _),List.take_length]
 by_cases h:cntI ss n=0
 ·rw [decide_eq_true h,decide_eq_false (by omega)];rfl
 ·rw [decide_eq_false h,decide_eq_true (by omega)];rfl
theorem left_mono {nl:Nat} {p:Nat→Bool} {ss:List Shr} {k:Nat} {x:Int} (h:leftI nl (fun _=>true) ss k x=true):leftI nl p ss k x=true:=by
 rw [leftI,Bool.and_eq_true] at h ⊢
 refine ⟨h.1,?_⟩
 have h2:=h.2
 rw [Bool.not_eq_true'] at h2 ⊢
 rw [covI,List.any_eq_false] at h2 ⊢
 intro j hj hc
 rw [Bool.and_eq_true] at hc
 exact h2 j hj (by rw [Bool.true_and];exact hc.2)
theorem gapL_mem {nl:Nat} {ss:List Shr} {n:Nat}:n∈gapL nl ss nl↔n<nl∧leftI nl (fun _=>true) ss ss.length (n:Int)=true:=by
 rw [gapL,List.mem_filter,List.mem_range]
theorem gap_iff {nl:Nat} {ss:List Shr} {n:Nat} (hn:n<nl):decide (n∈gapL nl ss nl)=decide (cntI ss n=0):=by
 rw [←left_cnt ss hn]
 by_cases h:leftI nl (fun _=>true) ss ss.length (n:Int)=true
 ·rw [decide_eq_true (gapL_mem.2 ⟨hn,h⟩),h]
 ·rw [decide_eq_false (fun hc=>h (gapL_mem.1 hc).2),Bool.eq_false_iff.2 h]
theorem allS_at (t:Tx) (side W:Int):(allS t side W).map (·.1)=allP t t.length:=by
 rw [allS,List.map_map]
 conv=>rhs;rw [←List.map_id (allP t t.length)]
 refine List.map_congr_left fun p _=>?_
 exact slP_at ..
theorem seg_part {t:Tx} {side W:Int} {f u:Nat} (hfu:f≤u) (hu:u<(prL t t.length).length) (s:Shr) (h1:s.1=(f:Int)) (h2:s.2.1=(u:Int)):(((allS t side W).take (offL t (u+1))).drop (offL t f)).map (·.1)=segP t s:=by
 have e1:((allP t t.length).take (offL t (u+1))).drop (offL t f)=(((allS t side W).take (offL t (u+1))).drop (offL t f)).map (·.1):=by
  rw [List.map_drop,List.map_take,allS_at]
 rw [seg_filter hfu hu,segP,allS,List.filter_map,List.map_map]
 have e2:((fun s:Slp=>decide (f≤lineN t s.1∧lineN t s.1≤u)) ∘ slP t side W)=fun p=>decide (s.1≤(lineN t p:Int)∧(lineN t p:Int)≤s.2.1):=by
  funext p
  simp only [Function.comp,slP_at,h1,h2]
  congr 1
  refine propext ⟨fun h=>⟨by omega,by omega⟩,fun h=>⟨by omega,by omega⟩⟩
 rw [e2]
 conv=>rhs;rw [←List.map_id (List.filter _ _)]
 refine List.map_congr_left fun p _=>?_
 exact slP_at ..
theorem lineN_lt {t:Tx} {i:Nat} (hi:i<(allP t t.length).length):lineN t (allP t t.length)[i]<(prL t t.length).length:=by
 obtain ⟨n,w,p,hn,hp,hw,e⟩:=line_of (t:=t) _ i (Nat.le_refl _) (by rw [offL_all];exact hi)
 have h1:=allP_at hp hw
 rw [←e,List.getElem?_eq_getElem hi,Option.some.injEq] at h1
 rw [h1,lineN_at hp]
 exact hn
theorem count_snoc (l:List Pl) (x y:Pl):(l++[y]).count x=l.count x+if x=y then 1 else 0:=by
 rw [List.count_append,List.count_cons,List.count_nil]
 by_cases h:x=y
 ·subst h;simp
 ·rw [if_neg h,if_neg (by simpa using fun e=>h e.symm)]

theorem line_pos {t:Tx} (ht:textB t=true) {n:Nat} {p:Nat×Nat} (hp:(prL t t.length)[n]?=some p):0<((wsT t p.1).getD p.2 []).length:=by
 have hm:=prL_mem.1 (List.mem_of_getElem? hp)
 have hc:∀ (k:Nat) (hk:k<t.length),t[k].2=wsT t k:=fun k hk=>by simp [wsT,hk]
 simp only [textB,Bool.and_eq_true,List.all_eq_true] at ht
 have h1:=ht.1.2 _ (List.getElem_mem hm.1)
 simp only [chapB,Bool.and_eq_true,List.all_eq_true] at h1
 have h2:=h1.2
 rw [hc _ hm.1] at h2
 have h3:=h2 _ (List.getElem_mem hm.2)
 simp only [lineB,Bool.and_eq_true,inB,decide_eq_true_eq] at h3
 rw [List.getD_eq_getElem?_getD,List.getElem?_eq_getElem hm.2,Option.getD_some]
 omega
theorem part_at {t:Tx} (ht:textB t=true) {f u:Nat} (hfu:f≤u) (hu:u<(prL t t.length).length):offL t f≤offL t (u+1)-1∧offL t (u+1)-1<(allP t t.length).length∧offL t (u+1)-1+1=offL t (u+1):=by
 have hg:(prL t t.length)[u]?=some ((prL t t.length)[u]'hu):=List.getElem?_eq_getElem hu
 have h1:=line_pos ht hg
 have h2:=offL_succ hg
 have h3:=offL_mono t hfu
 have h4:=offL_mono t (show u+1≤(prL t t.length).length by omega)
 rw [offL_all] at h4
 omega
noncomputable def segS (t:Tx) (side W:Int) (f u:Nat):List Slp:=((allS t side W).take (offL t (u+1))).drop (offL t f)
theorem segS_len {t:Tx} {side W:Int} {f u:Nat} (ht:textB t=true) (hfu:f≤u) (hu:u<(prL t t.length).length):(segS t side W f u).length=offL t (u+1)-offL t f∧0<(segS t side W f u).length∧(segS t side W f u).length≤(allP t t.length).length:=by
 have h:=part_at ht hfu hu
 have hl:(allS t side W).length=(allP t t.length).length:=by rw [allS,List.length_map]
 rw [segS,List.length_drop,List.length_take,hl]
 omega
theorem segS_get {t:Tx} {side W:Int} {f u:Nat} (ht:textB t=true) (hfu:f≤u) (hu:u<(prL t t.length).length) {i:Nat} (hi:i<(segS t side W f u).length):(allP t t.length)[offL t f+i]?=some (segS t side W f u)[i].1:=by
 have h:=segS_len (side:=side) (W:=W) ht hfu hu
 have e:(segS t side W f u).map (·.1)=((allP t t.length).take (offL t (u+1))).drop (offL t f):=by
  rw [segS,List.map_drop,List.map_take,allS_at]
 have h1:((segS t side W f u).map (·.1))[i]?=some (segS t side W f u)[i].1:=by rw [List.getElem?_map,List.getElem?_eq_getElem hi];rfl
 rw [e,List.getElem?_drop,List.getElem?_take,if_pos (by omega)] at h1
 exact h1
theorem segS_at {t:Tx} {side W:Int} {f u:Nat} (hfu:f≤u) (hu:u<(prL t t.length).length) (s:Shr) (h1:s.1=(f:Int)) (h2:s.2.1=(u:Int)):(segS t side W f u).map (·.1)=segP t s:=seg_part hfu hu s h1 h2
theorem part_segS {t:Tx} {wd side:Int} (ha:askE t wd side=0) {f u:Nat} (hfu:f≤u) (hu:u<(prL t t.length).length) {p q:Pl} (hp:(allP t t.length)[offL t f]?=some p) (hq:(allP t t.length)[offL t (u+1)-1]?=some q):partR t wd side p q=(segS t side wd f u,0):=by
 have h:=part_at (askE_zero ha).1 hfu hu
 obtain ⟨h1,rfl⟩:=List.getElem?_eq_some_iff.1 hp
 obtain ⟨h2,rfl⟩:=List.getElem?_eq_some_iff.1 hq
 rw [part_seg ha h1 h2 h.1,h.2.2,segS]
section
variable {κ:Type} [DecidableEq κ]
theorem mset_newP {m:List (κ×Value)} {k:κ} {v:Value} (h:k ∉ m.map (·.1)):mset m k v=m++[(k,v)]:=by
 induction m with
 | nil=>rfl
 | cons p m ih =>
   obtain ⟨y,u⟩:=p
   simp only [List.map_cons,List.mem_cons,not_or] at h
   rw [mset,if_neg h.1,ih h.2,List.cons_append]
theorem mget_marks (l:List κ) (x:κ):(mget (l.map fun k=>(k,(.bool true:Value))) x).getD (.bool false)=.bool (decide (x∈l)):=by
 induction l with
 | nil=>simp [mget]
 | cons y l ih =>
   rw [List.map_cons,mget]
   by_cases e:x=y
   ·subst e;rw [if_pos rfl];simp
   ·rw [if_neg e,ih]
    congr 1
    simp [e]
end

abbrev encPW (x:Pl×ByteArray):List Value:=[encPl x.1,.string x.2]
structure BkF (bx bk:Nat) (a:Option Addr) (c:Nat) (cs:List Ch) (w:World):Prop where
 bx:At w bx 0 [.pointer (some ⟨bk,0,none⟩)]
 bk:At w bk 0 [.slice a cs.length c]
 row:RowV w true 2 (.slice a cs.length c) (cs.map encCh)
 tx:TextI w cs
set_option maxHeartbeats 4000000 in
theorem all1_leaf (bx bk:Nat) (a:Option Addr) (c:Nat) (cs:List Ch) (hs:SmallT cs) :
  Iter Tryz.prog 113 [.pointer (some ⟨bx,0,none⟩)] (allW (txF cs) (txF cs).length) encPW (BkF bx bk a c cs):=by
 intro l J Jx M w hJ hJx hF hM1 hM2 hY h0
 have hs1:=hs.1
 have hF0:=hF 0 w h0
 have:=hF0.bx
 have:=hF0.bk
 refine Calls.ofW (by simp) ?_
 (refine jjB (jjC (jN rfl rfl rfl (jw rfl (jm (jn rfl ?_)))));refine jm (jn rfl (jN rfl rfl rfl (jh rfl (jI (eI rfl) (jz ?_)))));refine jjD ?_)
 refine W.keep0 [(0,.func (.yield l) #[] #[]),(13,.slice a cs.length c),(14,.int .i64 (cs.length:Int)),(15,.int .i64 ((0:Nat):Int))] ⟨eF rfl,eS rfl,eI rfl,eI rfl,trivial⟩ fun s0=>?_
 refine W.loopG (16::17::18::19::4::3::20::21::22::23::24::25::26::27::5::6::28::29::30::31::32::33::34::7::8::35::36::37::38::39::40::41::42::43::44::45::15::[]) (fun g s' w'=>∃ k:Nat,s' 15=.int .i64 ((k:Nat):Int)∧k≤cs.length∧g=cs.length-k∧J (allW (txF cs) k).length w') cs.length ⟨0,rfl,by omega,rfl,h0⟩ ?_
 rintro _ sd w' ⟨k,h15,hk,rfl,hJk⟩
 refine W.fix h15 ?_
 clear h15
 have hFk:=hF _ _ hJk
 by_cases hkc:k<cs.length
 rotate_left
 ·obtain rfl:k=cs.length:=by omega
  (refine jjB (jjC (jja rfl rfl (by omega) (jz (jjB (jjK rfl ?_)))));refine jjE ?_;refine jA rfl ⟨⟨_,rfl⟩,?_⟩)
  refine .inl ?_
  rw [txF_len];exact hJk
 have hsk:=hs.2 _ (List.getElem_mem hkc)
 have hsl:=hsk.1
 have hcl:(chW cs[k]).length=cs[k].2.2.2.length:=by simp [chW]
 have hws:=wsT_get hkc
 obtain ⟨ba,oa,rfl,hAk⟩:=hFk.row.place' (map_get hkc)
 have htk:k<(txF cs).length:=by rw [txF_len];exact hkc
 (refine jjB (jjC (jjZ rfl rfl (by omega) (jz (jjB (jjJ rfl ?_)))));refine jjG (jjB (jjD (jjB (jjC (jI (eI rfl) ?_))))))
 refine jH k rfl rfl rfl hkc ?_
 (refine jQ rfl rfl ?_)
 ((skip);refine jjY ?_;intro b4 w_b4 hb_b4 hs_b4 hS_b4 hk_b4;have hA_b4:=Bk.of hk_b4)
 (apply jJ;exact eI rfl)
 refine Ops.store rfl rfl rfl rfl rfl ?_
 intro wA hpA
 have hEA:Ext w' wA:=hpA.ext hS_b4.ext (by omega)
 have hA4:At wA b4 0 [.int .i64 cs[k].1,.slice cs[k].2.1 cs[k].2.2.2.length cs[k].2.2.1]:=Bk.toAt (h:=Bk.of hpA.new)
 have hJA:=hJ _ _ _ hJk hEA
 (refine jz (jjB (jjC (jm (jn rfl (jN rfl rfl rfl ?_)))));refine jh rfl (jI (eI rfl) (jz (jjD ?_))))
 refine W.keep [(0,.func (.yield l) #[] #[]),(13,.slice (some ⟨ba,oa,none⟩) cs.length c),(14,.int .i64 (cs.length:Int)),(15,.int .i64 ((k:Nat):Int)),(3,.int .i64 ((k:Nat):Int)),(21,.slice cs[k].2.1 cs[k].2.2.2.length cs[k].2.2.1),(22,.int .i64 (cs[k].2.2.2.length:Int)),(23,.int .i64 ((0:Nat):Int))] (D:=(16::17::18::19::4::3::20::21::22::23::24::25::26::27::5::6::28::29::30::31::32::33::34::7::8::35::36::37::38::39::40::41::42::43::44::45::15::[])) (sO:=upds s0 _) (by (((iterate 11 refine Same.upd rfl ?_);exact Same.ovN))) ⟨eF rfl,eS rfl,eI rfl,eI rfl,eI rfl,eS rfl,eI rfl,eI rfl,trivial⟩ fun s1 hs1'=>?_
 refine W.loopG (24::25::26::27::5::6::28::29::30::31::32::33::34::7::8::35::36::37::38::39::40::41::42::43::44::23::[]) (fun g s' V=>∃ n:Nat,s' 23=.int .i64 ((n:Nat):Int)∧n≤cs[k].2.2.2.length∧g=cs[k].2.2.2.length-n∧J ((allW (txF cs) k).length+((chW cs[k]).take n).flatten.length) V) cs[k].2.2.2.length ⟨0,rfl,by omega,rfl,hJA⟩ ?_
 rintro _ sd2 V ⟨n,h23,hn,rfl,hJn⟩
 refine W.fix h23 ?_
 clear h23
 have hFn:=hF _ _ hJn
 by_cases hnl:n<cs[k].2.2.2.length
 rotate_left
 ·obtain rfl:n=cs[k].2.2.2.length:=by omega
  rw [←hcl,List.take_length,←hws,←allW_succ] at hJn
  (refine jjB (jjC (jja rfl rfl (by omega) (jz (jjB (jjK rfl ?_)))));refine jjE (jjC (jY rfl rfl (by omega) (jI (eI rfl) (jz ?_)))))
  exact ⟨rfl,by (((iterate 4 refine Same.upd rfl ?_);refine Same.ovN' rfl ?_;assumption)),cs.length-(k+1),by omega,k+1,congrArg (Value.int .i64) (by omega),by omega,rfl,hJn⟩
 have hsn:=hsk.2 _ (List.getElem_mem hnl)
 have hsq:=hsn.1
 have hnc:n<(chW cs[k]).length:=by rw [hcl];exact hnl
 have hcn:(chW cs[k])[n]=cs[k].2.2.2[n].2.2:=by simp [chW]
 have hnx:=flat_len_succ hnc
 rw [hcn] at hnx
 have iL:=hFn.tx.line hkc
 (refine jjB (jjC (jjZ rfl rfl (by omega) (jz (jjB (jjJ rfl ?_)))));refine jjG (jjB (jjD (jjB (jjC (jI (eI rfl) ?_)))));refine jF rfl rfl rfl (map_get (by omega)) ?_;intro _ _ _;refine jQ rfl rfl (jJ (eI rfl) (jJ (eS rfl) (jz (jjB (jjC ?_)))));refine jI (eS rfl) (jh rfl (jI (eI rfl) (jz (jjD ?_)))))
 refine W.keep [(0,.func (.yield l) #[] #[]),(13,.slice (some ⟨ba,oa,none⟩) cs.length c),(14,.int .i64 (cs.length:Int)),(15,.int .i64 ((k:Nat):Int)),(3,.int .i64 ((k:Nat):Int)),(21,.slice cs[k].2.1 cs[k].2.2.2.length cs[k].2.2.1),(22,.int .i64 (cs[k].2.2.2.length:Int)),(23,.int .i64 ((n:Nat):Int)),(5,.int .i64 ((n:Nat):Int)),(28,.slice cs[k].2.2.2[n].1 cs[k].2.2.2[n].2.2.length cs[k].2.2.2[n].2.1),(29,.int .i64 (cs[k].2.2.2[n].2.2.length:Int)),(30,.int .i64 ((0:Nat):Int))] (D:=(24::25::26::27::5::6::28::29::30::31::32::33::34::7::8::35::36::37::38::39::40::41::42::43::44::23::[])) (sO:=upds s1 _) (by (((iterate 10 refine Same.upd rfl ?_);exact Same.ovN))) ⟨eF rfl,eS rfl,eI rfl,eI rfl,eI rfl,eS rfl,eI rfl,eI rfl,eI rfl,eS rfl,eI rfl,eI rfl,trivial⟩ fun s2 hs2'=>?_
 refine W.loopG (31::32::33::34::7::8::35::36::37::38::39::40::41::42::43::30::[]) (fun g s' V=>∃ q:Nat,s' 30=.int .i64 ((q:Nat):Int)∧q≤cs[k].2.2.2[n].2.2.length∧g=cs[k].2.2.2[n].2.2.length-q∧J ((allW (txF cs) k).length+(((chW cs[k]).take n).flatten.length+q)) V) cs[k].2.2.2[n].2.2.length ⟨0,rfl,by omega,rfl,hJn⟩ ?_
 rintro _ sd3 V2 ⟨q,h30,hq,rfl,hJq⟩
 refine W.fix h30 ?_
 clear h30
 have hFq:=hF _ _ hJq
 by_cases hql:q<cs[k].2.2.2[n].2.2.length
 rotate_left
 ·obtain rfl:q=cs[k].2.2.2[n].2.2.length:=by omega
  (refine jjB (jjC (jja rfl rfl (by omega) (jz (jjB (jjK rfl ?_)))));refine jjE (jjC (jY rfl rfl (by omega) (jI (eI rfl) (jz ?_)))))
  exact ⟨rfl,by (((iterate 4 refine Same.upd rfl ?_);refine Same.ovN' rfl ?_;assumption)),cs[k].2.2.2.length-(n+1),by omega,n+1,congrArg (Value.int .i64) (by omega),by omega,rfl,by rw [hnx];exact hJq⟩
 have hqc:q<((wsT (txF cs) k)[n]'(by rw [hws];exact hnc)).length:=by simp only [hws,hcn];exact hql
 have hall:=allW_at htk (by rw [hws];exact hnc) hqc
 simp only [hws,hcn] at hall
 have iW:=hFq.tx.word hkc hnl
 (refine jjB (jjC (jjZ rfl rfl (by omega) (jz (jjB (jjJ rfl ?_)))));refine jjG (jjB (jjD (jjB (jjC (jI (eI rfl) ?_)))));refine jF rfl rfl rfl (map_get (by omega)) ?_;intro _ _ _;refine jQ rfl rfl (jJ (eI rfl) (jJ (eT rfl) (jz (jjB (jjC ?_)))));refine jI (eF rfl) (jI (eI rfl) (jI (eI rfl) (jI (eI rfl) ?_))))
 (refine jjS (cells:=[.int .i64 (k:Int),.int .i64 (n:Int),.int .i64 (q:Int)]) ?_ ?_;exact rfl)
 (apply jI;exact eT rfl)
 refine Ops.yield (hY _ _ _ hall hJq) rfl rfl ?_
 rintro e V3 (⟨rfl,hJ3,hFr⟩|⟨rfl,hJx3⟩)
 ·refine ⟨_,rfl,?_⟩
  (refine jp rfl (jz (jjK rfl (jjG (jjC (jY rfl rfl (by omega) ?_)))));refine jI (eI rfl) (jz ?_))
  exact ⟨rfl,by (((iterate 17 refine Same.upd rfl ?_);exact Same.ovN)),cs[k].2.2.2[n].2.2.length-(q+1),by omega,q+1,congrArg (Value.int .i64) (by omega),by omega,rfl,hJ3⟩
 ·refine ⟨_,rfl,?_⟩
  (refine jq rfl (jz (jjJ rfl (jjF ?_)));refine jA rfl ⟨⟨_,rfl⟩,?_⟩)
  exact .inr ⟨_,(List.getElem?_eq_some_iff.1 hall).1,hJx3⟩
theorem all_leaf (bk:Nat) (w:World):Ct Tryz.prog 76 [.pointer (some ⟨bk,0,none⟩)] w fun v w'=>∃ bx,v=.func (.func 113) #[] ([.pointer (some ⟨bx,0,none⟩)]:List Value).toArray∧w.heap.size≤bx∧At w' bx 0 [.pointer (some ⟨bk,0,none⟩)]:=by
 refine Ct.ofW (by simp) ?_
 (refine jjB (jjC ?_))
 (refine jy rfl ?_;intro bx w_bx hb_bx hs_bx hS_bx hk_bx;have hA_bx:=At.ofBlock hk_bx)
 (refine jJ rfl (jz (jjB (jjC (jv (jJ (eF rfl) ?_)))));refine jz (jjF ?_);refine jB rfl rfl ⟨inferInstance,?_⟩)
 exact ⟨bx,rfl,by omega,inferInstance⟩

theorem fin2CCM {P:Program} {fn:Func} {n N t ty b size bytes t1 ty1 b1:Nat} {R:Value→World→Prop} {s:Sl} {ds:List Deferred} {w:World} {cs:List Value} {dd dd1:TypeDesc} {z v1:Value} {e e1:Nat} (hf:fn.results=#[.cell t ty,.cell t1 ty1]) (ht:Nat.blt t n=true) (h1:Nat.blt t1 n=true)
  (hs:s t=.pointer (some ⟨b,0,none⟩)) (hs1:s t1=.pointer (some ⟨b1,0,none⟩)) (hb:Bk w b cs e) (hb1:Bk w b1 [v1] e1) [hu:TU P ty dd] (hag:TypeDesc.isAgg dd=true) [hz:TS P ty z size bytes] (hl:cs.length=size) [hu1:TU P ty1 dd1] (hag1:TypeDesc.isAgg dd1=false) (hm:Mks N w ds)
  (h:∀ w',Grow N w w'→R (.tuple #[.agg cs.toArray,v1]) w'):finM P fn n N R s ds w:=by
 unfold finM
 refine ⟨hm,fun w' g=>⟨.tuple #[.agg cs.toArray,v1],?_,h w' g⟩⟩
 have e0:(mkA n s []).tmps[t]?.getD undef=.pointer (some ⟨b,0,none⟩):=by
  rw [mkA_getElem?,if_pos (by simpa using ht)];exact hs
 have e1:(mkA n s []).tmps[t1]?.getD undef=.pointer (some ⟨b1,0,none⟩):=by
  rw [mkA_getElem?,if_pos (by simpa using h1)];exact hs1
 have hA:=Bk.toAt (h:=hb.grow g)
 have r0:=run_loadVar_agg (P:=P) (t:=ty) (w:=w') (b:=b) (o:=0) hu hag hz (cs:=cs) hl (fun i v hv=>by have:=hA.h i v hv;simpa using this)
 have hc1:w'.cell? ⟨b1,0,none⟩=some v1:=Bk.cell1 (hb1.grow g)
 have r1:=run_loadVar_cell (P:=P) (w:=w') hu1 hag1 hc1
 simp [results,hf,e0,e1,asAddr,r0,r1]

theorem allW_small {cs:List Ch} (ht:textB (txF cs)=true):(allW (txF cs) (txF cs).length).length≤600:=by
 have h:=allS_len (side:=1) (wd:=12) ht
 rw [allS,List.length_map] at h
 rw [allW_len];exact h
section
variable (a:Option Addr) (c:Nat) (cs:List Ch) (w:World) [hrow:RowI w (.slice a cs.length c) true 2 (cs.map encCh)] [hT:TextI w cs]
set_option maxHeartbeats 4000000 in
theorem PlaceOf_leaf (hs:SmallT cs) (ht:textB (txF cs)=true) (m:Nat) (p:Pl) (hm:(allP (txF cs) (txF cs).length)[m]?=some p):Ct Tryz.prog 35 [.agg #[.slice a cs.length c],.int .i64 (m:Int)] w fun v _=>v=.tuple #[encPl p,.int .i64 0]:=by
 have hml:=(List.getElem?_eq_some_iff.1 hm).1
 have hal:=allW_small ht
 have hll:=allW_len (txF cs) (txF cs).length
 refine Ct.ofWM (by simp) ?_
 (refine jjB (jjC ?_))
 (refine jy rfl ?_;intro b2 w_b2 hb_b2 hs_b2 hS_b2 hk_b2;have hA_b2:=At.ofBlock hk_b2)
 skip
 (refine jy rfl ?_;intro b3 w_b3 hb_b3 hs_b3 hS_b3 hk_b3;have hA_b3:=At.ofBlock hk_b3)
 ((skip);refine jjY ?_;intro b4 w_b4 hb_b4 hs_b4 hS_b4 hk_b4;have hA_b4:=Bk.of hk_b4)
 ((skip);refine jjY ?_;intro b5 w_b5 hb_b5 hs_b5 hS_b5 hk_b5;have hA_b5:=Bk.of hk_b5)
 (refine jz (jjB (jjC (jO rfl rfl rfl rfl ?_))))
 refine jjQ ((open_leaf a c cs _ hs).mono fun v _ _ h=>by rw [ht] at h;exact h) rfl rfl ?_
 rintro _ w6 hS6 ⟨o,rfl,ho⟩
 obtain ⟨bk,hbk,rfl,hAk⟩:=ho rfl
 rw [if_pos rfl]
 (refine jI (eU rfl) (ju rfl rfl (ju rfl rfl (jJ (eP rfl) (jJ (eI rfl) (jz ?_)))));refine jjB (jjB (jjC (jI (eI rfl) (jjk rfl rfl (by omega) (jz ?_)))));refine jjK rfl (jjG (jjB (jjB (jjC (jI (eP rfl) ?_))))))
 refine jjQ (all_leaf bk _) rfl rfl ?_
 rintro _ w7 hS7 ⟨bx,rfl,hbx,hAx⟩
 have hE7:Ext w w7:=inferInstance
 have zz:=hE7.size
 have z2:=hS_b2.size
 have z3:=hS_b3.size
 have z4:=hS_b4.size
 have z5:=hS_b5.size
 have z6:=hS6.size
 have z7:=hS7.size
 have hk3:Bk w_b3 b3 [.int .i64 (m:Int)] 3:=Bk.of hk_b3
 have hB3:Bk w7 b3 [.int .i64 (m:Int)] 3:=((((hk3.ext hS_b4.ext).ext hS_b5.ext).ext hS6.ext).ext hS7.ext)
 have hB4:Bk w7 b4 [.int .i64 0,.int .i64 0,.int .i64 0] 48:=inferInstance
 have hB5:Bk w7 b5 [.int .i64 0] 37:=inferInstance
 have hAk7:At w7 bk 0 [.slice a cs.length c]:=hAk.ext hS7.ext
 have hlk:=hAk.lt
 have hlx:=hAx.lt
 (refine jz (jjD ?_))
 refine W.range w.heap.size (allW (txF cs) (txF cs).length) encPW (all1_leaf bx bk a c cs hs) rfl (fun _=>rfl) trivial inferInstance hE7.size
  (fun i V=>Ext w V∧w7.heap.size≤V.heap.size∧(i≤m∧Bk V b3 [.int .i64 ((m:Int)-(i:Int))] 3)∧(∃ u1 u2 u3,Bk V b4 [.int .i64 u1,.int .i64 u2,.int .i64 u3] 48)∧(∃ u,Bk V b5 [.int .i64 u] 37)∧At V bx 0 [.pointer (some ⟨bk,0,none⟩)]∧At V bk 0 [.slice a cs.length c])
  (fun cc _ V=>cc=.ret∧Ext w V∧Bk V b4 (encPl p).cells.toList 48∧Bk V b5 [.int .i64 0] 37) ?hJ ?hJx ?hF ?h0 (fun x s' V=>∃ b,s' 3=.pointer (some ⟨b3,0,none⟩)∧s' 4=.pointer (some ⟨b4,0,none⟩)∧s' 5=.pointer (some ⟨b5,0,none⟩)∧s' 8=.pointer (some ⟨b,0,none⟩)∧Bk V b (encPl x.1).cells.toList 48) (fun x s V V' ⟨b,h1,h2,h3,h4,h5⟩ g=>⟨b,h1,h2,h3,h4,h5.grow g⟩) ?hassign ?hbody ?hdone ?hstop
 case hJ =>
  rintro i V V' ⟨h1,h2,⟨hi,h3⟩,⟨u1,u2,u3,h4⟩,⟨u,h5⟩,h6,h7⟩ g
  exact ⟨h1.ofGrow g zz,Nat.le_trans h2 g.size,⟨hi,h3.grow g⟩,⟨u1,u2,u3,h4.grow g⟩,⟨u,h5.grow g⟩,h6.grow g,h7.grow g⟩
 case hJx =>
  rintro cc i V V' ⟨h0,h1,h2,h3⟩ g
  exact ⟨h0,h1.ofGrow g zz,h2.grow g,h3.grow g⟩
 case hF =>
  rintro i V ⟨h1,h2,h3,h4,h5,h6,h7⟩
  exact ⟨h2,h6,h7,hrow.h.ext h1,hT.ext h1⟩
 case h0=>exact ⟨hE7,Nat.le_refl _,⟨Nat.zero_le _,by rw [show (m:Int)-((0:Nat):Int)=(m:Int) by omega];exact hB3⟩,⟨_,_,_,hB4⟩,⟨_,hB5⟩,hAx,hAk7⟩
 case hassign =>
  rintro l i x V hx ⟨h1,h2,⟨hi,h3⟩,⟨u1,u2,u3,h4⟩,⟨u,h5⟩,h6,h7⟩ hl hr
  (refine jjC ?_)
  (apply jjR rfl;(intro _;first|exact eI rfl|exact eB rfl|exact eP rfl|exact eS rfl|exact eT rfl|exact eA rfl|exact eU rfl|exact eF rfl|exact eM rfl|exact eN rfl|exact rfl);exact rfl;exact rfl;exact rfl;exact rfl;intro b8 w_b8 hb_b8 hs_b8 hS_b8 hk_b8;have hA_b8:=Bk.of hk_b8)
  (refine jz ?_)
  have e8:=hS_b8.ext
  have y8:=e8.size
  exact ⟨rfl,e8.tr,Fr.ext e8,⟨h1.trans e8,by omega,⟨hi,h3.ext e8⟩,⟨u1,u2,u3,h4.ext e8⟩,⟨u,h5.ext e8⟩,h6.ext e8,h7.ext e8⟩,b8,rfl,rfl,rfl,rfl,inferInstance⟩
 case hbody =>
  rintro l i x s' V hx ⟨h1,h2,⟨hi,h3⟩,⟨u1,u2,u3,h4⟩,⟨u,h5⟩,h6,h7⟩ ⟨b8,ha3,ha4,ha5,ha8,hb8⟩ hl hr
  refine W.fix (d:=3) ha3 (W.fix (d:=4) ha4 (W.fix (d:=5) ha5 (W.fix (d:=8) ha8 ?_)))
  have hx8:At V b8 0 [.int .i64 x.1.1,.int .i64 x.1.2.1,.int .i64 x.1.2.2]:=Bk.toAt (h:=hb8)
  by_cases him:i=m
  ·have hxp:x.1=p:=by
    have e1:=congrArg (·[i]?) (allW_fst (txF cs) (txF cs).length)
    simp only [List.getElem?_map,hx,Option.map_some] at e1
    rw [him,hm] at e1
    exact Option.some.inj e1
   have hz0:(m:Int)-(i:Int)=0:=by omega
   rw [hz0] at h3
   (refine jjD (jjB (jjB (jjC (jN rfl rfl rfl (jjh rfl rfl (by omega) ?_)))));refine jz (jjJ rfl (jjB (jjC (jO rfl rfl rfl rfl ?_)))))
   refine Ops.store rfl rfl rfl rfl rfl ?_
   intro V2 hp2
   have h5':=hp2.bk h5 (by omega)
   skip
   refine Ops.store rfl rfl rfl rfl rfl ?_
   intro V3 hp3
   (refine jz (jjF ?_))
   have m4:Bk V2 b4 (encPl x.1).cells.toList 48:=⟨hp2.new⟩
   refine ⟨(hp2.tr ⟨_,h4.h,rfl⟩).trans (hp3.tr ⟨_,h5'.h,rfl⟩),rfl,hp3.ext (hp2.ext h1 (by omega)) (by omega),?_,⟨hp3.new⟩⟩
   rw [←hxp];exact hp3.bk m4 (by omega)
  ·have hne:¬ (m:Int)-(i:Int)=0:=by omega
   (refine jjD (jjB (jjB (jjC (jN rfl rfl rfl (jji rfl rfl (by omega) ?_)))));refine jz (jjK rfl (jjG (jjC (jN rfl rfl rfl (jZ rfl rfl (by omega) ?_))))))
   refine Ops.store rfl rfl rfl rfl rfl ?_
   intro V2 hp2
   (refine jz ?_)
   refine ⟨hp2.tr ⟨_,h3.h,rfl⟩,hp2.frS (by omega),hp2.ext h1 (by omega),by rw [hp2.size];exact h2,⟨by omega,?_⟩,⟨u1,u2,u3,hp2.bk h4 (by omega)⟩,⟨u,hp2.bk h5 (by omega)⟩,hp2.at_ h6 (by omega),hp2.at_ h7 (by omega)⟩
   have e:(m:Int)-((i+1:Nat):Int)=(m:Int)-(i:Int)-1:=by omega
   rw [e];exact ⟨hp2.new⟩
 case hdone =>
  rintro ds' V hmk htr ⟨h1,h2,⟨hi,h3⟩,_⟩
  omega
 case hstop =>
  rintro ds' cc i V hmk htr hi ⟨rfl,h1,h2,h3⟩
  refine jjF ?_
  exact fin2CCM rfl rfl rfl rfl rfl h2 h3 rfl rfl rfl hmk fun w' g=>⟨h1.ofGrow g (Nat.le_refl _),rfl⟩
end

theorem fin3CC {P:Program} {fn:Func} {n t ty b size bytes t1 ty1 b1 size1 bytes1 t2:Nat} {R:Value→World→Prop} {s:Sl} {w:World} {cs cs1:List Value} {dd dd1:TypeDesc} {z z1:Value} (hf:fn.results=#[.cell t ty,.cell t1 ty1,.tmp t2]) (ht:Nat.blt t n=true) (ht1:Nat.blt t1 n=true) (ht2:Nat.blt t2 n=true) (hs:s t=.pointer (some ⟨b,0,none⟩)) (hs1:s t1=.pointer (some ⟨b1,0,none⟩)) (hb:At w b 0 cs) (hb1:At w b1 0 cs1) [hu:TU P ty dd] [hu1:TU P ty1 dd1] (hag:TypeDesc.isAgg dd=true) (hag1:TypeDesc.isAgg dd1=true) [hz:TS P ty z size bytes] [hz1:TS P ty1 z1 size1 bytes1] (hl:cs.length=size) (hl1:cs1.length=size1)
  (h:R (.tuple #[.agg cs.toArray,.agg cs1.toArray,s t2]) w):finR P fn n R s [] w:=by
 unfold finR
 refine ⟨rfl,.tuple #[.agg cs.toArray,.agg cs1.toArray,s t2],?_,h⟩
 have e:(mkA n s []).tmps[t]?.getD undef=.pointer (some ⟨b,0,none⟩):=by
  rw [mkA_getElem?,if_pos (by simpa using ht)];exact hs
 have e1:(mkA n s []).tmps[t1]?.getD undef=.pointer (some ⟨b1,0,none⟩):=by
  rw [mkA_getElem?,if_pos (by simpa using ht1)];exact hs1
 have e2:(mkA n s []).tmps[t2]?.getD undef=s t2:=by rw [mkA_getElem?,if_pos (by simpa using ht2)];rfl
 have r0:=run_loadVar_agg (P:=P) (t:=ty) (w:=w) (b:=b) (o:=0) hu hag hz (cs:=cs) hl (fun i v hv=>by have:=hb.h i v hv;simpa using this)
 have r1:=run_loadVar_agg (P:=P) (t:=ty1) (w:=w) (b:=b1) (o:=0) hu1 hag1 hz1 (cs:=cs1) hl1 (fun i v hv=>by have:=hb1.h i v hv;simpa using this)
 simp [results,hf,e,e1,e2,asAddr,r0,r1]
section
variable (a:Option Addr) (c:Nat) (cs:List Ch) (ha:Option Addr) (hc:Nat) (hs:List Hp) (sa:Option Addr) (sc:Nat) (ss:List Shr) (xa:Option Addr) (xc:Nat) (xs:List Sht) (w:World)
 [hrow:RowI w (.slice a cs.length c) true 2 (cs.map encCh)] [hT:TextI w cs] [hhs:RowI w (.slice ha hs.length hc) true 3 (hs.map encHp)] [hss:RowI w (.slice sa ss.length sc) true 4 (ss.map encShr)] [hxs:RowI w (.slice xa xs.length xc) true 2 (xs.map encSht)] [hxi:ShtI w xs]
set_option maxHeartbeats 16000000 in
theorem topEnds_top (hsm:SmallT cs) (ht:textB (txF cs)=true) (hp:RoundOk (lnK cs cs.length).length hs ss xs) (hne:∀ n (h:n<(lnK cs cs.length).length),0<(lnK cs cs.length)[n].2.2.length) (f u:Nat) (hfu:f≤u) (hu:u<(lnK cs cs.length).length) (p q:Pl) (hpa:(allP (txF cs) (txF cs).length)[offL (txF cs) f]?=some p) (hqa:(allP (txF cs) (txF cs).length)[offL (txF cs) (u+1)-1]?=some q) :
  Ct Tryz.prog 11 [.agg #[.slice a cs.length c,.slice ha hs.length hc,.slice sa ss.length sc,.slice xa xs.length xc],.int .i64 (f:Int),.int .i64 (u:Int)] w fun v _=>v=.tuple #[encPl p,encPl q,.bool true]:=by
 have hfew:=hp.few
 have hlk:=lnK_len (cs:=cs) (Nat.le_refl _)
 have hoff:∀ n (h:n<(lnK cs cs.length).length),offL (txF cs) (n+1)=offL (txF cs) n+(lnK cs cs.length)[n].2.2.length:=fun n h=>by
  obtain ⟨k,j,hpr,-,-,hw,-⟩:=line_at h
  rw [offL_succ hpr,hw]
 have hbig:∀ n,n≤(lnK cs cs.length).length→offL (txF cs) n≤1000000:=fun n h=>by
  have h1:=offL_mono (txF cs) h
  have h2:=offL_all (txF cs)
  rw [txF_len,←hlk] at h2
  have h3:=allS_len (side:=1) (wd:=12) ht
  rw [allS,List.length_map,txF_len] at h3
  omega
 refine Ct.ofW (by simp) ?_
 (refine jjB (jjC ?_))
 (refine jy rfl ?_;intro b3 w_b3 hb_b3 hs_b3 hS_b3 hk_b3;have hA_b3:=At.ofBlock hk_b3)
 ((skip);refine jjY ?_;intro b6 w_b6 hb_b6 hs_b6 hS_b6 hk_b6;have hA_b6:=Bk.of hk_b6)
 ((skip);refine jjY ?_;intro b7 w_b7 hb_b7 hs_b7 hS_b7 hk_b7;have hA_b7:=Bk.of hk_b7)
 have A3:At w_b7 b3 0 [.slice a cs.length c,.slice ha hs.length hc,.slice sa ss.length sc,.slice xa xs.length xc]:=(At.ofBlock hk_b3).ext (hS_b6.ext.trans hS_b7.ext)
 have hE7:Ext w w_b7:=inferInstance
 (refine jJ (eB rfl) (jz (jjB (jjC (jJ (eI rfl) (jJ (eI rfl) ?_)))));refine jJ (eI rfl) (jJ (eI rfl) (jz (jjB (jjB (jjC ?_)))));refine jJ (eI rfl) (jz (jjD ?_)))
 refine W.keep0 [(1,.int .i64 (f:Int)),(2,.int .i64 (u:Int)),(3,.pointer (some ⟨b3,0,none⟩)),(6,.pointer (some ⟨b6,0,none⟩)),(7,.pointer (some ⟨b7,0,none⟩)),(9,.int .i64 0),(11,.int .i64 0),(12,.int .i64 0),(13,.int .i64 ((0:Nat):Int))] ⟨eI rfl,eI rfl,eP rfl,eP rfl,eP rfl,eI rfl,eI rfl,eI rfl,eI rfl,trivial⟩ fun s0=>?_
 refine W.loop (20::21::22::26::27::28::25::29::30::14::15::31::32::33::34::35::36::37::38::39::8::40::41::42::43::9::44::45::46::47::48::12::49::50::51::52::11::23::24::13::[]) (fun g s' V=>∃ (n:Nat) (x z:Int),s' 13=.int .i64 (n:Int)∧s' 11=.int .i64 (offL (txF cs) n:Int)∧s' 9=.int .i64 x∧s' 12=.int .i64 z∧g=u+1-n∧n≤u+1∧(f<n→x=offL (txF cs) f)∧(0<n→z=(offL (txF cs) n:Int)-1)) (u+1) ⟨0,0,0,rfl,by simp [offL];rfl,rfl,rfl,rfl,Nat.zero_le _,fun h=>by omega,fun h=>by omega⟩ ?_
 rintro _ sd V hSV ⟨n,x,z,h13,h11,h9,h12,rfl,hn,hx,hz⟩
 refine W.fix h13 (W.fix (d:=11) h11 (W.fix (d:=9) h9 (W.fix (d:=12) h12 ?_)))
 clear h13 h11 h9 h12
 have hbn:=hbig n (by omega)
 by_cases hn1:n≤u
 ·have hnl:n<(lnK cs cs.length).length:=by omega
  have hln:=hne n hnl
  have ho:=hoff n hnl
  have hb1:=hbig (n+1) (by omega)
  (refine jjB (jjB (jjC (jI (eI rfl) (jI (eI rfl) (jjb rfl rfl (by omega) ?_)))));refine jz (jjJ rfl (jjG (jjB (jjD (jjB ?_)))));refine jjC (jO rfl rfl rfl rfl (jI (eI rfl) ?_)))
  refine jjQ (Line_hand a c cs ha hc hs sa sc ss xa xc xs _ hsm ht hp n hnl) rfl rfl ?_
  rintro _ w4 hS4 ⟨a2,c2,rfl⟩
  by_cases hf:n=f
  ·subst hf
   (refine jI (eU rfl) (ju rfl rfl (ju rfl rfl (jJ (eS rfl) (jJ (eI rfl) (jz ?_)))));refine jjB (jjB (jjC (jI (eI rfl) (jjk rfl rfl (by omega) (jI (eB rfl) ?_)))));refine jT rfl rfl rfl (jI (eS rfl) (jT rfl rfl rfl (jh rfl (jT rfl rfl rfl (jja rfl rfl (by omega) ?_)))));refine jL rfl (eB rfl) (jz (jjK rfl (jjG (jjB (jjB ?_)))));refine jjC (jI (eI rfl) (jI (eI rfl) (jjh rfl rfl (by omega) (jz (jjJ rfl ?_)))));refine jjC (jI (eI rfl) (jJ (eI rfl) (jz (jjB (jjC ?_)))));refine jI (eI rfl) (jI (eS rfl) (jh rfl (jY rfl rfl (by omega) (jZ rfl rfl (by omega) (jJ (eI rfl) ?_)))));refine jz (jjC (jI (eI rfl) (jI (eS rfl) (jh rfl (jY rfl rfl (by omega) ?_)))));refine jJ (eI rfl) (jz (jjC (jI (eI rfl) (jY rfl rfl (by omega) (jJ (eI rfl) ?_)))));refine jz ?_)
   exact ⟨rfl,by (((iterate 41 refine Same.upd rfl ?_);exact Same.ovN)),u+1-(n+1),by omega,inferInstance,n+1,_,_,congrArg (Value.int .i64) (by omega),congrArg (Value.int .i64) (by omega),rfl,rfl,rfl,by omega,fun _=>rfl,fun _=>by omega⟩
  ·have hnf:¬ (n:Int)=(f:Int):=by omega
   (refine jI (eU rfl) (ju rfl rfl (ju rfl rfl (jJ (eS rfl) (jJ (eI rfl) (jz ?_)))));refine jjB (jjB (jjC (jI (eI rfl) (jjk rfl rfl (by omega) (jI (eB rfl) ?_)))));refine jT rfl rfl rfl (jI (eS rfl) (jT rfl rfl rfl (jh rfl (jT rfl rfl rfl (jja rfl rfl (by omega) ?_)))));refine jL rfl (eB rfl) (jz (jjK rfl (jjG (jjB (jjB ?_)))));refine jjC (jI (eI rfl) (jI (eI rfl) (jji rfl rfl (by omega) (jz (jjK rfl ?_)))));refine jjG (jjB (jjC (jI (eI rfl) (jI (eS rfl) (jh rfl ?_)))));refine jY rfl rfl (by omega) (jZ rfl rfl (by omega) (jJ (eI rfl) (jz (jjC (jI (eI rfl) ?_)))));refine jI (eS rfl) (jh rfl (jY rfl rfl (by omega) (jJ (eI rfl) (jz (jjC ?_)))));refine jI (eI rfl) (jY rfl rfl (by omega) (jJ (eI rfl) (jz ?_))))
   exact ⟨rfl,by (((iterate 39 refine Same.upd rfl ?_);exact Same.ovN)),u+1-(n+1),by omega,inferInstance,n+1,_,_,congrArg (Value.int .i64) (by omega),congrArg (Value.int .i64) (by omega),rfl,rfl,rfl,by omega,fun h=>hx (by omega),fun _=>by omega⟩
 obtain rfl:n=u+1:=by omega
 obtain rfl:=hx (by omega)
 have hpos:0<offL (txF cs) (u+1):=by have:=hoff u hu;have:=hne u hu;omega
 obtain rfl:z=((offL (txF cs) (u+1)-1:Nat):Int):=by have:=hz (by omega);omega
 (refine jjB (jjB (jjC (jI (eI rfl) (jI (eI rfl) (jjc rfl rfl (by omega) ?_)))));refine jz (jjK rfl (jjE (jjB (jjC (jI (eI rfl) ?_)))));refine jJ (eI rfl) (jz (jjB (jjC (jm (jn rfl ?_)))));refine jO rfl rfl rfl rfl (jI (eI rfl) ?_))
 refine jjQ (PlaceOf_leaf a c cs _ hsm ht _ p hpa) rfl rfl ?_
 rintro _ w5 hS5 rfl
 (refine jI (eU rfl) (ju rfl rfl (ju rfl rfl ?_)))
 (apply jjR rfl;(intro _;first|exact eI rfl|exact eB rfl|exact eP rfl|exact eS rfl|exact eT rfl|exact eA rfl|exact eU rfl|exact eF rfl|exact eM rfl|exact eN rfl|exact rfl);exact rfl;exact rfl;exact rfl;exact rfl;intro b16 w_b16 hb_b16 hs_b16 hS_b16 hk_b16;have hA_b16:=Bk.of hk_b16)
 (refine jJ (eI rfl) (jz (jjB (jjC (jm (jn rfl ?_)))));refine jO rfl rfl rfl rfl (jI (eI rfl) ?_))
 refine jjQ (PlaceOf_leaf a c cs _ hsm ht _ q hqa) rfl rfl ?_
 rintro _ w6 hS6 rfl
 (refine jI (eU rfl) (ju rfl rfl (ju rfl rfl ?_)))
 (apply jjR rfl;(intro _;first|exact eI rfl|exact eB rfl|exact eP rfl|exact eS rfl|exact eT rfl|exact eA rfl|exact eU rfl|exact eF rfl|exact eM rfl|exact eN rfl|exact rfl);exact rfl;exact rfl;exact rfl;exact rfl;intro b18 w_b18 hb_b18 hs_b18 hS_b18 hk_b18;have hA_b18:=Bk.of hk_b18)
 have A16:At w_b18 b16 0 (encPl p).cells.toList:=(Bk.toAt (h:=hA_b16)).ext (hS6.ext.trans hS_b18.ext)
 have A18:At w_b18 b18 0 (encPl q).cells.toList:=Bk.toAt (h:=hA_b18)
 have hE18:Ext w_b7 w_b18:=hSV.ext.trans (hS5.ext.trans (hS_b16.ext.trans (hS6.ext.trans hS_b18.ext)))
 have B6:Bk w_b18 b6 [.int .i64 0,.int .i64 0,.int .i64 0] 48:=(hA_b6.ext hS_b7.ext).ext hE18
 have B7:Bk w_b18 b7 [.int .i64 0,.int .i64 0,.int .i64 0] 48:=hA_b7.ext hE18
 have z6:=hS_b6.size
 have z7:=hS_b7.size
 have zV:=hE18.size
 have n16:w_b7.heap.size≤b16:=by have:=hSV.ext.size;have:=hS5.size;omega
 have n18:w_b7.heap.size≤b18:=by have:=hSV.ext.size;have:=hS5.size;have:=hS_b16.size;have:=hS6.size;omega
 (refine jJ (eI rfl) (jz (jjB ?_)))
 refine W.draw (fun w'=>At w' b16 0 (encPl p).cells.toList∧At w' b18 0 (encPl q).cells.toList) ?_
 intro x1 hX1
 have g1:At x1 b16 0 (encPl p).cells.toList∧At x1 b18 0 (encPl q).cells.toList:=⟨A16.ext hX1.ext,A18.ext hX1.ext⟩
 refine jjV [0] (by decide +kernel) g1 (jjT (v:=encPl p) rfl (fun w' q1=>?_) (jjU ?_));(refine Ops.loadOA (off:=0) q1.1 rfl rfl rfl rfl ?_;refine jz ?_;exact ⟨rfl,rfl⟩)
 refine jjV [1] (by decide +kernel) g1 (jjT (v:=encPl q) rfl (fun w' q1=>?_) (jjU ?_));(refine Ops.loadOA (off:=0) q1.2 rfl rfl rfl rfl ?_;refine jz ?_;exact ⟨rfl,rfl⟩)
 refine jjV [2] (by decide +kernel) g1 ?_
 (((refine jjT rfl (fun _ _=>jI (eI rfl) (jz ⟨rfl,rfl⟩)) (jjU ?_))))
 refine jjV [3] (by decide +kernel) g1 (jjT (v:=.bool true) rfl (fun w' q1=>?_) (jjU ?_));(refine jb rfl rfl ?_;rw [decide_eq_true (by decide)];refine jz ?_;exact ⟨rfl,rfl⟩)
 refine jjV [4,5] (by decide +kernel) g1 ?_
 (((refine jjT rfl (fun _ _=>jI (eB rfl) (jz ⟨rfl,rfl⟩)) (jjT rfl (fun _ _=>jT rfl rfl rfl (jI (eI rfl) (jz ⟨rfl,rfl⟩))) (jjU ?_)))))
 refine jjV [6] (by decide +kernel) g1 (jjT (v:=.bool true) rfl (fun w' q1=>?_) (jjU ?_));(refine jT rfl rfl rfl (jb rfl rfl ?_);rw [decide_eq_true (by decide)];refine jz ?_;exact ⟨rfl,rfl⟩)
 refine jjV [7] (by decide +kernel) g1 ?_
 (((refine jjT rfl (fun _ _=>jK rfl (eB rfl) (jz ⟨rfl,rfl⟩)) (jjU ?_))))
 have B61:=B6.ext hX1.ext
 have B71:=B7.ext hX1.ext
 (apply jjW 8;(decide +kernel);exact rfl;(exact g1))
 refine Ops.store rfl rfl rfl rfl rfl ?_
 intro x2 hp2
 have g2:At x2 b16 0 (encPl p).cells.toList∧At x2 b18 0 (encPl q).cells.toList:=⟨hp2.at_ g1.1 (by omega),hp2.at_ g1.2 (by omega)⟩
 have B72:=hp2.bk B71 (show b7≠b6 by omega)
 refine jz ?_
 (apply jjW 9;(decide +kernel);exact rfl;(exact g2))
 refine Ops.store rfl rfl rfl rfl rfl ?_
 intro x3 hp3
 have g3:At x3 b16 0 (encPl p).cells.toList∧At x3 b18 0 (encPl q).cells.toList:=⟨hp3.at_ g2.1 (by omega),hp3.at_ g2.2 (by omega)⟩
 have C6:At x3 b6 0 (encPl p).cells.toList:=hp3.at_ (Bk.toAt (h:=⟨hp2.new⟩)) (by omega)
 have C7:At x3 b7 0 (encPl q).cells.toList:=Bk.toAt (h:=⟨hp3.new⟩)
 refine jz ?_
 refine jjV [10] (by decide +kernel) g3 ?_
 (((refine jjT rfl (fun _ _=>jJ (eB rfl) (jz ⟨rfl,rfl⟩)) (jjU ?_))))
 refine jjX (by decide +kernel) g3 ?_
 have eF:Ext w x3:=hp3.ext (hp2.ext (hE7.trans (hE18.trans hX1.ext)) (by omega)) (by omega)
 (refine jjF ?_)
 exact fin3CC rfl rfl rfl rfl rfl rfl C6 C7 rfl rfl rfl rfl ⟨eF,rfl⟩
end

structure SmallX (hs:List Hp) (ss:List Shr) (xs:List Sht):Prop where
 h:hs.length≤8
 s:ss.length≤12
 x:xs.length≤12
 l:∀ x∈xs,x.2.2.2.length≤40∧∀ y∈x.2.2.2,y.2.2.length≤15∧∀ t∈y.2.2,t.size≤40
def lineSm (y:Ln):Prop:=y.2.2.length≤15∧∀ t∈y.2.2,t.size≤40
def sheetSm (x:Sht):Prop:=x.2.2.2.length≤40∧∀ y∈x.2.2.2,lineSm y
section
variable (a:Option Addr) (c:Nat) (cs:List Ch) (ha:Option Addr) (hc:Nat) (hs:List Hp) (sa:Option Addr) (sc:Nat) (ss:List Shr) (xa:Option Addr) (xc:Nat) (xs:List Sht) (w:World)
 [hrow:RowI w (.slice a cs.length c) true 2 (cs.map encCh)] [hT:TextI w cs] [hhs:RowI w (.slice ha hs.length hc) true 3 (hs.map encHp)] [hss:RowI w (.slice sa ss.length sc) true 4 (ss.map encShr)] [hxs:RowI w (.slice xa xs.length xc) true 2 (xs.map encSht)] [hxi:ShtI w xs]
set_option maxHeartbeats 8000000 in
theorem Great_ref5:Ct Tryz.prog 5 [.agg #[.slice a cs.length c,.slice ha hs.length hc,.slice sa ss.length sc,.slice xa xs.length xc]] w fun v _=>∃ b,v=.bool b∧(b=false→greatT (txF cs)=false∧SmallX hs ss xs):=by
 have hlh:=hhs.h.len
 have hls:=hss.h.len
 have hlx:=hxs.h.len
 rw [List.length_map] at hlh hls hlx
 refine Ct.ofW (by simp) ?_
 (refine jjB (jjC ?_))
 (refine jy rfl ?_;intro b1 w_b1 hb_b1 hs_b1 hS_b1 hk_b1;have hA_b1:=At.ofBlock hk_b1)
 have A1:At w_b1 b1 0 [.slice a cs.length c,.slice ha hs.length hc,.slice sa ss.length sc,.slice xa xs.length xc]:=At.ofBlock hk_b1
 obtain ⟨G,hG⟩:∃ G,greatT (txF cs)=G:=⟨_,rfl⟩
 (refine jJ (eB rfl) (jz (jjB (jjB (jjC (jm ?_)))));refine jn rfl (jO rfl rfl rfl rfl ?_))
 refine jjQ ((Great_ref1 a c cs _).mono fun v _ _ h=>h.trans (by rw [hG])) rfl rfl ?_
 rintro _ w2 hS2 rfl
 cases G with
 | true =>
   (refine jI (eB rfl) (jU rfl rfl rfl rfl (jU rfl rfl rfl rfl (jU rfl rfl rfl rfl (jU rfl rfl rfl rfl (jK rfl (eB rfl) ?_)))));refine jI (eB rfl) (jU rfl rfl rfl rfl (jU rfl rfl rfl rfl (jU rfl rfl rfl rfl (jU rfl rfl rfl rfl (jK rfl (eB rfl) ?_)))));refine jI (eB rfl) (jU rfl rfl rfl rfl (jU rfl rfl rfl rfl (jU rfl rfl rfl rfl (jU rfl rfl rfl rfl (jK rfl (eB rfl) ?_)))));refine jz (jjJ rfl (jjB (jjC (jJ (eB rfl) (jz ?_)))));refine jjF ?_;refine jB rfl rfl ⟨inferInstance,?_⟩)
   exact ⟨_,rfl,fun h=>by cases h⟩
 | false =>
 by_cases h8:8<hs.length
 ·(refine jI (eB rfl) (jT rfl rfl rfl (jm (jn rfl (jT rfl rfl rfl (jN rfl rfl rfl ?_)))));refine jT rfl rfl rfl (jh rfl (jT rfl rfl rfl (jjd rfl rfl (by omega) (jL rfl (eB rfl) (jI (eB rfl) ?_)))));refine jU rfl rfl rfl rfl (jU rfl rfl rfl rfl (jU rfl rfl rfl rfl (jU rfl rfl rfl rfl (jK rfl (eB rfl) (jI (eB rfl) ?_)))));refine jU rfl rfl rfl rfl (jU rfl rfl rfl rfl (jU rfl rfl rfl rfl (jU rfl rfl rfl rfl (jK rfl (eB rfl) (jz ?_)))));refine jjJ rfl (jjB (jjC (jJ (eB rfl) (jz (jjF ?_)))));refine jB rfl rfl ⟨inferInstance,?_⟩)
  exact ⟨_,rfl,fun h=>by cases h⟩
 by_cases h12:12<ss.length
 ·(refine jI (eB rfl) (jT rfl rfl rfl (jm (jn rfl (jT rfl rfl rfl (jN rfl rfl rfl ?_)))));refine jT rfl rfl rfl (jh rfl (jT rfl rfl rfl (jje rfl rfl (by omega) (jL rfl (eB rfl) (jI (eB rfl) ?_)))));refine jT rfl rfl rfl (jm (jn rfl (jT rfl rfl rfl (jN rfl rfl rfl (jT rfl rfl rfl ?_)))));refine jh rfl (jT rfl rfl rfl (jjd rfl rfl (by omega) (jL rfl (eB rfl) (jI (eB rfl) (jU rfl rfl rfl rfl ?_)))));refine jU rfl rfl rfl rfl (jU rfl rfl rfl rfl (jU rfl rfl rfl rfl (jK rfl (eB rfl) (jz (jjJ rfl ?_)))));refine jjB (jjC (jJ (eB rfl) (jz (jjF ?_))));refine jB rfl rfl ⟨inferInstance,?_⟩)
  exact ⟨_,rfl,fun h=>by cases h⟩
 by_cases h13:12<xs.length
 ·(refine jI (eB rfl) (jT rfl rfl rfl (jm (jn rfl (jT rfl rfl rfl (jN rfl rfl rfl ?_)))));refine jT rfl rfl rfl (jh rfl (jT rfl rfl rfl (jje rfl rfl (by omega) (jL rfl (eB rfl) (jI (eB rfl) ?_)))));refine jT rfl rfl rfl (jm (jn rfl (jT rfl rfl rfl (jN rfl rfl rfl (jT rfl rfl rfl ?_)))));refine jh rfl (jT rfl rfl rfl (jje rfl rfl (by omega) (jL rfl (eB rfl) (jI (eB rfl) (jT rfl rfl rfl ?_)))));refine jm (jn rfl (jT rfl rfl rfl (jN rfl rfl rfl (jT rfl rfl rfl (jh rfl ?_)))));refine jT rfl rfl rfl (jjd rfl rfl (by omega) (jL rfl (eB rfl) (jz (jjJ rfl (jjB ?_)))));refine jjC (jJ (eB rfl) (jz (jjF ?_)));refine jB rfl rfl ⟨inferInstance,?_⟩)
  exact ⟨_,rfl,fun h=>by cases h⟩
 (refine jI (eB rfl) (jT rfl rfl rfl (jm (jn rfl (jT rfl rfl rfl (jN rfl rfl rfl ?_)))));refine jT rfl rfl rfl (jh rfl (jT rfl rfl rfl (jje rfl rfl (by omega) (jL rfl (eB rfl) (jI (eB rfl) ?_)))));refine jT rfl rfl rfl (jm (jn rfl (jT rfl rfl rfl (jN rfl rfl rfl (jT rfl rfl rfl ?_)))));refine jh rfl (jT rfl rfl rfl (jje rfl rfl (by omega) (jL rfl (eB rfl) (jI (eB rfl) (jT rfl rfl rfl ?_)))));refine jm (jn rfl (jT rfl rfl rfl (jN rfl rfl rfl (jT rfl rfl rfl (jh rfl ?_)))));refine jT rfl rfl rfl (jje rfl rfl (by omega) (jL rfl (eB rfl) (jz (jjK rfl (jjG ?_)))));refine jjB (jjB (jjC (jJ (eI rfl) (jz (jjD ?_))))))
 refine W.keep0 [(1,.pointer (some ⟨b1,0,none⟩)),(3,.int .i64 ((0:Nat):Int))] ⟨eP rfl,eI rfl,trivial⟩ fun s0=>?_
 refine W.loop (27::28::29::30::31::34::35::36::37::38::39::40::41::2::4::42::43::44::45::46::47::48::49::50::53::54::55::56::57::58::59::60::61::62::63::5::64::65::66::67::68::69::70::71::72::73::74::75::78::79::80::81::82::83::84::85::86::87::88::89::90::91::76::77::51::52::32::33::3::[]) (fun g s' V=>∃ k:Nat,s' 3=.int .i64 ((k:Nat):Int)∧g=xs.length-k∧k≤xs.length∧∀ (j:Nat) (hj:j<xs.length),j<k→sheetSm xs[j]) xs.length ⟨0,rfl,rfl,Nat.zero_le _,by intros;omega⟩ ?_
 rintro _ sd w3 hS3 ⟨k,h3,rfl,hk,hpre⟩
 refine W.fix h3 ?_
 clear h3
 by_cases hk1:k<xs.length
 rotate_left
 ·(refine jjB (jjB (jjC (jI (eI rfl) (jm (jn rfl ?_)))));refine jN rfl rfl rfl (jh rfl (jja rfl rfl (by omega) (jz (jjK rfl (jjE ?_)))));refine jjB (jjC (jJ (eB rfl) (jz (jjF ?_))));refine jB rfl rfl ⟨inferInstance,?_⟩)
  refine ⟨_,rfl,fun _=>⟨hG,by omega,by omega,by omega,fun x hx=>?_⟩⟩
  obtain ⟨j,hj,rfl⟩:=List.mem_iff_getElem.1 hx
  exact hpre j hj (by omega)
 have hX3:ShtI w3 xs:=inferInstance
 have i3:=hX3.line hk1
 have hll:=i3.h.len
 rw [List.length_map] at hll
 by_cases h40:40<xs[k].2.2.2.length
 ·(refine jjB (jjB (jjC (jI (eI rfl) (jm (jn rfl ?_)))));refine jN rfl rfl rfl (jh rfl (jjZ rfl rfl (by omega) (jz (jjJ rfl (jjG ?_)))));refine jjB (jjD (jjB (jjB (jjC (jm ?_)))));refine jn rfl (jN rfl rfl rfl (jI (eI rfl) ?_));refine jF rfl rfl rfl (map_get (by omega)) ?_;intro _ _ _;refine jm (jn rfl (jP rfl rfl rfl (jh rfl (jjd rfl rfl (by omega) (jz ?_)))));refine jjJ rfl (jjB (jjC (jJ (eB rfl) (jz (jjF ?_)))));refine jB rfl rfl ⟨inferInstance,?_⟩)
  exact ⟨_,rfl,fun h=>by cases h⟩
 (refine jjB (jjB (jjC (jI (eI rfl) (jm (jn rfl ?_)))));refine jN rfl rfl rfl (jh rfl (jjZ rfl rfl (by omega) (jz (jjJ rfl (jjG ?_)))));refine jjB (jjD (jjB (jjB (jjC (jm ?_)))));refine jn rfl (jN rfl rfl rfl (jI (eI rfl) ?_));refine jF rfl rfl rfl (map_get (by omega)) ?_;intro _ _ _;refine jm (jn rfl (jP rfl rfl rfl (jh rfl (jje rfl rfl (by omega) (jz ?_)))));refine jjK rfl (jjG (jjB (jjC (jJ (eI rfl) (jz ?_)))));refine jjD ?_)
 refine W.keep [(1,.pointer (some ⟨b1,0,none⟩)),(3,.int .i64 ((k:Nat):Int)),(4,.int .i64 ((0:Nat):Int))] (D:=(27::28::29::30::31::34::35::36::37::38::39::40::41::2::4::42::43::44::45::46::47::48::49::50::53::54::55::56::57::58::59::60::61::62::63::5::64::65::66::67::68::69::70::71::72::73::74::75::78::79::80::81::82::83::84::85::86::87::88::89::90::91::76::77::51::52::32::33::3::[])) (sO:=upds s0 _) (by (((iterate 15 refine Same.upd rfl ?_);exact Same.ovN))) ⟨eP rfl,eI rfl,eI rfl,trivial⟩ fun s1 hs1=>?_
 refine W.loop (42::43::44::45::46::47::48::49::50::53::54::55::56::57::58::59::60::61::62::63::2::5::64::65::66::67::68::69::70::71::72::73::74::75::78::79::80::81::82::83::84::85::86::87::88::89::90::91::76::77::51::52::4::[]) (fun g s' V=>∃ n:Nat,s' 4=.int .i64 ((n:Nat):Int)∧g=xs[k].2.2.2.length-n∧n≤xs[k].2.2.2.length∧∀ (j:Nat) (hj:j<xs[k].2.2.2.length),j<n→lineSm xs[k].2.2.2[j]) xs[k].2.2.2.length ⟨0,rfl,rfl,Nat.zero_le _,by intros;omega⟩ ?_
 rintro _ sd2 w4 hS4 ⟨n,h4,rfl,hn,hpre2⟩
 refine W.fix h4 ?_
 clear h4
 have hX4:ShtI w4 xs:=inferInstance
 have i4:=hX4.line hk1
 by_cases hn1:n<xs[k].2.2.2.length
 rotate_left
 ·(refine jjB (jjB (jjC (jI (eI rfl) (jm (jn rfl ?_)))));refine jN rfl rfl rfl (jI (eI rfl) ?_);refine jF rfl rfl rfl (map_get (by omega)) ?_;intro _ _ _;refine jm (jn rfl (jP rfl rfl rfl (jh rfl (jja rfl rfl (by omega) (jz ?_)))));refine jjK rfl (jjE (jjC (jI (eI rfl) (jY rfl rfl (by omega) (jJ (eI rfl) ?_)))));refine jz ?_)
  refine ⟨rfl,by (((iterate 13 refine Same.upd rfl ?_);refine Same.ovN' rfl ?_;assumption)),xs.length-(k+1),by omega,inferInstance,k+1,congrArg (Value.int .i64) (by omega),rfl,by omega,fun j hj hjk=>?_⟩
  by_cases e:j=k
  ·subst e
   exact ⟨by omega,fun y hy=>by
    obtain ⟨q,hq,rfl⟩:=List.mem_iff_getElem.1 hy
    exact hpre2 q hq (by omega)⟩
  ·exact hpre j hj (by omega)
 have i5:RowI w4 (.slice xs[k].2.2.2[n].1 xs[k].2.2.2[n].2.2.length xs[k].2.2.2[n].2.1) false 1 (xs[k].2.2.2[n].2.2.map strV):=hX4.word hk1 hn1
 have hlw:=i5.h.len
 rw [List.length_map] at hlw
 by_cases h15:15<xs[k].2.2.2[n].2.2.length
 ·(refine jjB (jjB (jjC (jI (eI rfl) (jm (jn rfl ?_)))));refine jN rfl rfl rfl (jI (eI rfl) ?_);refine jF rfl rfl rfl (map_get (by omega)) ?_;intro _ _ _;refine jm (jn rfl (jP rfl rfl rfl (jh rfl (jjZ rfl rfl (by omega) (jz ?_)))));refine jjJ rfl (jjG (jjB (jjD (jjB (jjB ?_)))));refine jjC (jm (jn rfl (jN rfl rfl rfl (jI (eI rfl) ?_))));refine jF rfl rfl rfl (map_get (by omega)) ?_;intro _ _ _;refine jm (jn rfl (jP rfl rfl rfl (jI (eI rfl) ?_)));refine jF rfl rfl rfl (map_get (by omega)) ?_;intro _ _ _;refine jQ rfl rfl (jh rfl (jjd rfl rfl (by omega) (jz (jjJ rfl (jjB ?_)))));refine jjC (jJ (eB rfl) (jz (jjF ?_)));refine jB rfl rfl ⟨inferInstance,?_⟩)
  exact ⟨_,rfl,fun h=>by cases h⟩
 (refine jjB (jjB (jjC (jI (eI rfl) (jm (jn rfl ?_)))));refine jN rfl rfl rfl (jI (eI rfl) ?_);refine jF rfl rfl rfl (map_get (by omega)) ?_;intro _ _ _;refine jm (jn rfl (jP rfl rfl rfl (jh rfl (jjZ rfl rfl (by omega) (jz ?_)))));refine jjJ rfl (jjG (jjB (jjD (jjB (jjB ?_)))));refine jjC (jm (jn rfl (jN rfl rfl rfl (jI (eI rfl) ?_))));refine jF rfl rfl rfl (map_get (by omega)) ?_;intro _ _ _;refine jm (jn rfl (jP rfl rfl rfl (jI (eI rfl) ?_)));refine jF rfl rfl rfl (map_get (by omega)) ?_;intro _ _ _;refine jQ rfl rfl (jh rfl (jje rfl rfl (by omega) (jz (jjK rfl (jjG ?_)))));refine jjB (jjC (jJ (eI rfl) (jz (jjD ?_)))))
 refine W.keep [(1,.pointer (some ⟨b1,0,none⟩)),(3,.int .i64 ((k:Nat):Int)),(4,.int .i64 ((n:Nat):Int)),(5,.int .i64 ((0:Nat):Int))] (D:=(42::43::44::45::46::47::48::49::50::53::54::55::56::57::58::59::60::61::62::63::2::5::64::65::66::67::68::69::70::71::72::73::74::75::78::79::80::81::82::83::84::85::86::87::88::89::90::91::76::77::51::52::4::[])) (sO:=upds s1 _) (by (((iterate 22 refine Same.upd rfl ?_);exact Same.ovN))) ⟨eP rfl,eI rfl,eI rfl,eI rfl,trivial⟩ fun s2 hs2=>?_
 refine W.loop (64::65::66::67::68::69::70::71::72::73::74::75::78::79::80::81::82::83::84::85::86::87::88::89::90::91::2::76::77::5::[]) (fun g s' V=>∃ q:Nat,s' 5=.int .i64 ((q:Nat):Int)∧g=xs[k].2.2.2[n].2.2.length-q∧q≤xs[k].2.2.2[n].2.2.length∧∀ (j:Nat) (hj:j<xs[k].2.2.2[n].2.2.length),j<q→xs[k].2.2.2[n].2.2[j].size≤40) xs[k].2.2.2[n].2.2.length ⟨0,rfl,rfl,Nat.zero_le _,by intros;omega⟩ ?_
 rintro _ sd3 w5 hS5 ⟨q,h5,rfl,hq,hpre3⟩
 refine W.fix h5 ?_
 clear h5
 have hX5:ShtI w5 xs:=inferInstance
 have i6:=hX5.line hk1
 have i7:RowI w5 (.slice xs[k].2.2.2[n].1 xs[k].2.2.2[n].2.2.length xs[k].2.2.2[n].2.1) false 1 (xs[k].2.2.2[n].2.2.map strV):=hX5.word hk1 hn1
 by_cases hq1:q<xs[k].2.2.2[n].2.2.length
 rotate_left
 ·(refine jjB (jjB (jjC (jI (eI rfl) (jm (jn rfl ?_)))));refine jN rfl rfl rfl (jI (eI rfl) ?_);refine jF rfl rfl rfl (map_get (by omega)) ?_;intro _ _ _;refine jm (jn rfl (jP rfl rfl rfl (jI (eI rfl) ?_)));refine jF rfl rfl rfl (map_get (by omega)) ?_;intro _ _ _;refine jQ rfl rfl (jh rfl (jja rfl rfl (by omega) (jz (jjK rfl (jjE ?_)))));refine jjC (jI (eI rfl) (jY rfl rfl (by omega) (jJ (eI rfl) (jz ?_)))))
  refine ⟨rfl,by (((iterate 16 refine Same.upd rfl ?_);refine Same.ovN' rfl ?_;assumption)),xs[k].2.2.2.length-(n+1),by omega,inferInstance,n+1,congrArg (Value.int .i64) (by omega),rfl,by omega,fun j hj hjk=>?_⟩
  by_cases e:j=n
  ·subst e
   exact ⟨by omega,fun y hy=>by
    obtain ⟨q',hq',rfl⟩:=List.mem_iff_getElem.1 hy
    exact hpre3 q' hq' (by omega)⟩
  ·exact hpre2 j hj (by omega)
 by_cases h41:40<xs[k].2.2.2[n].2.2[q].size
 ·(refine jjB (jjB (jjC (jI (eI rfl) (jm (jn rfl ?_)))));refine jN rfl rfl rfl (jI (eI rfl) ?_);refine jF rfl rfl rfl (map_get (by omega)) ?_;intro _ _ _;refine jm (jn rfl (jP rfl rfl rfl (jI (eI rfl) ?_)));refine jF rfl rfl rfl (map_get (by omega)) ?_;intro _ _ _;refine jQ rfl rfl (jh rfl (jjZ rfl rfl (by omega) (jz (jjJ rfl (jjG ?_)))));refine jjB (jjD (jjB (jjC (jm (jn rfl ?_)))));refine jN rfl rfl rfl (jI (eI rfl) ?_);refine jF rfl rfl rfl (map_get (by omega)) ?_;intro _ _ _;refine jm (jn rfl (jP rfl rfl rfl (jI (eI rfl) ?_)));refine jF rfl rfl rfl (map_get (by omega)) ?_;intro _ _ _;refine jQ rfl rfl (jI (eI rfl) ?_);refine jF rfl rfl rfl (map_get (by omega)) ?_;intro _ _ _;refine jQ rfl rfl (ji rfl (jjd rfl rfl (by omega) (jz (jjJ rfl (jjB ?_)))));refine jjC (jJ (eB rfl) (jz (jjF ?_)));refine jB rfl rfl ⟨inferInstance,?_⟩)
  exact ⟨_,rfl,fun h=>by cases h⟩
 (refine jjB (jjB (jjC (jI (eI rfl) (jm (jn rfl ?_)))));refine jN rfl rfl rfl (jI (eI rfl) ?_);refine jF rfl rfl rfl (map_get (by omega)) ?_;intro _ _ _;refine jm (jn rfl (jP rfl rfl rfl (jI (eI rfl) ?_)));refine jF rfl rfl rfl (map_get (by omega)) ?_;intro _ _ _;refine jQ rfl rfl (jh rfl (jjZ rfl rfl (by omega) (jz (jjJ rfl (jjG ?_)))));refine jjB (jjD (jjB (jjC (jm (jn rfl ?_)))));refine jN rfl rfl rfl (jI (eI rfl) ?_);refine jF rfl rfl rfl (map_get (by omega)) ?_;intro _ _ _;refine jm (jn rfl (jP rfl rfl rfl (jI (eI rfl) ?_)));refine jF rfl rfl rfl (map_get (by omega)) ?_;intro _ _ _;refine jQ rfl rfl (jI (eI rfl) ?_);refine jF rfl rfl rfl (map_get (by omega)) ?_;intro _ _ _;refine jQ rfl rfl (ji rfl (jje rfl rfl (by omega) (jz (jjK rfl (jjG ?_)))));refine jjC (jI (eI rfl) (jY rfl rfl (by omega) (jJ (eI rfl) (jz ?_)))))
 refine ⟨rfl,by (((iterate 30 refine Same.upd rfl ?_);exact Same.ovN)),xs[k].2.2.2[n].2.2.length-(q+1),by omega,inferInstance,q+1,congrArg (Value.int .i64) (by omega),rfl,by omega,fun j hj hjk=>?_⟩
 by_cases e:j=q
 ·subst e;omega
 ·exact hpre3 j hj (by omega)
end

section
variable (a:Option Addr) (c:Nat) (cs:List Ch) (w:World) [hrow:RowI w (.slice a cs.length c) true 2 (cs.map encCh)] [hT:TextI w cs]
theorem lnK_small (hsm:SmallT cs):∀ j,j≤cs.length→(lnK cs j).length≤j * 1000:=fun j=>by
 induction j with
 | zero=>intro _;simp [lnK]
 | succ j ih =>
   intro hj
   rw [lnK_succ (by omega),List.length_append]
   have:=(hsm.2 cs[j] (List.getElem_mem (by omega))).1
   have:=ih (by omega)
   omega
set_option maxHeartbeats 8000000 in
theorem Lines_ref5 (hsm:SmallT cs):Ct Tryz.prog 54 [.agg #[.slice a cs.length c]] w fun v _=>∃ la lc,v=.slice la (lnK cs cs.length).length lc:=by
 have hs1:=hsm.1
 refine Ct.ofW (by simp) ?_
 (refine jjB (jjC ?_))
 (refine jy rfl ?_;intro b1 w_b1 hb_b1 hs_b1 hS_b1 hk_b1;have hA_b1:=At.ofBlock hk_b1)
 (refine jJ (eS rfl) (jz (jjB (jjC (jJ (eS rfl) (jz ?_)))));refine jjB (jjB (jjC (jJ (eI rfl) (jz (jjD ?_))))))
 refine W.keep0 [(1,.pointer (some ⟨b1,0,none⟩)),(3,.slice none 0 0),(4,.int .i64 ((0:Nat):Int))] ⟨eP rfl,eS rfl,eI rfl,trivial⟩ fun s0=>?_
 refine W.loopG (6::7::8::9::10::5::13::14::15::16::17::18::19::20::21::24::25::26::27::28::29::30::31::32::33::34::35::3::22::23::11::12::4::[]) (fun g s' V=>∃ (k:Nat) (lv:Value),s' 4=.int .i64 (k:Int)∧s' 3=lv∧g=cs.length-k∧k≤cs.length∧Ext w_b1 V∧OwnL V w_b1.heap.size 70 false 1 lv ((lnK cs k).map encLn)) cs.length ⟨0,_,rfl,rfl,rfl,Nat.zero_le _,.refl _,OwnL.nil _ _ _ _ _⟩ ?_
 rintro _ sd V ⟨k,lv,h4,h3,rfl,hk,hEV,hO⟩
 obtain ⟨la,lc,rfl⟩:=hO.slice
 rw [List.length_map] at hO h3
 refine W.fix h4 (W.fix (d:=3) h3 ?_)
 clear h4 h3
 have hEV':=hEV.toStep
 by_cases hk1:k<cs.length
 rotate_left
 ·obtain rfl:k=cs.length:=by omega
  (refine jjB (jjB (jjC (jI (eI rfl) (jm (jn rfl ?_)))));refine jN rfl rfl rfl (jh rfl (jja rfl rfl (by omega) (jz (jjK rfl (jjE ?_)))));refine jjB (jjC (jI (eS rfl) (jJ (eS rfl) (jz (jjF ?_)))));refine jB rfl rfl ⟨inferInstance,?_⟩)
  exact ⟨la,lc,rfl⟩
 have hx:=hsm.2 cs[k] (List.getElem_mem hk1)
 (refine jjB (jjB (jjC (jI (eI rfl) (jm (jn rfl ?_)))));refine jN rfl rfl rfl (jh rfl (jjZ rfl rfl (by omega) (jz (jjJ rfl (jjG ?_)))));refine jjB (jjD (jjB (jjC (jJ (eI rfl) (jz ?_)))));refine jjD ?_)
 refine W.keep [(1,.pointer (some ⟨b1,0,none⟩)),(3,.slice la (lnK cs k).length lc),(4,.int .i64 (k:Int)),(5,.int .i64 ((0:Nat):Int))] (D:=(6::7::8::9::10::5::13::14::15::16::17::18::19::20::21::24::25::26::27::28::29::30::31::32::33::34::35::3::22::23::11::12::4::[])) (sO:=upds s0 _) (by (((iterate 8 refine Same.upd rfl ?_);exact Same.ovN))) ⟨eP rfl,eS rfl,eI rfl,eI rfl,trivial⟩ fun s1 hs1'=>?_
 refine W.loopG (13::14::15::16::17::18::19::20::21::24::25::26::27::28::29::30::31::32::33::34::35::3::22::23::5::[]) (fun g s' V=>∃ (n:Nat) (lv:Value),s' 5=.int .i64 (n:Int)∧s' 3=lv∧g=cs[k].2.2.2.length-n∧n≤cs[k].2.2.2.length∧Ext w_b1 V∧OwnL V w_b1.heap.size 70 false 1 lv ((lnK cs k++cs[k].2.2.2.take n).map encLn)) cs[k].2.2.2.length ⟨0,.slice la (lnK cs k).length lc,rfl,rfl,rfl,Nat.zero_le _,hEV,by simpa using hO⟩ ?_
 clear hO hEV' hEV
 rintro _ sd2 V2 ⟨n,lv,h5,h3,rfl,hn,hE2,hO⟩
 obtain ⟨la,lc,rfl⟩:=hO.slice
 rw [List.length_map] at hO h3
 refine W.fix h5 (W.fix (d:=3) h3 ?_)
 clear h5 h3
 have hE2':=hE2.toStep
 have hT2:TextI V2 cs:=inferInstance
 have i2:=hT2.line hk1
 have hlk:=lnK_small cs hsm k hk
 by_cases hn1:n<cs[k].2.2.2.length
 rotate_left
 ·obtain rfl:n=cs[k].2.2.2.length:=by omega
  rw [List.take_length,←lnK_succ hk1] at hO
  (refine jjB (jjB (jjC (jI (eI rfl) (jm (jn rfl ?_)))));refine jN rfl rfl rfl (jI (eI rfl) ?_);refine jF rfl rfl rfl (map_get (by omega)) ?_;intro _ _ _;refine jm (jn rfl (jP rfl rfl rfl (jh rfl (jja rfl rfl (by omega) (jz ?_)))));refine jjK rfl (jjE (jjC (jI (eI rfl) (jY rfl rfl (by omega) (jJ (eI rfl) ?_)))));refine jz ?_)
  refine ⟨rfl,by (((iterate 14 refine Same.upd rfl ?_);refine Same.ovN' rfl ?_;assumption)),cs.length-(k+1),by omega,k+1,_,congrArg (Value.int .i64) (by omega),rfl,rfl,by omega,hE2,?_⟩
  rw [List.take_length,←lnK_succ hk1]
  exact hO
 (refine jjB (jjB (jjC (jI (eI rfl) (jm (jn rfl ?_)))));refine jN rfl rfl rfl (jI (eI rfl) ?_);refine jF rfl rfl rfl (map_get (by omega)) ?_;intro _ _ _;refine jm (jn rfl (jP rfl rfl rfl (jh rfl (jjZ rfl rfl (by omega) (jz ?_)))));refine jjJ rfl (jjG (jjB (jjD (jjC (jI (eS rfl) ?_)))));refine jm (jn rfl (jN rfl rfl rfl (jI (eI rfl) ?_)));refine jF rfl rfl rfl (map_get (by omega)) ?_;intro _ _ _;refine jm (jn rfl (jP rfl rfl rfl (jI (eI rfl) ?_)));refine jF rfl rfl rfl (map_get (by omega)) ?_;intro _ _ _;refine jQ rfl rfl ?_)
 (refine jjP (v:=.slice _ _ _) rfl (by exact rfl) (by exact rfl) (by exact rfl) (by exact rfl) ?_;intro b34 w_b34 hb_b34 hs_b34 hS_b34 hk_b34;have hR_b34:=RowV.one (agg:=false) (k:=1) rfl hk_b34)
 have hE34:=hE2.trans hS_b34.ext
 have hR34:RowV w_b34 false 1 (.slice (some ⟨b34,0,none⟩) 1 1) [encLn cs[k].2.2.2[n]]:=hR_b34
 refine Ops.appendL (hO.ext hS_b34.ext) hE34.size hR34 rfl rfl rfl rfl rfl ?_ ?_ ?_
 ·rw [List.length_map,List.length_append,List.length_take];simp only [List.length_cons,List.length_nil];omega
 ·rw [List.length_map,List.length_append,List.length_take];simp only [List.length_cons,List.length_nil];omega
 intro l3 V3 hA3 hO3 _ _
 have e1:(lnK cs k++cs[k].2.2.2.take n).map encLn++[encLn cs[k].2.2.2[n]]=(lnK cs k++cs[k].2.2.2.take (n+1)).map encLn:=by
  rw [take_snoc_get (List.getElem?_eq_getElem hn1)];exact map_snoc2 encLn _ _ _
 rw [e1] at hO3
 (refine jJ rfl (jz (jjC (jI (eI rfl) (jY rfl rfl (by omega) (jJ (eI rfl) ?_)))));refine jz ?_)
 exact ⟨rfl,by (((iterate 27 refine Same.upd rfl ?_);exact Same.ovN)),cs[k].2.2.2.length-(n+1),by omega,n+1,_,congrArg (Value.int .i64) (by omega),rfl,rfl,by omega,hA3.ext hE34 (Nat.le_refl _),hO3⟩
end
end Go.Proofs.YtbafmbpmiiplkaaGreatDoor
