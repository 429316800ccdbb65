/- Texts of the proof, part 3: Lf1, Lf2, ReadO, SlS, SlX, Sl1, SlM, PlB, SlW, SlO, PlC, PlD, Eng24, LibC, SlN, SrW, CmpL, SrO, Sl2, Sl3, Sl4, Sl5, Sl6, Sl7, LibS, Sl8, Sl9, Sw5, PlF, Sr1, Sr2, Sr3, Sr4, Sr5, Sr6, PlE, Sw2, Sw3, MpK, KeyP, Eng26, Sw4, Sw1, PlG. -/
import Derived.ShapedOpen
import Derived.Deep.Strs
import Derived.Lib.AppendZerosOnto
import Derived.Test.YtbafmbpmiiplkaaGreatDoorTP2
namespace Go.Proofs.YtbafmbpmiiplkaaGreatDoor
open Go.RowKit

abbrev lnV:Option Ln→Value
 | some y=>encLn y
 | none=>.slice none 0 0
theorem order_leaf (a b:Pl) (w:World):Ct Tryz.prog 138 [encPl a,encPl b] w fun v _=>v=.int .i64 (cmpP a b):=by
 refine Ct.ofW (by simp) ?_
 (refine jjB (jjC ?_))
 (refine jy rfl ?_;intro b1 w_b1 hb_b1 hs_b1 hS_b1 hk_b1;have hA_b1:=At.ofBlock hk_b1)
 skip
 (refine jy rfl ?_;intro b2 w_b2 hb_b2 hs_b2 hS_b2 hk_b2;have hA_b2:=At.ofBlock hk_b2)
 (refine jJ (eI rfl) (jz (jjB ?_)))
 refine W.draw (fun w'=>Ext w_b2 w') ?_
 intro w1 hS1
 (refine jjV [0,1,2,3,5,6,7,8,10,11,12,13] ?_ ?_ ?_;(decide +kernel);(exact hS1.ext);(((apply jjT;exact rfl;rintro w' hq;have:=hq.toStep;refine jm (jn rfl (jz ?_));exact ⟨rfl,rfl⟩;apply jjT;exact rfl;rintro w' hq;have:=hq.toStep;refine jN rfl rfl rfl (jz ?_);exact ⟨rfl,rfl⟩;apply jjT;exact rfl;rintro w' hq;have:=hq.toStep;refine jm (jn rfl (jz ?_));exact ⟨rfl,rfl⟩;apply jjT;exact rfl;rintro w' hq;have:=hq.toStep;refine jN rfl rfl rfl (jz ?_);exact ⟨rfl,rfl⟩;apply jjT;exact rfl;rintro w' hq;have:=hq.toStep;refine jm (jn rfl (jz ?_));exact ⟨rfl,rfl⟩;apply jjT;exact rfl;rintro w' hq;have:=hq.toStep;refine jN rfl rfl rfl (jz ?_);exact ⟨rfl,rfl⟩;apply jjT;exact rfl;rintro w' hq;have:=hq.toStep;refine jm (jn rfl (jz ?_));exact ⟨rfl,rfl⟩;apply jjT;exact rfl;rintro w' hq;have:=hq.toStep;refine jN rfl rfl rfl (jz ?_);exact ⟨rfl,rfl⟩;apply jjT;exact rfl;rintro w' hq;have:=hq.toStep;refine jm (jn rfl (jz ?_));exact ⟨rfl,rfl⟩;apply jjT;exact rfl;rintro w' hq;have:=hq.toStep;refine jN rfl rfl rfl (jz ?_);exact ⟨rfl,rfl⟩;apply jjT;exact rfl;rintro w' hq;have:=hq.toStep;refine jm (jn rfl (jz ?_));exact ⟨rfl,rfl⟩;apply jjT;exact rfl;rintro w' hq;have:=hq.toStep;refine jN rfl rfl rfl (jz ?_);exact ⟨rfl,rfl⟩;refine jjU ?_))))
 (apply jjW 4;(decide +kernel);exact rfl;(exact hS1.ext))
 refine jjQ (Compare_int _ _ _) rfl rfl ?_
 rintro _ w2 hS2 rfl
 refine jz ?_
 (apply jjW 9;(decide +kernel);exact rfl;(exact hS1.ext.trans hS2.ext))
 refine jjQ (Compare_int _ _ _) rfl rfl ?_
 rintro _ w3 hS3 rfl
 refine jz ?_
 (apply jjW 14;(decide +kernel);exact rfl;(exact (hS1.ext.trans hS2.ext).trans hS3.ext))
 refine jjQ (Compare_int _ _ _) rfl rfl ?_
 rintro _ w4 hS4 rfl
 refine jz ?_
 have hq2:Ext w_b2 w4:=((hS1.ext.trans hS2.ext).trans hS3.ext).trans hS4.ext
 (apply jjW 15;(decide +kernel);exact rfl;(exact hq2))
 refine Ops.buildSlice3 (v1:=.int .i64 (cmp1 a.1 b.1)) (v2:=.int .i64 (cmp1 a.2.1 b.2.1)) (v3:=.int .i64 (cmp1 a.2.2 b.2.2)) rfl rfl rfl rfl rfl rfl rfl ?_
 intro b3 w3 hb3 hs3 hS3 hk3
 refine jz ?_
 (apply jjW 16;(decide +kernel);exact rfl;(exact hq2.trans hS3.ext))
 have hr3:RowV w3 false 1 (.slice (some ⟨b3,0,none⟩) 3 3) ([cmp1 a.1 b.1,cmp1 a.2.1 b.2.1,cmp1 a.2.2 b.2.2].map intV):=hk3.row (fun x hx=>by simp at hx;rcases hx with rfl|rfl|rfl<;>rfl) (by simp)
 refine jjQ (Or_int _ _ _ [cmp1 a.1 b.1,cmp1 a.2.1 b.2.1,cmp1 a.2.2 b.2.2] _ rfl hr3) rfl rfl ?_
 rintro _ w4 hS4 rfl
 refine jz ?_
 (apply jjW 17;(decide +kernel);exact rfl;(exact (hq2.trans hS3.ext).trans hS4.ext))
 (refine jJ (eI rfl) (jz ?_))
 refine jjX (by decide +kernel) ((hq2.trans hS3.ext).trans hS4.ext) ?_
 (refine jjF ?_;refine jB rfl rfl ⟨inferInstance,?_⟩)
 exact rfl
theorem own_leaf (a:Option Addr) (c n:Nat) (l:List ByteArray) (q:Nat) (w:World) (hn:l.length=n) (hl:l.length≤1000000) (hq:q≤n) (hrow:RowV w false 1 (.slice a n c) (l.map strV)):Ct Tryz.prog 121 [.slice a n c,.int .i64 (q:Int)] w fun v _=>v=.string (l.getD q ⟨#[]⟩):=by
 subst hn
 have i0:RowI w (.slice a l.length c) false 1 (l.map strV):=⟨hrow⟩
 refine Ct.ofW (by simp) ?_
 by_cases e:q=l.length
 ·have e2:l.getD q ⟨#[]⟩=⟨#[]⟩:=by rw [List.getD_eq_getElem?_getD,List.getElem?_eq_none (by omega)];rfl
  rw [e2]
  (refine jjB (jjC (jJ (eT rfl) (jz (jjB (jjB ?_)))));refine jjC (jI (eI rfl) (jI (eS rfl) (jh rfl (jjh rfl rfl (by omega) (jz ?_)))));refine jjJ rfl (jjB (jjC (jJ (eT rfl) (jz (jjF ?_)))));refine jB rfl rfl ⟨inferInstance,?_⟩)
  exact rfl
 ·have hq':q<l.length:=by omega
  have e2:l.getD q ⟨#[]⟩=l[q]:=by rw [List.getD_eq_getElem?_getD,List.getElem?_eq_getElem hq'];rfl
  rw [e2]
  (refine jjB (jjC (jJ (eT rfl) (jz (jjB (jjB ?_)))));refine jjC (jI (eI rfl) (jI (eS rfl) (jh rfl (jji rfl rfl (by omega) (jz ?_)))));refine jjK rfl (jjG (jjB (jjC (jI (eS rfl) (jI (eI rfl) ?_)))));refine jF rfl rfl rfl (map_get (by omega)) ?_;intro _ _ _;refine jQ rfl rfl (jJ (eT rfl) (jz (jjF ?_)));refine jB rfl rfl ⟨inferInstance,?_⟩)
  exact rfl

section
variable (a:Option Addr) (c:Nat) (cs:List Ch) (w:World) [hrow:RowI w (.slice a cs.length c) true 2 (cs.map encCh)] [hT:TextI w cs]
set_option maxHeartbeats 1000000 in
theorem open_leaf (hs:SmallT cs):Ct Tryz.prog 75 [.agg #[.slice a cs.length c]] w fun v w'=>∃ o,v=.tuple #[.pointer o,.int .i64 (if textB (txF cs) then 0 else 10)]∧(textB (txF cs)=true→∃ b,w.heap.size≤b∧o=some ⟨b,0,none⟩∧At w' b 0 [.slice a cs.length c]):=by
 refine Ct.ofW (by simp) ?_
 (refine jjB (jjC ?_))
 (refine jy rfl ?_;intro b1 w_b1 hb_b1 hs_b1 hS_b1 hk_b1;have hA_b1:=At.ofBlock hk_b1)
 (refine jJ (eN rfl) (jJ (eI rfl) (jz (jjB (jjB (jjC ?_)))));refine jO rfl rfl rfl rfl ?_)
 obtain ⟨B,hB⟩:∃ B,textB (txF cs)=B:=⟨_,rfl⟩
 refine jjQ ((Check_leaf a c cs _ hs).mono fun v _ _ h=>h.trans (by rw [hB])) rfl rfl ?_
 rintro _ w2 hS2 rfl
 rw [hB]
 cases B
 ·(refine jJ (eI rfl) (jz (jjB (jjC (jI (eI rfl) (jc rfl rfl ?_)))));refine jz (jjJ rfl (jjB (jjC (jI (eI rfl) (jJ (eN rfl) ?_)))));refine jJ (eI rfl) (jz (jjF ?_));refine jC rfl rfl rfl ⟨inferInstance,?_⟩)
  exact ⟨_,rfl,fun h=>by cases h⟩
 ·(refine jJ (eI rfl) (jz (jjB (jjC (jI (eI rfl) (jc rfl rfl ?_)))));refine jz (jjK rfl (jjG (jjB (jjC (jO rfl rfl rfl rfl ?_))))))
  (refine jjS (cells:=[.slice a cs.length c]) ?_ ?_;exact rfl)
  skip
  (refine jy rfl ?_;intro b3 w_b3 hb_b3 hs_b3 hS_b3 hk_b3;have hA_b3:=At.ofBlock hk_b3)
  (refine jJ (eP rfl) (jJ (eI rfl) (jz (jjF ?_)));refine jC rfl rfl rfl ⟨inferInstance,?_⟩)
  exact ⟨_,rfl,fun _=>⟨b3,by have:=(inferInstance:Ext w w2).size;omega,rfl,inferInstance⟩⟩
set_option maxHeartbeats 4000000 in
theorem line_leaf (bb:Nat) (p:Pl) (hs:SmallT cs) [hb:At w bb 0 [.slice a cs.length c]]:Ct Tryz.prog 136 [.pointer (some ⟨bb,0,none⟩),encPl p] w fun v _=>v=lnV (lineC cs p):=by
 have hs1:=hs.1
 obtain ⟨p1,p2,p3⟩:=p
 obtain ⟨B1,h1⟩:∃ B,inB 0 ((cs.length:Int)-1) p1=B:=⟨_,rfl⟩
 cases B1
 ·rw [lineC_no1 h1]
  refine Ct.ofW (by simp) ?_
  (refine jjB (jjC ?_))
  (refine jy rfl ?_;intro b3 w_b3 hb_b3 hs_b3 hS_b3 hk_b3;have hA_b3:=At.ofBlock hk_b3)
  (refine jJ (eS rfl) (jz (jjB (jjB ?_))))
  refine W.draw (fun w'=>Ext w_b3 w') ?_
  intro w1 hS1
  have x1:=hS1.ext
  (refine jjV [0,1,2,3,4,5,6,7,8] ?_ ?_ ?_;(decide +kernel);(exact x1);(((refine jjT rfl (fun _ _=>jI (eP rfl) (jz ⟨rfl,rfl⟩)) ?_;apply jjT;exact rfl;rintro w' hq;have:=hq.toStep;refine jw rfl (jz ?_);exact ⟨rfl,rfl⟩;apply jjT;exact rfl;rintro w' hq;have:=hq.toStep;refine jm (jn rfl (jz ?_));exact ⟨rfl,rfl⟩;apply jjT;exact rfl;rintro w' hq;have:=hq.toStep;refine jm (jn rfl (jz ?_));exact ⟨rfl,rfl⟩;apply jjT;exact rfl;rintro w' hq;have:=hq.toStep;refine jN rfl rfl rfl (jz ?_);exact ⟨rfl,rfl⟩;refine jjT rfl (fun _ _=>jh rfl (jz ⟨rfl,rfl⟩)) (jjT rfl (fun _ _=>jZ rfl rfl (by omega) (jz ⟨rfl,rfl⟩)) ?_);apply jjT;exact rfl;rintro w' hq;have:=hq.toStep;refine jm (jn rfl (jz ?_));exact ⟨rfl,rfl⟩;apply jjT;exact rfl;rintro w' hq;have:=hq.toStep;refine jN rfl rfl rfl (jz ?_);exact ⟨rfl,rfl⟩;refine jjU ?_))))
  (apply jjW 9;(decide +kernel);exact rfl;(exact x1))
  (refine jjP (v:=.int _ _) rfl (by exact rfl) (by exact rfl) (by exact rfl) (by exact rfl) ?_;intro b9 w_b9 hb_b9 hs_b9 hS_b9 hk_b9;have hR_b9:=RowV.one (agg:=false) (k:=1) rfl hk_b9)
  refine jz ?_
  have x2:=x1.trans hS_b9.ext
  (apply jjW 10;(decide +kernel);exact rfl;(exact x2))
  refine jjQ (inOne_leaf 0 ((cs.length:Int)-1) p1 b9 _ _ h1 hR_b9) rfl rfl ?_
  rintro _ w4 hS4 rfl
  refine jz ?_
  have x3:=x2.trans hS4.ext
  (refine jjV [11,12,13,14,15,16,17,18,19,20,21,22,23,24,25,26,27,28,29,30] ?_ ?_ ?_;(decide +kernel);(exact x3);(((refine jjT rfl (fun _ _=>jq rfl (jz ⟨rfl,rfl⟩)) (jjT rfl (fun _ _=>jI (eB rfl) (jz ⟨rfl,rfl⟩)) (jjT rfl (fun _ _=>jU rfl rfl rfl rfl (jz ⟨rfl,rfl⟩)) (jjT rfl (fun _ _=>jU rfl rfl rfl rfl (jz ⟨rfl,rfl⟩)) (jjT rfl (fun _ _=>jU rfl rfl rfl rfl (jz ⟨rfl,rfl⟩)) (jjT rfl (fun _ _=>jU rfl rfl rfl rfl (jz ⟨rfl,rfl⟩)) ?_)))));refine jjT rfl (fun _ _=>jU rfl rfl rfl rfl (jz ⟨rfl,rfl⟩)) (jjT rfl (fun _ _=>jU rfl rfl rfl rfl (jz ⟨rfl,rfl⟩)) (jjT rfl (fun _ _=>jU rfl rfl rfl rfl (jz ⟨rfl,rfl⟩)) (jjT rfl (fun _ _=>jU rfl rfl rfl rfl (jz ⟨rfl,rfl⟩)) (jjT rfl (fun _ _=>jU rfl rfl rfl rfl (jz ⟨rfl,rfl⟩)) (jjT rfl (fun _ _=>jU rfl rfl rfl rfl (jz ⟨rfl,rfl⟩)) ?_)))));refine jjT rfl (fun _ _=>jU rfl rfl rfl rfl (jz ⟨rfl,rfl⟩)) (jjT rfl (fun _ _=>jU rfl rfl rfl rfl (jz ⟨rfl,rfl⟩)) (jjT rfl (fun _ _=>jU rfl rfl rfl rfl (jz ⟨rfl,rfl⟩)) (jjT rfl (fun _ _=>jU rfl rfl rfl rfl (jz ⟨rfl,rfl⟩)) (jjT rfl (fun _ _=>jU rfl rfl rfl rfl (jz ⟨rfl,rfl⟩)) (jjT rfl (fun _ _=>jU rfl rfl rfl rfl (jz ⟨rfl,rfl⟩)) ?_)))));refine jjT rfl (fun _ _=>jU rfl rfl rfl rfl (jz ⟨rfl,rfl⟩)) (jjT rfl (fun _ _=>jK rfl (eB rfl) (jz ⟨rfl,rfl⟩)) (jjU ?_))))))
  refine jjX (by decide +kernel) x3 ?_
  have:=x3.toStep
  (refine jjJ rfl (jjB (jjC (jJ (eS rfl) (jz (jjF ?_)))));refine jB rfl rfl ⟨inferInstance,?_⟩)
  exact rfl
 obtain ⟨k,hk,rfl⟩:∃ k:Nat,k<cs.length∧p1=k:=⟨p1.toNat,by simp [inB] at h1;omega,by simp [inB] at h1;omega⟩
 obtain ⟨ba,oa,rfl,hA⟩:=hrow.h.place' (map_get hk)
 have hA1:At w ba (oa+k * 2) [.int .i64 cs[k].1,.slice cs[k].2.1 cs[k].2.2.2.length cs[k].2.2.1]:=hA
 clear hA
 have hs2:=(hs.2 _ (List.getElem_mem hk)).1
 have i1:=hT.line hk
 obtain ⟨B2,h2⟩:∃ B,inB 0 ((cs[k].2.2.2.length:Int)-1) p2=B:=⟨_,rfl⟩
 cases B2
 ·rw [lineC_no2 hk h2]
  refine Ct.ofW (by simp) ?_
  (refine jjB (jjC ?_))
  (refine jy rfl ?_;intro b3 w_b3 hb_b3 hs_b3 hS_b3 hk_b3;have hA_b3:=At.ofBlock hk_b3)
  (refine jJ (eS rfl) (jz (jjB (jjB ?_))))
  refine W.draw (fun w'=>Ext w_b3 w') ?_
  intro w1 hS1
  have x1:=hS1.ext
  (refine jjV [0,1,2,3,4,5,6,7,8] ?_ ?_ ?_;(decide +kernel);(exact x1);(((refine jjT rfl (fun _ _=>jI (eP rfl) (jz ⟨rfl,rfl⟩)) ?_;apply jjT;exact rfl;rintro w' hq;have:=hq.toStep;refine jw rfl (jz ?_);exact ⟨rfl,rfl⟩;apply jjT;exact rfl;rintro w' hq;have:=hq.toStep;refine jm (jn rfl (jz ?_));exact ⟨rfl,rfl⟩;apply jjT;exact rfl;rintro w' hq;have:=hq.toStep;refine jm (jn rfl (jz ?_));exact ⟨rfl,rfl⟩;apply jjT;exact rfl;rintro w' hq;have:=hq.toStep;refine jN rfl rfl rfl (jz ?_);exact ⟨rfl,rfl⟩;refine jjT rfl (fun _ _=>jh rfl (jz ⟨rfl,rfl⟩)) (jjT rfl (fun _ _=>jZ rfl rfl (by omega) (jz ⟨rfl,rfl⟩)) ?_);apply jjT;exact rfl;rintro w' hq;have:=hq.toStep;refine jm (jn rfl (jz ?_));exact ⟨rfl,rfl⟩;apply jjT;exact rfl;rintro w' hq;have:=hq.toStep;refine jN rfl rfl rfl (jz ?_);exact ⟨rfl,rfl⟩;refine jjU ?_))))
  (apply jjW 9;(decide +kernel);exact rfl;(exact x1))
  (refine jjP (v:=.int _ _) rfl (by exact rfl) (by exact rfl) (by exact rfl) (by exact rfl) ?_;intro b9 w_b9 hb_b9 hs_b9 hS_b9 hk_b9;have hR_b9:=RowV.one (agg:=false) (k:=1) rfl hk_b9)
  refine jz ?_
  have x2:=x1.trans hS_b9.ext
  (apply jjW 10;(decide +kernel);exact rfl;(exact x2))
  refine jjQ (inOne_leaf 0 ((cs.length:Int)-1) k b9 _ _ h1 hR_b9) rfl rfl ?_
  rintro _ w4 hS4 rfl
  refine jz ?_
  have x3:=x2.trans hS4.ext
  (refine jjV [11,12,13,14,15,16,17,18,19,20,21,22,23,24,25,26] ?_ ?_ ?_;(decide +kernel);(exact x3);(((refine jjT rfl (fun _ _=>jp rfl (jz ⟨rfl,rfl⟩)) (jjT rfl (fun _ _=>jI (eB rfl) (jz ⟨rfl,rfl⟩)) (jjT rfl (fun _ _=>jT rfl rfl rfl (jI (eP rfl) (jz ⟨rfl,rfl⟩))) ?_));apply jjT;exact rfl;rintro w' hq;have:=hq.toStep;refine jT rfl rfl rfl (jw rfl (jz ?_));exact ⟨rfl,rfl⟩;apply jjT;exact rfl;rintro w' hq;have:=hq.toStep;refine jT rfl rfl rfl (jm (jn rfl (jz ?_)));exact ⟨rfl,rfl⟩;apply jjT;exact rfl;rintro w' hq;have:=hq.toStep;refine jT rfl rfl rfl (jm (jn rfl (jz ?_)));exact ⟨rfl,rfl⟩;apply jjT;exact rfl;rintro w' hq;have:=hq.toStep;refine jT rfl rfl rfl (jN rfl rfl rfl (jz ?_));exact ⟨rfl,rfl⟩;apply jjT;exact rfl;rintro w' hq;have:=hq.toStep;refine jT rfl rfl rfl (jm (jn rfl (jz ?_)));exact ⟨rfl,rfl⟩;apply jjT;exact rfl;rintro w' hq;have:=hq.toStep;refine jT rfl rfl rfl (jN rfl rfl rfl (jz ?_));exact ⟨rfl,rfl⟩;apply jjT;exact rfl;rintro w' hq;have:=hq.toStep;refine jT rfl rfl rfl (jH _ rfl rfl rfl (by omega) (jz ?_));exact ⟨rfl,rfl⟩;apply jjT;exact rfl;rintro w' hq;have:=hq.toStep;refine jT rfl rfl rfl (jm (jn rfl (jz ?_)));exact ⟨rfl,rfl⟩;apply jjT;exact rfl;rintro w' hq;have:=hq.toStep;refine jT rfl rfl rfl (jP rfl rfl rfl (jz ?_));exact ⟨rfl,rfl⟩;refine jjT rfl (fun _ _=>jT rfl rfl rfl (jh rfl (jz ⟨rfl,rfl⟩))) (jjT rfl (fun _ _=>jT rfl rfl rfl (jZ rfl rfl (by omega) (jz ⟨rfl,rfl⟩))) ?_);apply jjT;exact rfl;rintro w' hq;have:=hq.toStep;refine jT rfl rfl rfl (jm (jn rfl (jz ?_)));exact ⟨rfl,rfl⟩;apply jjT;exact rfl;rintro w' hq;have:=hq.toStep;refine jT rfl rfl rfl (jN rfl rfl rfl (jz ?_));exact ⟨rfl,rfl⟩;refine jjU ?_))))
  (apply jjW 27;(decide +kernel);exact rfl;(exact x3))
  (refine jT rfl rfl rfl ?_)
  (refine jjP (v:=.int _ _) rfl (by exact rfl) (by exact rfl) (by exact rfl) (by exact rfl) ?_;intro b27 w_b27 hb_b27 hs_b27 hS_b27 hk_b27;have hR_b27:=RowV.one (agg:=false) (k:=1) rfl hk_b27)
  refine jz ?_
  have x4:=x3.trans hS_b27.ext
  (apply jjW 28;(decide +kernel);exact rfl;(exact x4))
  (refine jT rfl rfl rfl ?_)
  refine jjQ (inOne_leaf 0 ((cs[k].2.2.2.length:Int)-1) p2 b27 _ _ h2 hR_b27) rfl rfl ?_
  rintro _ w6 hS6 rfl
  refine jz ?_
  have x5:=x4.trans hS6.ext
  (refine jjV [29,30] ?_ ?_ ?_;(decide +kernel);(exact x5);(((refine jjT rfl (fun _ _=>jT rfl rfl rfl (jq rfl (jz ⟨rfl,rfl⟩))) (jjT rfl (fun _ _=>jL rfl (eB rfl) (jz ⟨rfl,rfl⟩)) (jjU ?_))))))
  refine jjX (by decide +kernel) x5 ?_
  have:=x5.toStep
  (refine jjJ rfl (jjB (jjC (jJ (eS rfl) (jz (jjF ?_)))));refine jB rfl rfl ⟨inferInstance,?_⟩)
  exact rfl
 obtain ⟨n,hn,rfl⟩:∃ n:Nat,n<cs[k].2.2.2.length∧p2=n:=⟨p2.toNat,by simp [inB] at h2;omega,by simp [inB] at h2;omega⟩
 obtain ⟨b3',o3,e3,hA3⟩:=i1.h.place' (map_get hn)
 rw [e3] at hA1
 rw [Nat.mul_one] at hA3
 rw [lineC_yes hk hn]
 refine Ct.ofW (by simp) ?_
 (refine jjB (jjC ?_))
 (refine jy rfl ?_;intro b3 w_b3 hb_b3 hs_b3 hS_b3 hk_b3;have hA_b3:=At.ofBlock hk_b3)
 (refine jJ (eS rfl) (jz (jjB (jjB ?_))))
 refine W.draw (fun w'=>Ext w_b3 w') ?_
 intro w1 hS1
 have x1:=hS1.ext
 (refine jjV [0,1,2,3,4,5,6,7,8] ?_ ?_ ?_;(decide +kernel);(exact x1);(((refine jjT rfl (fun _ _=>jI (eP rfl) (jz ⟨rfl,rfl⟩)) ?_;apply jjT;exact rfl;rintro w' hq;have:=hq.toStep;refine jw rfl (jz ?_);exact ⟨rfl,rfl⟩;apply jjT;exact rfl;rintro w' hq;have:=hq.toStep;refine jm (jn rfl (jz ?_));exact ⟨rfl,rfl⟩;apply jjT;exact rfl;rintro w' hq;have:=hq.toStep;refine jm (jn rfl (jz ?_));exact ⟨rfl,rfl⟩;apply jjT;exact rfl;rintro w' hq;have:=hq.toStep;refine jN rfl rfl rfl (jz ?_);exact ⟨rfl,rfl⟩;refine jjT rfl (fun _ _=>jh rfl (jz ⟨rfl,rfl⟩)) (jjT rfl (fun _ _=>jZ rfl rfl (by omega) (jz ⟨rfl,rfl⟩)) ?_);apply jjT;exact rfl;rintro w' hq;have:=hq.toStep;refine jm (jn rfl (jz ?_));exact ⟨rfl,rfl⟩;apply jjT;exact rfl;rintro w' hq;have:=hq.toStep;refine jN rfl rfl rfl (jz ?_);exact ⟨rfl,rfl⟩;refine jjU ?_))))
 (apply jjW 9;(decide +kernel);exact rfl;(exact x1))
 (refine jjP (v:=.int _ _) rfl (by exact rfl) (by exact rfl) (by exact rfl) (by exact rfl) ?_;intro b9 w_b9 hb_b9 hs_b9 hS_b9 hk_b9;have hR_b9:=RowV.one (agg:=false) (k:=1) rfl hk_b9)
 refine jz ?_
 have x2:=x1.trans hS_b9.ext
 (apply jjW 10;(decide +kernel);exact rfl;(exact x2))
 refine jjQ (inOne_leaf 0 ((cs.length:Int)-1) k b9 _ _ h1 hR_b9) rfl rfl ?_
 rintro _ w4 hS4 rfl
 refine jz ?_
 have x3:=x2.trans hS4.ext
 (refine jjV [11,12,13,14,15,16,17,18,19,20,21,22,23,24,25,26] ?_ ?_ ?_;(decide +kernel);(exact x3);(((refine jjT rfl (fun _ _=>jp rfl (jz ⟨rfl,rfl⟩)) (jjT rfl (fun _ _=>jI (eB rfl) (jz ⟨rfl,rfl⟩)) (jjT rfl (fun _ _=>jT rfl rfl rfl (jI (eP rfl) (jz ⟨rfl,rfl⟩))) ?_));apply jjT;exact rfl;rintro w' hq;have:=hq.toStep;refine jT rfl rfl rfl (jw rfl (jz ?_));exact ⟨rfl,rfl⟩;apply jjT;exact rfl;rintro w' hq;have:=hq.toStep;refine jT rfl rfl rfl (jm (jn rfl (jz ?_)));exact ⟨rfl,rfl⟩;apply jjT;exact rfl;rintro w' hq;have:=hq.toStep;refine jT rfl rfl rfl (jm (jn rfl (jz ?_)));exact ⟨rfl,rfl⟩;apply jjT;exact rfl;rintro w' hq;have:=hq.toStep;refine jT rfl rfl rfl (jN rfl rfl rfl (jz ?_));exact ⟨rfl,rfl⟩;apply jjT;exact rfl;rintro w' hq;have:=hq.toStep;refine jT rfl rfl rfl (jm (jn rfl (jz ?_)));exact ⟨rfl,rfl⟩;apply jjT;exact rfl;rintro w' hq;have:=hq.toStep;refine jT rfl rfl rfl (jN rfl rfl rfl (jz ?_));exact ⟨rfl,rfl⟩;apply jjT;exact rfl;rintro w' hq;have:=hq.toStep;refine jT rfl rfl rfl (jH _ rfl rfl rfl (by omega) (jz ?_));exact ⟨rfl,rfl⟩;apply jjT;exact rfl;rintro w' hq;have:=hq.toStep;refine jT rfl rfl rfl (jm (jn rfl (jz ?_)));exact ⟨rfl,rfl⟩;apply jjT;exact rfl;rintro w' hq;have:=hq.toStep;refine jT rfl rfl rfl (jP rfl rfl rfl (jz ?_));exact ⟨rfl,rfl⟩;refine jjT rfl (fun _ _=>jT rfl rfl rfl (jh rfl (jz ⟨rfl,rfl⟩))) (jjT rfl (fun _ _=>jT rfl rfl rfl (jZ rfl rfl (by omega) (jz ⟨rfl,rfl⟩))) ?_);apply jjT;exact rfl;rintro w' hq;have:=hq.toStep;refine jT rfl rfl rfl (jm (jn rfl (jz ?_)));exact ⟨rfl,rfl⟩;apply jjT;exact rfl;rintro w' hq;have:=hq.toStep;refine jT rfl rfl rfl (jN rfl rfl rfl (jz ?_));exact ⟨rfl,rfl⟩;refine jjU ?_))))
 (apply jjW 27;(decide +kernel);exact rfl;(exact x3))
 (refine jT rfl rfl rfl ?_)
 (refine jjP (v:=.int _ _) rfl (by exact rfl) (by exact rfl) (by exact rfl) (by exact rfl) ?_;intro b27 w_b27 hb_b27 hs_b27 hS_b27 hk_b27;have hR_b27:=RowV.one (agg:=false) (k:=1) rfl hk_b27)
 refine jz ?_
 have x4:=x3.trans hS_b27.ext
 (apply jjW 28;(decide +kernel);exact rfl;(exact x4))
 (refine jT rfl rfl rfl ?_)
 refine jjQ (inOne_leaf 0 ((cs[k].2.2.2.length:Int)-1) n b27 _ _ h2 hR_b27) rfl rfl ?_
 rintro _ w6 hS6 rfl
 refine jz ?_
 have x5:=x4.trans hS6.ext
 (refine jjV [29,30] ?_ ?_ ?_;(decide +kernel);(exact x5);(((refine jjT rfl (fun _ _=>jT rfl rfl rfl (jp rfl (jz ⟨rfl,rfl⟩))) (jjT rfl (fun _ _=>jL rfl (eB rfl) (jz ⟨rfl,rfl⟩)) (jjU ?_))))))
 refine jjX (by decide +kernel) x5 ?_
 have:=x5.toStep
 (refine jjK rfl (jjG (jjB ?_)))
 refine W.draw (fun w'=>Ext w_b3 w') ?_
 intro w7 hS7
 have x7:=x5.trans hS7.ext
 (refine jjV [0,1,2,3,4,5,6,7,8,9,10,11,12,13,14] ?_ ?_ ?_;(decide +kernel);(exact x7);(((refine jjT rfl (fun _ _=>jI (eP rfl) (jz ⟨rfl,rfl⟩)) ?_;apply jjT;exact rfl;rintro w' hq;have:=hq.toStep;refine jw rfl (jz ?_);exact ⟨rfl,rfl⟩;apply jjT;exact rfl;rintro w' hq;have:=hq.toStep;refine jm (jn rfl (jz ?_));exact ⟨rfl,rfl⟩;apply jjT;exact rfl;rintro w' hq;have:=hq.toStep;refine jm (jn rfl (jz ?_));exact ⟨rfl,rfl⟩;apply jjT;exact rfl;rintro w' hq;have:=hq.toStep;refine jN rfl rfl rfl (jz ?_);exact ⟨rfl,rfl⟩;apply jjT;exact rfl;rintro w' hq;have:=hq.toStep;refine jm (jn rfl (jz ?_));exact ⟨rfl,rfl⟩;apply jjT;exact rfl;rintro w' hq;have:=hq.toStep;refine jN rfl rfl rfl (jz ?_);exact ⟨rfl,rfl⟩;apply jjT;exact rfl;rintro w' hq;have:=hq.toStep;refine jH _ rfl rfl rfl (by omega) (jz ?_);exact ⟨rfl,rfl⟩;apply jjT;exact rfl;rintro w' hq;have:=hq.toStep;refine jm (jn rfl (jz ?_));exact ⟨rfl,rfl⟩;apply jjT;exact rfl;rintro w' hq;have:=hq.toStep;refine jP rfl rfl rfl (jz ?_);exact ⟨rfl,rfl⟩;apply jjT;exact rfl;rintro w' hq;have:=hq.toStep;refine jm (jn rfl (jz ?_));exact ⟨rfl,rfl⟩;apply jjT;exact rfl;rintro w' hq;have:=hq.toStep;refine jN rfl rfl rfl (jz ?_);exact ⟨rfl,rfl⟩;apply jjT;exact rfl;rintro w' hq;have:=hq.toStep;refine jG rfl rfl rfl (by omega) (jz ?_);exact ⟨rfl,rfl⟩;apply jjT;exact rfl;rintro w' hq;have:=hq.toStep;refine jQ rfl rfl (jz ?_);exact ⟨rfl,rfl⟩;refine jjT rfl (fun _ _=>jJ (eS rfl) (jz ⟨rfl,rfl⟩)) (jjU ?_)))))
 refine jjX (by decide +kernel) x7 ?_
 have:=x7.toStep
 (refine jjF ?_;refine jB rfl rfl ⟨inferInstance,?_⟩)
 exact rfl
end

abbrev kindsC:List Value:=[.int .i64 0,.nilFunc,.nilFunc,.int .i64 0,.func (.func 183) #[] ([]:List Value).toArray,.func (.func 184) #[] ([]:List Value).toArray,.int .i64 1,.func (.func 185) #[] ([]:List Value).toArray,.func (.func 186) #[] ([]:List Value).toArray,.int .i64 0,.func (.func 187) #[] ([]:List Value).toArray,.func (.func 188) #[] ([]:List Value).toArray]
def rgtB (kd:Int) (own put:ByteArray):Bool:=if kd=1 then decide (put.size=0) else if kd=2 then wordB put else wordB put && decide (put≠own)
def mkL (kd:Int) (own put:ByteArray):List ByteArray:=if kd=1 then [] else if kd=2 then [put,own] else [put]
def behN (kd:Int):Int:=if kd=2 then 1 else 0
theorem decide_str (s:ByteArray):decide (s=⟨#[]⟩)=decide (s.size=0):=by rw [decide_eq_decide];exact str_nil
theorem kinds1_leaf (own put:ByteArray) (w:World):Ct Tryz.prog 183 [.string own,.string put] w fun v _=>v=.bool (rgtB 1 own put):=by
 refine Ct.ofW (by simp) ?_
 (refine jjB (jjC (jJ (eB rfl) (jz (jjB (jjC ?_)))));refine jI (eT rfl) ?_)
 refine Ops.eqlS rfl rfl ?_
 (refine jJ (eB rfl) (jz (jjF ?_));refine jB rfl rfl ⟨inferInstance,?_⟩)
 rw [rgtB,if_pos rfl,←decide_str];exact rfl
theorem kinds2_leaf (own put:ByteArray) (w:World):Ct Tryz.prog 184 [.string own,.string put] w fun v w'=>OwnL w' w.heap.size 9 false 1 v ((mkL 1 own put).map strV):=by
 refine Ct.ofW (by simp) ?_
 (refine jjB (jjC (jJ (eS rfl) (jz (jjB (jjC ?_)))));refine jJ (eS rfl) (jz (jjF ?_));refine jB rfl rfl ⟨inferInstance,?_⟩)
 exact OwnL.nil _ _ _ _ _
theorem kinds3_leaf (own put:ByteArray) (w:World) (hp:put.size≤1000):Ct Tryz.prog 185 [.string own,.string put] w fun v _=>v=.bool (rgtB 2 own put):=by
 refine Ct.ofW (by simp) ?_
 (refine jjB (jjC (jJ (eB rfl) (jz (jjB (jjC ?_)))));refine jI (eT rfl) ?_)
 refine jjQ (word_leaf put _ (by omega)) rfl rfl ?_
 rintro _ w2 hS2 rfl
 (refine jJ (eB rfl) (jz (jjF ?_));refine jB rfl rfl ⟨inferInstance,?_⟩)
 exact rfl
theorem Bk.ownS {w:World} {b B:Nat} {ws:List ByteArray} (h:Bk w b (ws.map strV) 9) (hB:B≤b) (hl:ws.length≤1000000):OwnL w B 9 false 1 (.slice (some ⟨b,0,none⟩) ws.length ws.length) (ws.map strV) :=
 OwnL.ofCells h (List.length_map _) (Nat.le_refl _) (by unfold maxLen;omega) (by rw [List.take_of_length_le];rw [List.length_map];exact Nat.le_refl _) (by omega) hB fun x hx=>by obtain ⟨y,_,rfl⟩:=List.mem_map.1 hx;rfl
theorem kinds4_leaf (own put:ByteArray) (w:World):Ct Tryz.prog 186 [.string own,.string put] w fun v w'=>OwnL w' w.heap.size 9 false 1 v ((mkL 2 own put).map strV):=by
 refine Ct.ofW (by simp) ?_
 (refine jjB (jjC (jJ (eS rfl) (jz (jjB (jjC ?_)))));refine jI (eT rfl) (jI (eT rfl) ?_))
 refine Ops.buildSlice2 (u:=.string put) (v:=.string own) rfl rfl rfl rfl rfl ?_
 intro b3 w3 hb3 hs3 hS3 hk3
 (refine jJ (eS rfl) (jz (jjF ?_));refine jB rfl rfl ⟨inferInstance,?_⟩)
 exact Bk.ownS (ws:=[put,own]) hk3 (by omega) (by simp)
theorem kinds5_leaf (own put:ByteArray) (w:World) (hp:put.size≤1000):Ct Tryz.prog 187 [.string own,.string put] w fun v _=>v=.bool (rgtB 3 own put):=by
 refine Ct.ofW (by simp) ?_
 (refine jjB (jjC (jJ (eB rfl) (jz (jjB (jjC ?_)))));refine jI (eT rfl) ?_)
 obtain ⟨B,hB⟩:∃ B,wordB put=B:=⟨_,rfl⟩
 refine jjQ ((word_leaf put _ (by omega)).mono fun v _ _ h=>h.trans (by rw [hB])) rfl rfl ?_
 rintro _ w2 hS2 rfl
 rw [rgtB,if_neg (by decide),if_neg (by decide),hB]
 cases B
 ·(refine jI (eB rfl) (jU rfl rfl rfl rfl (jU rfl rfl rfl rfl (jU rfl rfl rfl rfl (jL rfl (eB rfl) (jJ (eB rfl) ?_)))));refine jz (jjF ?_);refine jB rfl rfl ⟨inferInstance,?_⟩)
  exact rfl
 ·(refine jI (eB rfl) (jT rfl rfl rfl (jI (eT rfl) (jT rfl rfl rfl (jI (eT rfl) (jT rfl rfl rfl ?_))))))
  refine Ops.neqS rfl rfl ?_
  (refine jK rfl (eB rfl) (jJ (eB rfl) (jz (jjF ?_)));refine jB rfl rfl ⟨inferInstance,?_⟩)
  exact rfl
theorem kinds6_leaf (own put:ByteArray) (w:World):Ct Tryz.prog 188 [.string own,.string put] w fun v w'=>OwnL w' w.heap.size 9 false 1 v ((mkL 3 own put).map strV):=by
 refine Ct.ofW (by simp) ?_
 (refine jjB (jjC (jJ (eS rfl) (jz (jjB (jjC ?_)))));refine jI (eT rfl) ?_)
 (refine jjP (v:=.string _) rfl (by exact rfl) (by exact rfl) (by exact rfl) (by exact rfl) ?_;intro b3 w_b3 hb_b3 hs_b3 hS_b3 hk_b3;have hR_b3:=RowV.one (agg:=false) (k:=1) rfl hk_b3)
 (refine jJ (eS rfl) (jz (jjF ?_));refine jB rfl rfl ⟨inferInstance,?_⟩)
 exact OwnL.one rfl (by omega) hk_b3
theorem kindAt (kd:Int) (h:1≤kd∧kd≤3):∃ (j fr fm:Nat),kd=(j:Int)∧j<4∧Enters Tryz.prog fr∧Enters Tryz.prog fm∧(∀ w:World,At w 2 0 kindsC→At w 2 (0+j * 3) [.int .i64 (behN kd),.func (.func fr) #[] ([]:List Value).toArray,.func (.func fm) #[] ([]:List Value).toArray]) ∧
  (∀ (own put:ByteArray) (w:World),put.size≤1000→Ct Tryz.prog fr [.string own,.string put] w fun v _=>v=.bool (rgtB kd own put))∧(∀ (own put:ByteArray) (w:World),Ct Tryz.prog fm [.string own,.string put] w fun v w'=>OwnL w' w.heap.size 9 false 1 v ((mkL kd own put).map strV)):=by
 have hsd:kd=1∨kd=2∨kd=3:=by omega
 rcases hsd with rfl|rfl|rfl
 ·exact ⟨1,_,_,rfl,by omega,inferInstance,inferInstance,fun w h=>(h.drop 3).pre (ds:=[.int .i64 1,.func (.func 185) #[] ([]:List Value).toArray,.func (.func 186) #[] ([]:List Value).toArray,.int .i64 0,.func (.func 187) #[] ([]:List Value).toArray,.func (.func 188) #[] ([]:List Value).toArray]),fun own put w hp=>kinds1_leaf own put w,fun own put w=>kinds2_leaf own put w⟩
 ·exact ⟨2,_,_,rfl,by omega,inferInstance,inferInstance,fun w h=>(h.drop 6).pre (ds:=[.int .i64 0,.func (.func 187) #[] ([]:List Value).toArray,.func (.func 188) #[] ([]:List Value).toArray]),fun own put w hp=>kinds3_leaf own put w hp,fun own put w=>kinds4_leaf own put w⟩
 ·exact ⟨3,_,_,rfl,by omega,inferInstance,inferInstance,fun w h=>h.drop 9,fun own put w hp=>kinds5_leaf own put w hp,fun own put w=>kinds6_leaf own put w⟩

theorem lineC_T (cs:List Ch) (p:Pl):lineT (txF cs) p=(lineC cs p).map (·.2.2):=by
 unfold lineT lineC
 split
 ·rw [txF,List.getElem?_map]
  cases cs[p.1.toNat]? with
  | none=>rfl
  | some x=>simp
 ·rfl
theorem lineC_mem {cs:List Ch} {p:Pl} {y:Ln} (h:lineC cs p=some y):∃ x∈cs,y∈x.2.2.2:=by
 unfold lineC at h
 split at h
 ·obtain ⟨x,hx,hxy⟩:=Option.bind_eq_some_iff.1 h
  exact ⟨x,List.mem_of_getElem? hx,List.mem_of_getElem? hxy⟩
 ·cases h
theorem placeC_B (cs:List Ch) (p:Pl):placeC cs p=placeB (txF cs) p:=by
 unfold placeC placeB
 rw [lineC_T]
 cases lineC cs p<;>rfl
section
variable (a:Option Addr) (c:Nat) (cs:List Ch) (w:World) [hrow:RowI w (.slice a cs.length c) true 2 (cs.map encCh)] [hT:TextI w cs]
set_option maxHeartbeats 1000000 in
theorem has_leaf (bb:Nat) (p:Pl) (hs:SmallT cs) [hb:At w bb 0 [.slice a cs.length c]]:Ct Tryz.prog 118 [.pointer (some ⟨bb,0,none⟩),encPl p] w fun v _=>v=.bool (placeC cs p):=by
 obtain ⟨o,ho⟩:∃ o,lineC cs p=o:=⟨_,rfl⟩
 have hlen:∃ a' n' c',lnV o=.slice a' n' c'∧n'≤1000∧placeC cs p=inB 0 ((n':Int)-1) p.2.2:=by
  cases o with
  | none=>exact ⟨none,0,0,rfl,by omega,by rw [placeC,ho];simp [inB];omega⟩
  | some y =>
    obtain ⟨x,hx,hy⟩:=lineC_mem ho
    exact ⟨_,_,_,rfl,((hs.2 x hx).2 y hy).1,by rw [placeC,ho]⟩
 obtain ⟨a',n',c',e1,hn,e2⟩:=hlen
 rw [e2]
 obtain ⟨B,hB⟩:∃ B,inB 0 ((n':Int)-1) p.2.2=B:=⟨_,rfl⟩
 rw [hB]
 refine Ct.ofW (by simp) ?_
 (refine jjB (jjC ?_))
 (refine jy rfl ?_;intro b3 w_b3 hb_b3 hs_b3 hS_b3 hk_b3;have hA_b3:=At.ofBlock hk_b3)
 (refine jJ (eB rfl) (jz (jjB ?_)))
 refine W.draw (fun w'=>Ext w_b3 w') ?_
 intro w1 hS1
 have x1:=hS1.ext
 (refine jjV [0,1,5,6] ?_ ?_ ?_;(decide +kernel);(exact x1);(((refine jjT rfl (fun _ _=>jI (eP rfl) (jz ⟨rfl,rfl⟩)) ?_;apply jjT;exact rfl;rintro w' hq;have:=hq.toStep;refine jO rfl rfl rfl rfl (jz ?_);exact ⟨rfl,rfl⟩;apply jjT;exact rfl;rintro w' hq;have:=hq.toStep;refine jm (jn rfl (jz ?_));exact ⟨rfl,rfl⟩;apply jjT;exact rfl;rintro w' hq;have:=hq.toStep;refine jN rfl rfl rfl (jz ?_);exact ⟨rfl,rfl⟩;refine jjU ?_))))
 refine jjl 2 7 (by decide +kernel) rfl rfl x1 ?_ ?_
 ·refine jjQ ((line_leaf a c cs _ bb p hs).mono fun v _ _ h=>h.trans (by rw [ho,e1])) rfl rfl ?_
  rintro _ w2 hS2 rfl
  refine jz ?_
  have x2:=x1.trans hS2.ext
  (refine jjV [3,4] ?_ ?_ ?_;(decide +kernel);(exact x2);(((refine jjT rfl (fun _ _=>jh rfl (jz ⟨rfl,rfl⟩)) (jjT rfl (fun _ _=>jZ rfl rfl (by omega) (jz ⟨rfl,rfl⟩)) (jjU ?_))))))
  (apply jjW 7;(decide +kernel);exact rfl;(exact x2))
  (refine jjP (v:=.int _ _) rfl (by exact rfl) (by exact rfl) (by exact rfl) (by exact rfl) ?_;intro b9 w_b9 hb_b9 hs_b9 hS_b9 hk_b9;have hR_b9:=RowV.one (agg:=false) (k:=1) rfl hk_b9)
  refine jz ?_
  have x3:=x2.trans hS_b9.ext
  (apply jjW 8;(decide +kernel);exact rfl;(exact x3))
  refine jjQ (inOne_leaf 0 ((n':Int)-1) p.2.2 b9 _ _ hB hR_b9) rfl rfl ?_
  rintro _ w4 hS4 rfl
  refine jz ?_
  have x4:=x3.trans hS4.ext
  (refine jjV [9] ?_ ?_ ?_;(decide +kernel);(exact x4);(((refine jjT rfl (fun _ _=>jJ (eB rfl) (jz ⟨rfl,rfl⟩)) (jjU ?_)))))
  refine jjX (by decide +kernel) x4 ?_
  have:=x4.toStep
  (refine jjF ?_;refine jB rfl rfl ⟨inferInstance,?_⟩)
  exact rfl
 ·(refine jjP (v:=.int _ _) rfl (by exact rfl) (by exact rfl) (by exact rfl) (by exact rfl) ?_;intro b9 w_b9 hb_b9 hs_b9 hS_b9 hk_b9;have hR_b9:=RowV.one (agg:=false) (k:=1) rfl hk_b9)
  refine jz ?_
  have x2:=x1.trans hS_b9.ext
  (apply jjW 2;(decide +kernel);exact rfl;(exact x2))
  refine jjQ ((line_leaf a c cs _ bb p hs).mono fun v _ _ h=>h.trans (by rw [ho,e1])) rfl rfl ?_
  rintro _ w2 hS2 rfl
  refine jz ?_
  have x3:=x2.trans hS2.ext
  (refine jjV [3,4] ?_ ?_ ?_;(decide +kernel);(exact x3);(((refine jjT rfl (fun _ _=>jh rfl (jz ⟨rfl,rfl⟩)) (jjT rfl (fun _ _=>jZ rfl rfl (by omega) (jz ⟨rfl,rfl⟩)) (jjU ?_))))))
  (apply jjW 8;(decide +kernel);exact rfl;(exact x3))
  have hR9:=hR_b9.ext hS2.ext
  refine jjQ (inOne_leaf 0 ((n':Int)-1) p.2.2 b9 _ _ hB hR9) rfl rfl ?_
  rintro _ w4 hS4 rfl
  refine jz ?_
  have x4:=x3.trans hS4.ext
  (refine jjV [9] ?_ ?_ ?_;(decide +kernel);(exact x4);(((refine jjT rfl (fun _ _=>jJ (eB rfl) (jz ⟨rfl,rfl⟩)) (jjU ?_)))))
  refine jjX (by decide +kernel) x4 ?_
  have:=x4.toStep
  (refine jjF ?_;refine jB rfl rfl ⟨inferInstance,?_⟩)
  exact rfl
end
end Go.Proofs.YtbafmbpmiiplkaaGreatDoor

namespace Go.Proofs.YtbafmbpmiiplkaaGreatDoor
open Go.ChangeShapes Go.WideShapes Go.ChangeAt Go.RowKit Go.WideElems

theorem list12 {α:Type} {l:List α} (h:l.length=12):∃ a b c d e f g i j k m n,l=[a,b,c,d,e,f,g,i,j,k,m,n]:=by
 match l,h with
 | [a,b,c,d,e,f,g,i,j,k,m,n],_=>exact ⟨a,b,c,d,e,f,g,i,j,k,m,n,rfl⟩
theorem int_of_trod {H:Type} {tok:TypeId×Value→H} {W:World} {n:Nat} {v:Value} {m:Int} {q:List MemPlace} (h:DataW.trod tok Tryz.prog W 0 (fun _=>true) true n 3 [v]=some (.lit (.int .i64 m),q)):v=.int .i64 m:=by
 obtain ⟨m',e,h2,_⟩:=DataW.trod_int Tryz.underlying3 h
 cases e
 simp at h2
 obtain ⟨h2,_⟩:=h2
 rw [h2]

theorem g_kinds:Tryz.prog.globalNamed "postil/leaf.kinds" = some 2:=by kernel_rfl
theorem t_kinds:(Tryz.prog.globals[2]?).map (·.type)=some 230:=by kernel_rfl
theorem kinds_laid {W:World} {laid:List (String×DataW Unit)} (h:laidMetH Tryz.prog laid W) (hx:("postil/leaf.kinds", Rows.laid_postil_leaf_kinds)∈laid):At W 2 0 kindsC:=by
 obtain ⟨g,t,cs,fuel,p,hg,ht,hv,hd⟩:=laidMetH.funcs (d:=.agg [.agg [.lit (.int .i64 0),.nil,.nil],.agg [.lit (.int .i64 0),.iface "func" (.lit (.string [112,111,115,116,105,108,47,108,101,97,102,46,107,105,110,100,115,36,49])),.iface "func" (.lit (.string [112,111,115,116,105,108,47,108,101,97,102,46,107,105,110,100,115,36,50]))],.agg [.lit (.int .i64 1),.iface "func" (.lit (.string [112,111,115,116,105,108,47,108,101,97,102,46,107,105,110,100,115,36,51])),.iface "func" (.lit (.string [112,111,115,116,105,108,47,108,101,97,102,46,107,105,110,100,115,36,52]))],.agg [.lit (.int .i64 0),.iface "func" (.lit (.string [112,111,115,116,105,108,47,108,101,97,102,46,107,105,110,100,115,36,53])),.iface "func" (.lit (.string [112,111,115,116,105,108,47,108,101,97,102,46,107,105,110,100,115,36,54]))]]) h hx
 obtain rfl:=Option.some.inj (g_kinds.symm.trans hg)
 obtain rfl:=Option.some.inj (t_kinds.symm.trans ht)
 have hd':DataW.trod (funcToken Tryz.prog) Tryz.prog W 0 (fun _=>true) true fuel 230 cs.toList=some (.agg [.agg [.lit (.int .i64 0),.nil,.nil],.agg [.lit (.int .i64 0),.held [112,111,115,116,105,108,47,108,101,97,102,46,107,105,110,100,115,36,49],.held [112,111,115,116,105,108,47,108,101,97,102,46,107,105,110,100,115,36,50]],.agg [.lit (.int .i64 1),.held [112,111,115,116,105,108,47,108,101,97,102,46,107,105,110,100,115,36,51],.held [112,111,115,116,105,108,47,108,101,97,102,46,107,105,110,100,115,36,52]],.agg [.lit (.int .i64 0),.held [112,111,115,116,105,108,47,108,101,97,102,46,107,105,110,100,115,36,53],.held [112,111,115,116,105,108,47,108,101,97,102,46,107,105,110,100,115,36,54]]],p):=hd
 obtain ⟨xs,m,_,hxs,hl,hn,hel⟩:=DataW.trod_array Tryz.underlying230 hd'
 have kT:Tryz.prog.cellsOf 230=12:=by kernel_rfl
 have kE:Tryz.prog.cellsOf 229=3:=by kernel_rfl
 have kI:Tryz.prog.cellsOf 3=1:=by kernel_rfl
 have kF:Tryz.prog.cellsOf 226=1:=by kernel_rfl
 have kG:Tryz.prog.cellsOf 227=1:=by kernel_rfl
 obtain ⟨c0,c1,c2,c3,c4,c5,c6,c7,c8,c9,ca,cb,ecs⟩:=list12 (l:=cs.toList) (by simpa [kT] using hl)
 rw [ecs] at hel
 simp only [Prod.mk.injEq,DataW.agg.injEq] at hxs
 have key:∀ (i:Nat) (u0 u1 u2:Value) (b0 b1 b2:DataW (List UInt8)),i<4→(([c0,c1,c2,c3,c4,c5,c6,c7,c8,c9,ca,cb].drop (i * 3)).take 3)=[u0,u1,u2]→(xs.map (·.1))[i]?=some (.agg [b0,b1,b2]) →
   (∃ n q,DataW.trod (funcToken Tryz.prog) Tryz.prog W 0 (fun _=>true) true n 3 [u0]=some (b0,q))∧(∃ n q,DataW.trod (funcToken Tryz.prog) Tryz.prog W 0 (fun _=>true) true n 226 [u1]=some (b1,q))∧∃ n q,DataW.trod (funcToken Tryz.prog) Tryz.prog W 0 (fun _=>true) true n 227 [u2]=some (b2,q):=fun i u0 u1 u2 b0 b1 b2 hi hc hb=>by
  have h0:=hel i hi
  rw [kE,hc] at h0
  rw [List.getElem?_map] at hb
  obtain ⟨x,hx1,hx2⟩:=Option.map_eq_some_iff.1 hb
  rw [hx1] at h0
  obtain ⟨y0,y1,y2,n,e,_,h1,h2,h3⟩:=Deep.trod_struct3 Tryz.underlying229 h0
  rw [e] at hx2
  simp only [DataW.agg.injEq,List.cons.injEq,and_true] at hx2
  obtain ⟨y01,y02⟩:=y0
  obtain ⟨y11,y12⟩:=y1
  obtain ⟨y21,y22⟩:=y2
  simp only at hx2
  obtain ⟨rfl,rfl,rfl⟩:=hx2
  exact ⟨⟨n,y02,by simpa [kI] using h1⟩,⟨n,y12,by simpa [kF] using h2⟩,⟨n,y22,by simpa [kG] using h3⟩⟩
 obtain ⟨⟨_,_,i0⟩,⟨_,_,f0⟩,⟨_,_,g0⟩⟩:=key 0 c0 c1 c2 (.lit (.int .i64 0)) .nil .nil (by omega) rfl (by rw [←hxs.1];rfl)
 obtain ⟨⟨_,_,i1⟩,⟨_,_,f1⟩,⟨_,_,g1⟩⟩:=key 1 c3 c4 c5 (.lit (.int .i64 0)) (.held [112,111,115,116,105,108,47,108,101,97,102,46,107,105,110,100,115,36,49]) (.held [112,111,115,116,105,108,47,108,101,97,102,46,107,105,110,100,115,36,50]) (by omega) rfl (by rw [←hxs.1];rfl)
 obtain ⟨⟨_,_,i2⟩,⟨_,_,f2⟩,⟨_,_,g2⟩⟩:=key 2 c6 c7 c8 (.lit (.int .i64 1)) (.held [112,111,115,116,105,108,47,108,101,97,102,46,107,105,110,100,115,36,51]) (.held [112,111,115,116,105,108,47,108,101,97,102,46,107,105,110,100,115,36,52]) (by omega) rfl (by rw [←hxs.1];rfl)
 obtain ⟨⟨_,_,i3⟩,⟨_,_,f3⟩,⟨_,_,g3⟩⟩:=key 3 c9 ca cb (.lit (.int .i64 0)) (.held [112,111,115,116,105,108,47,108,101,97,102,46,107,105,110,100,115,36,53]) (.held [112,111,115,116,105,108,47,108,101,97,102,46,107,105,110,100,115,36,54]) (by omega) rfl (by rw [←hxs.1];rfl)
 obtain rfl:=int_of_trod i0
 obtain rfl:=int_of_trod i1
 obtain rfl:=int_of_trod i2
 obtain rfl:=int_of_trod i3
 obtain rfl:=nilf_of_trod Tryz.underlying226 f0
 obtain rfl:=nilf_of_trod Tryz.underlying227 g0
 obtain rfl:=func_of_trod (f0:=183) Tryz.underlying226 (by kernel_rfl) f1
 obtain rfl:=func_of_trod (f0:=184) Tryz.underlying227 (by kernel_rfl) g1
 obtain rfl:=func_of_trod (f0:=185) Tryz.underlying226 (by kernel_rfl) f2
 obtain rfl:=func_of_trod (f0:=186) Tryz.underlying227 (by kernel_rfl) g2
 obtain rfl:=func_of_trod (f0:=187) Tryz.underlying226 (by kernel_rfl) f3
 obtain rfl:=func_of_trod (f0:=188) Tryz.underlying227 (by kernel_rfl) g3
 have ecs':cs=(kindsC).toArray:=Array.ext' (by rw [ecs])
 subst ecs'
 exact ⟨fun i v hv'=>by have:=World.var?_cell hg hv i;rw [Nat.zero_add,this];simpa using hv'⟩
end Go.Proofs.YtbafmbpmiiplkaaGreatDoor
namespace Go.Proofs.YtbafmbpmiiplkaaGreatDoor
open Go.RowKit

def lnP (k n:Nat) (q:Nat):List Pl:=(List.range q).map fun (w:Nat)=>((k:Int),(n:Int),(w:Int))
def runAn (k:Nat) (x:List (List ByteArray)) (n:Nat):List Pl:=(List.range n).flatMap fun i=>lnP k i (x.getD i []).length
def runA (k:Nat) (x:List (List ByteArray)):List Pl:=runAn k x x.length
theorem lnP_succ (k n q:Nat):lnP k n (q+1)=lnP k n q++[((k:Int),(n:Int),(q:Int))]:=by simp [lnP,List.range_succ]
theorem lnP_len (k n q:Nat):(lnP k n q).length=q:=by simp [lnP]
theorem runAn_succ (k:Nat) {x:List (List ByteArray)} {n:Nat} {y:List ByteArray} (h:x[n]?=some y):runAn k x (n+1)=runAn k x n++lnP k n y.length:=by
 simp [runAn,List.range_succ,List.getD_eq_getElem?_getD,h]
theorem runAn_len (k:Nat) {x:List (List ByteArray)}:∀ {n:Nat},n≤x.length→(runAn k x n).length=(x.take n).flatten.length
 | 0,_=>by simp [runAn]
 | n+1,h=>by
   have hg:x[n]?=some x[n]:=List.getElem?_eq_getElem (by omega)
   rw [runAn_succ k hg,take_snoc_get hg,List.length_append,runAn_len k (by omega),lnP_len,List.flatten_append,List.length_append,List.flatten_singleton]
theorem runA_len (k:Nat) (x:List (List ByteArray)):(runA k x).length=x.flatten.length:=by
 rw [runA,runAn_len k (Nat.le_refl _),List.take_length]
theorem flatW_len {m:Nat}:∀ {x:List (List ByteArray)},(∀ y∈x,y.length≤m)→x.flatten.length≤x.length * m
 | [],_=>by simp
 | y::x,h=>by
   have:=flatW_len (x:=x) fun z hz=>h z (by simp [hz])
   have:=h y (by simp)
   rw [List.flatten_cons,List.length_append,List.length_cons,Nat.add_mul]
   omega
theorem flat_take {m n:Nat} {x:List (List ByteArray)} (h:∀ y∈x,y.length≤m) (hn:n≤1000):(x.take n).flatten.length≤1000 * m:=by
 have h1:=flatW_len (x:=x.take n) (m:=m) fun y hy=>h y (List.mem_of_mem_take hy)
 have h2:(x.take n).length≤1000:=by rw [List.length_take];omega
 exact Nat.le_trans h1 (Nat.mul_le_mul_right _ h2)
theorem flat_step {x:List (List ByteArray)} {n q:Nat} {y:List ByteArray} {s:ByteArray} (h:y[q]?=some s):((x.take n).flatten++y.take q)++[s]=(x.take n).flatten++y.take (q+1):=by
 rw [take_snoc_get h,List.append_assoc]
theorem flat_next {x:List (List ByteArray)} {n:Nat} {y:List ByteArray} (h:x[n]?=some y):(x.take n).flatten++y=(x.take (n+1)).flatten:=by
 rw [take_snoc_get h];simp

abbrev Cx:=Nat×Nat
def preW (ws:List ByteArray) (k:Nat):Nat:=((ws.take k).map fun s=>s.size+1).sum
theorem preW_succ {ws:List ByteArray} {k:Nat} (h:k<ws.length):preW ws (k+1)=preW ws k+ws[k].size+1:=by
 rw [preW,preW,take_snoc_get (List.getElem?_eq_getElem h),List.map_append,List.sum_append];simp only [List.map_cons,List.map_nil,List.sum_cons,List.sum_nil];omega
theorem preW_mono {ws:List ByteArray} {a b:Nat} (h:a≤b) (hb:b≤ws.length):preW ws a+(b-a)≤preW ws b:=by
 obtain ⟨d,rfl⟩:∃ d,b=a+d:=⟨b-a,by omega⟩
 induction d with
 | zero=>simp
 | succ d ih =>
   have:=ih (by omega) (by omega)
   rw [←Nat.add_assoc,preW_succ (by omega)]
   omega
theorem preW_le {ws:List ByteArray} {m:Nat} (h:∀ s∈ws,s.size≤m):∀ {k:Nat},k≤ws.length→preW ws k≤k * (m+1)
 | 0,_=>by simp [preW]
 | k+1,hk=>by
   rw [preW_succ hk,Nat.add_mul]
   have:=preW_le h (k:=k) (by omega)
   have:=h _ (List.getElem_mem hk)
   omega
def lenX (ws:List ByteArray) (x:Cx):Int:=(preW ws (x.2+1):Int)-preW ws x.1-1
theorem lenX_to {ws:List ByteArray} {a b:Nat} (h:b+1<ws.length):lenX ws (a,b+1)=lenX ws (a,b)+(ws[b+1].size+1):=by
 simp only [lenX];rw [preW_succ h];omega
theorem lenX_from {ws:List ByteArray} {a b:Nat} (h:a<ws.length):lenX ws (a,b)=lenX ws (a+1,b)+(ws[a].size+1):=by
 simp only [lenX];rw [preW_succ h];omega
theorem lenX_self {ws:List ByteArray} {a:Nat} (h:a<ws.length):lenX ws (a,a)=ws[a].size:=by
 simp only [lenX];rw [preW_succ h];omega
theorem lenX_mono {ws:List ByteArray} {a b a' b':Nat} (ha:a'≤a) (hb:b≤b') (hl:b'<ws.length) (hab:a≤b):lenX ws (a,b)≤lenX ws (a',b'):=by
 simp only [lenX]
 have:=preW_mono (ws:=ws) ha (by omega)
 have:=preW_mono (ws:=ws) (a:=b+1) (b:=b'+1) (by omega) (by omega)
 omega
theorem lenX_inj {ws:List ByteArray} {a b b':Nat} (hb:b<ws.length) (hb':b'<ws.length) (h:lenX ws (a,b)=lenX ws (a,b')):b=b':=by
 simp only [lenX] at h
 rcases Nat.lt_trichotomy b b' with hl|he|hl
 ·have:=preW_mono (ws:=ws) (a:=b+1) (b:=b'+1) (by omega) (by omega);omega
 ·exact he
 ·have:=preW_mono (ws:=ws) (a:=b'+1) (b:=b+1) (by omega) (by omega);omega
theorem lenX_bound {ws:List ByteArray} {a b:Nat} (hs:∀ s∈ws,s.size≤1000) (hn:ws.length≤1000000) (hab:a≤b) (hb:b<ws.length):0≤lenX ws (a,b)∧lenX ws (a,b)≤1001000000:=by
 have h1:=preW_le hs (k:=b+1) (by omega)
 have h2:=preW_mono (ws:=ws) (a:=a) (b:=b+1) (by omega) (by omega)
 simp only [lenX]
 have:(b+1) * 1001≤1000000 * 1001:=Nat.mul_le_mul_right _ (by omega)
 omega

def unE (i:Nat) (x:Cx):Int:=max ((i:Int)-x.1-((x.2:Int)-i)) (-((i:Int)-x.1-((x.2:Int)-i)))
def sdI (side:Int) (i:Nat) (x y:Cx):Int:=if side=1 then (x.1:Int)-y.1 else if side=2 then (y.1:Int)-x.1 else orF [unE i x-unE i y,(y.1:Int)-x.1]
def ordI (ws:List ByteArray) (side:Int) (i:Nat) (x y:Cx):Int:=orF [lenX ws y-lenX ws x,sdI side i x y]
theorem orF_1 (a:Int):orF [a]=a:=by unfold orF orF;split<;>omega
theorem orF_2 (a b:Int):orF [a,b]=if a=0 then b else a:=by rw [orF,orF_1]
theorem ordI_lt (ws:List ByteArray) (side:Int) (i:Nat) (x y:Cx):ordI ws side i x y<0↔lenX ws y<lenX ws x∨lenX ws y=lenX ws x∧sdI side i x y<0:=by
 rw [ordI,orF_2];split<;>omega
theorem sdI_lt (side:Int) (i:Nat) (x y:Cx):sdI side i x y<0↔(side=1∧x.1<y.1)∨(side≠1∧side=2∧y.1<x.1)∨(side≠1∧side≠2∧(unE i x<unE i y∨unE i x=unE i y∧y.1<x.1)):=by
 unfold sdI
 split
 ·omega
 ·split
  ·omega
  ·rw [orF_2];split<;>omega
theorem ordI_trans {ws:List ByteArray} {side:Int} {i:Nat} {x y z:Cx} (h1:ordI ws side i x y<0) (h2:ordI ws side i y z<0):ordI ws side i x z<0:=by
 rw [ordI_lt,sdI_lt] at *
 omega
theorem ordI_asymm {ws:List ByteArray} {side:Int} {i:Nat} {x y:Cx} (h1:ordI ws side i x y<0) (h2:ordI ws side i y x<0):False:=by
 rw [ordI_lt,sdI_lt] at *
 omega
theorem ordI_total {ws:List ByteArray} {side:Int} {i:Nat} {x y:Cx} (hx:x.2<ws.length) (hy:y.2<ws.length) (hne:x≠y):ordI ws side i x y<0∨ordI ws side i y x<0:=by
 by_cases he:x.1=y.1
 ·have:lenX ws x≠lenX ws y:=fun h=>by
   obtain ⟨a,b⟩:=x
   obtain ⟨a',b'⟩:=y
   simp only at he
   subst he
   exact hne (congrArg _ (lenX_inj hx hy h))
  rw [ordI_lt,ordI_lt];omega
 ·rw [ordI_lt,ordI_lt,sdI_lt,sdI_lt]
  omega

def bestS (o:Cx→Cx→Int) (b:Option Cx) (x:Cx):Option Cx:=match b with
 | none=>some x
 | some y=>if o x y<0 then some x else some y
def fstF (o:Cx→Cx→Int) (l:List Cx):Option Cx:=l.foldl (bestS o) none
def bestR (o:Cx→Cx→Int) (b x:Cx):Cx:=if o x b<0 then x else b
theorem foldl_some (o:Cx→Cx→Int):∀ (l:List Cx) (b:Cx),l.foldl (bestS o) (some b)=some (l.foldl (bestR o) b)
 | [],_=>rfl
 | x::l,b=>by
   rw [List.foldl_cons,List.foldl_cons]
   have:bestS o (some b) x=some (bestR o b x):=by simp only [bestS,bestR];split<;>rfl
   rw [this,foldl_some o l]
def IsMin (o:Cx→Cx→Int) (l:List Cx) (m:Cx):Prop:=m∈l∧∀ y∈l,y=m∨o m y<0
theorem foldl_min (o:Cx→Cx→Int) (ht:∀ x y z,o x y<0→o y z<0→o x z<0):∀ (l:List Cx) (b:Cx),(∀ x∈b::l,∀ y∈b::l,x≠y→o x y<0∨o y x<0)→IsMin o (b::l) (l.foldl (bestR o) b)
 | [],b,_=>⟨by simp,fun y hy=>by simp at hy;exact .inl hy⟩
 | x::l,b,hT=>by
   rw [List.foldl_cons]
   have hsub:∀ z,z∈bestR o b x::l→z∈b::x::l:=fun z hz=>by
    rcases List.mem_cons.1 hz with rfl|hz
    ·unfold bestR;split<;>simp
    ·simp [hz]
   obtain ⟨h1,h2⟩:=foldl_min o ht l (bestR o b x) fun u hu v hv=>hT u (hsub u hu) v (hsub v hv)
   generalize l.foldl (bestR o) (bestR o b x)=m at h1 h2
   refine ⟨hsub _ h1,fun y hy=>?_⟩
   have hb:bestR o b x=m∨o m (bestR o b x)<0:=h2 _ (by simp)
   have key:y=bestR o b x∨o (bestR o b x) y<0∨y∈l:=by
    rcases List.mem_cons.1 hy with rfl|hy
    ·by_cases e:x=y
     ·subst e;left;unfold bestR;split<;>rfl
     ·unfold bestR
      split
      ·exact .inr (.inl ‹_›)
      ·exact .inl rfl
    ·rcases List.mem_cons.1 hy with rfl|hy
     ·by_cases e:y=b
      ·subst e;left;unfold bestR;split<;>rfl
      ·unfold bestR
       split
       ·exact .inl rfl
       ·rename_i hn
        rcases hT y (by simp) b (by simp) e with h|h
        ·exact absurd h hn
        ·exact .inr (.inl h)
     ·exact .inr (.inr hy)
   rcases key with rfl|h|h
   ·rcases hb with e|h
    ·exact .inl e
    ·exact .inr h
   ·rcases hb with e|h'
    ·rw [←e];exact .inr h
    ·exact .inr (ht _ _ _ h' h)
   ·exact h2 _ (by simp [h])
theorem min_unique {o:Cx→Cx→Int} (ha:∀ x y,o x y<0→o y x<0→False) {l l':List Cx} {m m':Cx} (h:IsMin o l m) (h':IsMin o l' m') (e:∀ x,x∈l↔x∈l'):m=m':=by
 rcases h.2 m' ((e _).2 h'.1) with h1|h1
 ·exact h1.symm
 ·rcases h'.2 m ((e _).1 h.1) with h2|h2
  ·exact h2
  ·exact (ha _ _ h1 h2).elim

def okX (ws:List ByteArray) (W:Int) (x:Cx):Bool:=decide (lenX ws x≤W)
def ctxTo (ws:List ByteArray) (i:Nat) (W:Int) (a m:Nat):List Cx:=((List.range m).map fun t=>(a,i+t)).filter (okX ws W)
def ctxN (ws:List ByteArray) (i:Nat) (W:Int) (f:Nat):List Cx:=(List.range f).flatMap fun j=>ctxTo ws i W (i-j) (ws.length-i)
def ctxA (ws:List ByteArray) (i:Nat) (W:Int):List Cx:=ctxN ws i W (i+1)
theorem range_split {j m:Nat} (h:j<m):∃ r,List.range m=List.range j++j::r:=by
 refine ⟨(List.range m).drop (j+1),?_⟩
 have h1:=List.take_append_drop j (List.range m)
 rw [List.take_range,Nat.min_eq_left (by omega)] at h1
 rw [List.drop_eq_getElem_cons (by simpa using h),List.getElem_range] at h1
 exact h1.symm
theorem ctxTo_succ (ws:List ByteArray) (i:Nat) (W:Int) (a t:Nat):ctxTo ws i W a (t+1)=ctxTo ws i W a t++(if okX ws W (a,i+t) then [(a,i+t)] else []):=by
 simp only [ctxTo,List.range_succ,List.map_append,List.filter_append,List.map_cons,List.map_nil]
 congr 1
 by_cases h:okX ws W (a,i+t)=true
 ·rw [if_pos h];simp [h]
 ·rw [if_neg h];simp [h]
theorem ctxTo_split (ws:List ByteArray) (i:Nat) (W:Int) (a:Nat) {t m:Nat} (h:t<m) (hok:okX ws W (a,i+t)=true):∃ r,ctxTo ws i W a m=ctxTo ws i W a t++(a,i+t)::r:=by
 obtain ⟨r,hr⟩:=range_split h
 refine ⟨(r.map fun t=>(a,i+t)).filter (okX ws W),?_⟩
 rw [ctxTo,hr,List.map_append,List.filter_append,List.map_cons,List.filter_cons_of_pos hok];rfl
theorem ctx_get {ws:List ByteArray} {i:Nat} {W:Int} {j t:Nat} (hj:j≤i) (ht:i+t<ws.length) (hok:lenX ws (i-j,i+t)≤W) :
  (ctxA ws i W)[(ctxN ws i W j++ctxTo ws i W (i-j) t).length]?=some (i-j,i+t):=by
 obtain ⟨r,hr⟩:=range_split (j:=j) (m:=i+1) (by omega)
 obtain ⟨q,hq⟩:=ctxTo_split ws i W (i-j) (t:=t) (m:=ws.length-i) (by omega) (decide_eq_true hok)
 have:ctxA ws i W=(ctxN ws i W j++ctxTo ws i W (i-j) t)++(i-j,i+t)::(q++r.flatMap fun j=>ctxTo ws i W (i-j) (ws.length-i)):=by
  rw [ctxA,ctxN,hr,List.flatMap_append,List.flatMap_cons,hq]
  simp [ctxN]
 rw [this]
 simp
theorem ctxTo_stop {ws:List ByteArray} {i:Nat} {W:Int} {a:Nat} (hai:a≤i) {t m:Nat} (hm:i+m≤ws.length) (htm:t≤m) (h:W<lenX ws (a,i+t)):ctxTo ws i W a m=ctxTo ws i W a t:=by
 obtain ⟨d,rfl⟩:∃ d,m=t+d:=⟨m-t,by omega⟩
 induction d with
 | zero=>rfl
 | succ d ih =>
   rw [←Nat.add_assoc,ctxTo_succ,ih (by omega) (by omega),if_neg,List.append_nil]
   have:=lenX_mono (ws:=ws) (a:=a) (a':=a) (b:=i+t) (b':=i+(t+d)) (Nat.le_refl _) (by omega) (by omega) (by omega)
   simp only [okX,decide_eq_true_eq];omega
theorem ctxN_succ (ws:List ByteArray) (i:Nat) (W:Int) (j:Nat):ctxN ws i W (j+1)=ctxN ws i W j++ctxTo ws i W (i-j) (ws.length-i):=by
 simp [ctxN,List.range_succ]
theorem ctxN_stop {ws:List ByteArray} {i:Nat} {W:Int} {j m:Nat} (hi:i<ws.length) (hjm:j≤m) (h:W<lenX ws (i-j,i)):ctxN ws i W m=ctxN ws i W j:=by
 obtain ⟨d,rfl⟩:∃ d,m=j+d:=⟨m-j,by omega⟩
 induction d with
 | zero=>rfl
 | succ d ih =>
   have h0:ctxTo ws i W (i-(j+d)) (ws.length-i)=ctxTo ws i W (i-(j+d)) 0:=by
    refine ctxTo_stop (by omega) (by omega) (by omega) ?_
    have:=lenX_mono (ws:=ws) (a:=i-j) (a':=i-(j+d)) (b:=i) (b':=i) (by omega) (Nat.le_refl _) hi (by omega)
    rw [Nat.add_zero];omega
   rw [←Nat.add_assoc,ctxN_succ,ih (by omega),h0]
   simp [ctxTo]
theorem mem_ctxTo {ws:List ByteArray} {i:Nat} {W:Int} {a m:Nat} {x:Cx}:x∈ctxTo ws i W a m↔x.1=a∧i≤x.2∧x.2<i+m∧lenX ws x≤W:=by
 simp only [ctxTo,List.mem_filter,List.mem_map,List.mem_range,okX,decide_eq_true_eq]
 constructor
 ·rintro ⟨⟨t,ht,rfl⟩,h⟩;exact ⟨rfl,by simp,by simp;omega,h⟩
 ·rintro ⟨rfl,h1,h2,h3⟩
  exact ⟨⟨x.2-i,by omega,by ext<;>simp;omega⟩,h3⟩
theorem mem_ctxA {ws:List ByteArray} {i:Nat} {W:Int} {x:Cx} (hi:i<ws.length):x∈ctxA ws i W↔x.1≤i∧i≤x.2∧x.2<ws.length∧lenX ws x≤W:=by
 simp only [ctxA,ctxN,List.mem_flatMap,List.mem_range,mem_ctxTo]
 constructor
 ·rintro ⟨j,hj,h1,h2,h3,h4⟩;exact ⟨by omega,h2,by omega,h4⟩
 ·rintro ⟨h1,h2,h3,h4⟩;exact ⟨i-x.1,by omega,by omega,h2,by omega,h4⟩
def refN (ws:List ByteArray) (i:Nat) (W:Int) (f:Nat):List Cx:=(List.range f).flatMap fun a=>ctxTo ws i W a (ws.length-i)
def refA (ws:List ByteArray) (i:Nat) (W:Int):List Cx:=refN ws i W (i+1)
theorem mem_refA {ws:List ByteArray} {i:Nat} {W:Int} {x:Cx} (hi:i<ws.length):x∈refA ws i W↔x.1≤i∧i≤x.2∧x.2<ws.length∧lenX ws x≤W:=by
 simp only [refA,refN,List.mem_flatMap,List.mem_range,mem_ctxTo]
 constructor
 ·rintro ⟨j,hj,h1,h2,h3,h4⟩;exact ⟨by omega,h2,by omega,h4⟩
 ·rintro ⟨h1,h2,h3,h4⟩;exact ⟨x.1,by omega,rfl,h2,by omega,h4⟩
def bestA (ws:List ByteArray) (side W:Int) (i:Nat):Cx:=(refA ws i W).foldl (bestR (ordI ws side i)) (i,i)
theorem fst_best {ws:List ByteArray} {side W:Int} {i:Nat} (hi:i<ws.length) (hW:(ws[i].size:Int)≤W):fstF (ordI ws side i) (ctxA ws i W)=some (bestA ws side W i):=by
 have hself:lenX ws (i,i)≤W:=by rw [lenX_self hi];exact hW
 have hne:ctxA ws i W≠[]:=fun h=>by
  have:(i,i)∈ctxA ws i W:=(mem_ctxA hi).2 ⟨Nat.le_refl _,Nat.le_refl _,hi,hself⟩
  rw [h] at this;cases this
 obtain ⟨c,cs,hc⟩:=List.exists_cons_of_ne_nil hne
 rw [fstF,hc,List.foldl_cons,show bestS (ordI ws side i) none c=some c from rfl,foldl_some]
 congr 1
 have ht:∀ x y z,ordI ws side i x y<0→ordI ws side i y z<0→ordI ws side i x z<0:=fun _ _ _=>ordI_trans
 have m1:=foldl_min (ordI ws side i) ht cs c fun x hx y hy hne=>by
  rw [←hc,mem_ctxA hi] at hx hy
  exact ordI_total hx.2.2.1 hy.2.2.1 hne
 have hin:∀ x,x∈(i,i)::refA ws i W↔x∈ctxA ws i W:=fun x=>by
  rw [List.mem_cons,mem_refA hi,mem_ctxA hi]
  constructor
  ·rintro (rfl|h)
   ·exact ⟨Nat.le_refl _,Nat.le_refl _,hi,hself⟩
   ·exact h
  ·exact .inr
 have m2:=foldl_min (ordI ws side i) ht (refA ws i W) (i,i) fun x hx y hy hne=>by
  rw [hin,mem_ctxA hi] at hx hy
  exact ordI_total hx.2.2.1 hy.2.2.1 hne
 refine min_unique (fun _ _=>ordI_asymm) m1 m2 fun x=>?_
 rw [←hc,hin]

theorem runA_nodup (k:Nat) (x:List (List ByteArray)):(runA k x).Nodup:=by
 unfold runA runAn List.Nodup
 rw [List.pairwise_flatMap]
 refine ⟨fun i _=>?_,?_⟩
 ·refine List.pairwise_map.2 (List.Pairwise.imp (R:=(·<·)) ?_ List.pairwise_lt_range)
  intro a b h e
  simp only [Prod.mk.injEq] at e
  omega
 ·refine List.Pairwise.imp (R:=(·<·)) ?_ List.pairwise_lt_range
  intro a b h p hp q hq e
  simp only [lnP,List.mem_map] at hp hq
  obtain ⟨_,_,rfl⟩:=hp
  obtain ⟨_,_,rfl⟩:=hq
  simp only [Prod.mk.injEq] at e
  omega
theorem nodup_inj {α:Type} {l:List α} (h:l.Nodup) {i j:Nat} {x:α} (hi:l[i]?=some x) (hj:l[j]?=some x):i=j:=by
 obtain ⟨hi1,hi2⟩:=List.getElem?_eq_some_iff.1 hi
 obtain ⟨hj1,hj2⟩:=List.getElem?_eq_some_iff.1 hj
 rcases Nat.lt_trichotomy i j with hl|he|hl
 ·exact absurd (hi2.trans hj2.symm) (List.pairwise_iff_getElem.1 h i j hi1 hj1 hl)
 ·exact he
 ·exact absurd (hj2.trans hi2.symm) (List.pairwise_iff_getElem.1 h j i hj1 hi1 hl)
def slipX (ws:List ByteArray) (side W:Int) (i:Nat) (p:Pl):Slp :=
 (p,ws.getD i ⟨#[]⟩,joinB ((ws.take i).drop (bestA ws side W i).1),joinB ((ws.take ((bestA ws side W i).2+1)).drop (i+1)))
def stA (ws:List ByteArray) (side W:Int) (i a:Nat):Cx:=(refN ws i W a).foldl (bestR (ordI ws side i)) (i,i)
def stB (ws:List ByteArray) (side W:Int) (i a m:Nat):Cx:=(ctxTo ws i W a m).foldl (bestR (ordI ws side i)) (stA ws side W i a)
theorem stA_end (ws:List ByteArray) (side W:Int) (i:Nat):stA ws side W i (i+1)=bestA ws side W i:=rfl
theorem stB_zero (ws:List ByteArray) (side W:Int) (i a:Nat):stB ws side W i a 0=stA ws side W i a:=rfl
theorem foldl_inv {α β:Type} (P:β→Prop) (f:β→α→β):∀ (l:List α) (b:β),P b→(∀ b x,x∈l→P b→P (f b x))→P (l.foldl f b)
 | [],_,h,_=>h
 | x::l,b,h,hf=>foldl_inv P f l (f b x) (hf b x (by simp) h) fun b y hy=>hf b y (by simp [hy])
theorem stB_in {ws:List ByteArray} {side W:Int} {i a m:Nat} (hi:i<ws.length) (ha:a≤i+1) (hm:i+m≤ws.length) (ham:a≤i∨m=0):(stB ws side W i a m).1≤i∧i≤(stB ws side W i a m).2∧(stB ws side W i a m).2<ws.length:=by
 have h1:∀ (b x:Cx),(x.1≤i∧i≤x.2∧x.2<ws.length)→(b.1≤i∧i≤b.2∧b.2<ws.length)→((bestR (ordI ws side i) b x).1≤i∧i≤(bestR (ordI ws side i) b x).2∧(bestR (ordI ws side i) b x).2<ws.length):=fun b x hx hb=>by
  unfold bestR;split
  ·exact hx
  ·exact hb
 refine foldl_inv (fun y:Cx=>y.1≤i∧i≤y.2∧y.2<ws.length) _ _ _ (foldl_inv (fun y:Cx=>y.1≤i∧i≤y.2∧y.2<ws.length) _ _ _ ⟨Nat.le_refl _,Nat.le_refl _,hi⟩ ?_) ?_
 ·intro b x hx hb
  simp only [refN,List.mem_flatMap,List.mem_range,mem_ctxTo] at hx
  obtain ⟨j,hj,h2,h3,h4,_⟩:=hx
  exact h1 b x ⟨by omega,h3,by omega⟩ hb
 ·intro b x hx hb
  rw [mem_ctxTo] at hx
  exact h1 b x ⟨by omega,hx.2.1,by omega⟩ hb

abbrev chW (x:Ch):List (List ByteArray):=x.2.2.2.map (·.2.2)
abbrev rnW (x:Ch):List ByteArray:=(chW x).flatten
theorem one_str (s:ByteArray):[strV s].all (fun v=>v.cells.toList.all (·.oneCell'))=true:=rfl
theorem one_pl (p:Pl):[encPl p].all (fun v=>v.cells.toList.all (·.oneCell'))=true:=rfl
theorem chW_get {x:Ch} {n:Nat} (h:n<x.2.2.2.length):(chW x)[n]?=some x.2.2.2[n].2.2:=by simp [chW,h]
theorem chW_small {x:Ch} (h:∀ y∈x.2.2.2,y.2.2.length≤1000):∀ y∈chW x,y.length≤1000:=fun y hy=>by
 obtain ⟨l,hl,rfl⟩:=List.mem_map.1 hy
 exact h l hl

section
variable (a:Option Addr) (c:Nat) (cs:List Ch) (w:World) [hrow:RowI w (.slice a cs.length c) true 2 (cs.map encCh)] [hT:TextI w cs]
set_option maxHeartbeats 4000000 in
theorem runs_slip (hs:SmallT cs) (width side:Int) (k:Nat) (hk:k<cs.length):Ct Tryz.prog 58 [.agg #[.slice a cs.length c],.agg #[.int .i64 width,.int .u8 side],.int .i64 (k:Int)] w fun v w' =>
  ∃ wv av,v=.agg #[.int .i64 width,.int .u8 side,wv,av]∧OwnL w' w.heap.size 9 false 1 wv ((rnW cs[k]).map strV)∧OwnL w' w.heap.size 48 true 3 av ((runA k (chW cs[k])).map encPl):=by
 have hs1:=hs.1
 have hsk:=hs.2 _ (List.getElem_mem hk)
 have hsl:=hsk.1
 have hsm:=chW_small fun y hy=>(hsk.2 y hy).1
 have hcl:(chW cs[k]).length=cs[k].2.2.2.length:=by simp [chW]
 refine Ct.ofW (by simp) ?_
 (refine jjB (jjC ?_))
 (refine jy rfl ?_;intro b3 w_b3 hb_b3 hs_b3 hS_b3 hk_b3;have hA_b3:=At.ofBlock hk_b3)
 skip
 (refine jy rfl ?_;intro b4 w_b4 hb_b4 hs_b4 hS_b4 hk_b4;have hA_b4:=At.ofBlock hk_b4)
 ((skip);refine jjY ?_;intro b6 w_b6 hb_b6 hs_b6 hS_b6 hk_b6;have hA_b6:=Bk.of hk_b6)
 (refine jz (jjB (jjC (jO rfl rfl rfl rfl ?_))))
 (refine jjS (cells:=[.int .i64 width,.int .u8 side,.slice none 0 0,.slice none 0 0]) ?_ ?_;exact rfl)
 (apply jjR rfl;(intro _;first|exact eI rfl|exact eB rfl|exact eP rfl|exact eS rfl|exact eT rfl|exact eA rfl|exact eU rfl|exact eF rfl|exact eM rfl|exact eN rfl|exact rfl);exact rfl;exact rfl;exact rfl;exact rfl;intro b7 w_b7 hb_b7 hs_b7 hS_b7 hk_b7;have hA_b7:=Bk.of hk_b7)
 have hgk:=List.getElem?_eq_getElem hk
 (refine jz (jjB (jjB (jjC (jm (jn rfl ?_)))));refine jN rfl rfl rfl (jI (eI rfl) ?_);refine jF rfl rfl rfl (map_get (by omega)) ?_;intro _ _ _;refine jm (jn rfl (jP rfl rfl rfl (jh rfl (jI (eI rfl) (jz ?_)))));refine jjD ?_)
 have z7:=hS_b7.size
 have z6:=hS_b6.size
 have hE7:Ext w w_b7:=inferInstance
 have i1:=hT.line hk
 have hB6:Bk w_b7 b6 [.int .i64 0,.int .u8 0,.slice none 0 0,.slice none 0 0] 133:=hA_b6.ext hS_b7.ext
 refine W.keep0 [(2,.int .i64 ((k:Nat):Int)),(6,.pointer (some ⟨b6,0,none⟩)),(7,.pointer (some ⟨b7,0,none⟩)),(18,.slice cs[k].2.1 cs[k].2.2.2.length cs[k].2.2.1),(19,.int .i64 ((cs[k].2.2.2.length:Nat):Int)),(20,.int .i64 ((0:Nat):Int))] ⟨eI rfl,eP rfl,eP rfl,eS rfl,eI rfl,eI rfl,trivial⟩ fun s0=>?_
 refine W.loopG (21::22::23::24::8::9::25::26::27::28::29::10::30::31::32::33::34::35::36::37::38::39::40::41::42::43::44::45::46::47::48::49::20::[]) (fun g s' V=>∃ (n:Nat) (wv av:Value),s' 20=.int .i64 ((n:Nat):Int)∧g=cs[k].2.2.2.length-n∧n≤cs[k].2.2.2.length∧Ext w V∧w_b7.heap.size≤V.heap.size∧Bk V b6 [.int .i64 0,.int .u8 0,.slice none 0 0,.slice none 0 0] 133∧Bk V b7 [.int .i64 width,.int .u8 side,wv,av] 133∧OwnL V w_b7.heap.size 9 false 1 wv (((chW cs[k]).take n).flatten.map strV)∧OwnL V w_b7.heap.size 48 true 3 av ((runAn k (chW cs[k]) n).map encPl)) cs[k].2.2.2.length ⟨0,_,_,rfl,rfl,Nat.zero_le _,hE7,Nat.le_refl _,hB6,hA_b7,OwnL.nil _ _ _ _ _,OwnL.nil _ _ _ _ _⟩ ?_
 rintro _ sd V ⟨n,wv,av,h20,rfl,hn,hE,hz,hV6,hV7,hOw,hOa⟩
 refine W.fix h20 ?_
 clear h20
 by_cases hnl:n<cs[k].2.2.2.length
 rotate_left
 ·obtain rfl:n=cs[k].2.2.2.length:=by omega
  rw [←hcl,List.take_length] at hOw
  rw [←hcl] at hOa
  obtain ⟨wa,wc,rfl⟩:=hOw.slice
  obtain ⟨aa,ac,rfl⟩:=hOa.slice
  have:=Bk.toAt (h:=hV7)
  (refine jjB (jjC (jja rfl rfl (by omega) (jz (jjB (jjK rfl ?_)))));refine jjE (jjB (jjC (jO rfl rfl rfl rfl ?_))))
  refine Ops.store rfl rfl rfl rfl rfl ?_
  intro V2 hp2
  have hA2:At V2 b6 0 [.int .i64 width,.int .u8 side,.slice wa _ wc,.slice aa _ ac]:=Bk.toAt (h:=⟨hp2.new⟩)
  (refine jz (jjF ?_))
  refine fin1C rfl rfl rfl rfl rfl ⟨hp2.ext hE (by omega),_,_,rfl,?_,?_⟩
  ·exact (hOw.put hp2 fun e=>by have:=(hOw.block _ e).1;omega).mono (by omega)
  ·exact (hOa.put hp2 fun e=>by have:=(hOa.block _ e).1;omega).mono (by omega)
 have hsn:=hsk.2 _ (List.getElem_mem hnl)
 have hgn:=chW_get hnl
 have hTV:TextI V cs:=hT.ext hE
 have i2:=hTV.line hk
 (refine jjB (jjC (jjZ rfl rfl (by omega) (jz (jjB (jjJ rfl ?_)))));refine jjG (jjB (jjD (jjB (jjC (jI (eI rfl) ?_)))));refine jF rfl rfl rfl (map_get (by omega)) ?_;intro _ _ _;refine jQ rfl rfl (jJ (eI rfl) (jJ (eS rfl) (jz (jjB (jjC ?_)))));refine jI (eS rfl) (jh rfl (jI (eI rfl) (jz (jjD ?_)))))
 refine W.keep [(2,.int .i64 ((k:Nat):Int)),(6,.pointer (some ⟨b6,0,none⟩)),(7,.pointer (some ⟨b7,0,none⟩)),(18,.slice cs[k].2.1 cs[k].2.2.2.length cs[k].2.2.1),(19,.int .i64 ((cs[k].2.2.2.length:Nat):Int)),(20,.int .i64 ((n:Nat):Int)),(8,.int .i64 ((n:Nat):Int)),(9,.slice cs[k].2.2.2[n].1 cs[k].2.2.2[n].2.2.length cs[k].2.2.2[n].2.1),(26,.int .i64 ((cs[k].2.2.2[n].2.2.length:Nat):Int)),(27,.int .i64 ((0:Nat):Int))] (D:=(21::22::23::24::8::9::25::26::27::28::29::10::30::31::32::33::34::35::36::37::38::39::40::41::42::43::44::45::46::47::48::49::20::[])) (sO:=upds s0 _) (by (((iterate 10 refine Same.upd rfl ?_);exact Same.ovN))) ⟨eI rfl,eP rfl,eP rfl,eS rfl,eI rfl,eI rfl,eI rfl,eS rfl,eI rfl,eI rfl,trivial⟩ fun s1 hs1'=>?_
 refine W.loopG (28::29::10::30::31::32::33::34::35::36::37::38::39::40::41::42::43::44::45::46::47::48::27::[]) (fun g s' V=>∃ (q:Nat) (wv av:Value),s' 27=.int .i64 ((q:Nat):Int)∧g=cs[k].2.2.2[n].2.2.length-q∧q≤cs[k].2.2.2[n].2.2.length∧Ext w V∧w_b7.heap.size≤V.heap.size∧Bk V b6 [.int .i64 0,.int .u8 0,.slice none 0 0,.slice none 0 0] 133∧Bk V b7 [.int .i64 width,.int .u8 side,wv,av] 133∧OwnL V w_b7.heap.size 9 false 1 wv ((((chW cs[k]).take n).flatten++cs[k].2.2.2[n].2.2.take q).map strV)∧OwnL V w_b7.heap.size 48 true 3 av ((runAn k (chW cs[k]) n++lnP k n q).map encPl)) cs[k].2.2.2[n].2.2.length ⟨0,wv,av,rfl,rfl,Nat.zero_le _,hE,hz,hV6,hV7,by simpa using hOw,by simpa [lnP] using hOa⟩ ?_
 rintro _ sd2 V2 ⟨q,wv,av,h27,rfl,hq,hE,hz,hV6,hV7,hOw,hOa⟩
 refine W.fix h27 ?_
 clear h27
 by_cases hql:q<cs[k].2.2.2[n].2.2.length
 rotate_left
 ·obtain rfl:q=cs[k].2.2.2[n].2.2.length:=by omega
  rw [List.take_length,flat_next hgn] at hOw
  rw [←runAn_succ k hgn] at hOa
  (refine jjB (jjC (jja rfl rfl (by omega) (jz (jjB (jjK rfl ?_)))));refine jjE (jjC (jY rfl rfl (by omega) (jI (eI rfl) (jz ?_)))))
  exact ⟨rfl,by (((iterate 4 refine Same.upd rfl ?_);refine Same.ovN' rfl ?_;assumption)),cs[k].2.2.2.length-(n+1),by omega,n+1,wv,av,congrArg (Value.int .i64) (by omega),rfl,by omega,hE,hz,hV6,hV7,hOw,hOa⟩
 have hTV2:TextI V2 cs:=hT.ext hE
 obtain ⟨bl,ol,el,hAl⟩:=(hT.word hk hnl).h.place' (map_get hql)
 rw [Nat.mul_one] at hAl
 have hl1:(((chW cs[k]).take n).flatten++cs[k].2.2.2[n].2.2.take q).length≤1001000:=by
  have:=flat_take hsm (n:=n) (by omega)
  rw [List.length_append,List.length_take];omega
 have hl2:(runAn k (chW cs[k]) n++lnP k n q).length≤1001000:=by
  have:=flat_take hsm (n:=n) (by omega)
  rw [List.length_append,lnP_len,runAn_len k (by omega)];omega
 (refine jjB (jjC (jjZ rfl rfl (by omega) (jz (jjB (jjJ rfl ?_)))));refine jjG (jjB (jjD (jjB (jjC (jI (eI rfl) ?_)))));refine jJ (eI rfl) (jz (jjB ?_)))
 refine W.draw (fun w'=>Ext w w') ?_
 intro w1 hS1
 (refine jjV [0,2,3] ?_ ?_ ?_;(decide +kernel);(exact hE.trans hS1.ext);(((apply jjT;exact rfl;rintro w' q1;have:=q1.toStep;refine jm (jn rfl (jz ?_));exact ⟨rfl,rfl⟩;apply jjT;exact rfl;rintro w' q1;have:=q1.toStep;refine jI (eS rfl) (jz ?_);exact ⟨rfl,rfl⟩;apply jjT;exact rfl;rintro w' q1;have:=q1.toStep;refine jI (eI rfl) (jz ?_);exact ⟨rfl,rfl⟩;refine jjU ?_))))
 refine jjV [4] (by decide +kernel) (hE.trans hS1.ext) (jjT (v:=.pointer (some ⟨bl,ol+q,none⟩)) rfl (fun w' q1=>?_) (jjU ?_))
 ·refine jG (b:=bl) (o:=ol) (j:=q) (by rw [←el];exact rfl) rfl rfl hql ?_
  refine jz ?_
  exact ⟨rfl,rfl⟩
 (refine jjV [5] ?_ ?_ ?_;(decide +kernel);(exact hE.trans hS1.ext);(((apply jjT;exact rfl;rintro w' q1;have:=q1.toStep;refine jQ rfl rfl (jz ?_);exact ⟨rfl,rfl⟩;refine jjU ?_))))
 have h71:Bk w1 b7 [.int .i64 width,.int .u8 side,wv,av] 133:=hV7.ext hS1.ext
 refine jjl 1 6 (by decide +kernel) rfl rfl (hE.trans hS1.ext) ?b1 ?b2
 case b1 =>
  have:=Bk.toAt (h:=h71)
  (refine jN rfl rfl rfl ?_)
  refine jz ?_
  (apply jjW 6;(decide +kernel);exact rfl;(exact hE.trans hS1.ext))
  (refine jjP (v:=.string _) rfl (by exact rfl) (by exact rfl) (by exact rfl) (by exact rfl) ?_;intro b36 w_b36 hb_b36 hs_b36 hS_b36 hk_b36;have hR_b36:=RowV.one (agg:=false) (k:=1) rfl hk_b36)
  refine jz ?_
  have hE36:Ext V2 w_b36:=hS1.ext.trans hS_b36.ext
  have z36:=hE36.size
  (apply jjW 7;(decide +kernel);exact rfl;(exact hE.trans hE36))
  refine Ops.appendL (hOw.ext hE36) (by omega) hR_b36 rfl rfl rfl rfl (one_str _) ?_ ?_ ?_
  ·rw [List.length_map];simp only [List.length_cons,List.length_nil];omega
  ·rw [List.length_map];simp only [List.length_cons,List.length_nil];omega
  intro wv2 w37 hA37 hO37 _ hown37
  have hn7:wv.ownBlock≠some b7:=fun e=>by have:=(hOw.block _ e).1;omega
  have hE37:Ext w w37:=hA37.ext (hE.trans hE36) (by omega)
  have h37:Bk w37 b7 [.int .i64 width,.int .u8 side,wv,av] 133:=hA37.bk (hV7.ext hE36) hn7
  refine jz ?_
  (refine jjV [8] ?_ ?_ ?_;(decide +kernel);(exact hE37);(((apply jjT;exact rfl;rintro w' q1;have:=q1.toStep;refine jm (jn rfl (jz ?_));exact ⟨rfl,rfl⟩;refine jjU ?_))))
  (apply jjW 9;(decide +kernel);exact rfl;(exact hE37))
  rw [←List.map_singleton,←List.map_append,flat_step (List.getElem?_eq_getElem hql)] at hO37
  obtain ⟨wa2,wc2,rfl⟩:=hO37.slice
  refine Ops.storeC (cs:=[.int .i64 width,.int .u8 side,wv,av]) (j:=2) (v:=.slice wa2 _ wc2) rfl rfl rfl rfl (show 2<4 by omega) ?_
  intro w38 hp38
  refine jz ?_
  have hE38:Ext w w38:=hp38.ext hE37 (by omega)
  have hn7':(Value.slice wa2 (List.map strV (((chW cs[k]).take n).flatten++cs[k].2.2.2[n].2.2.take (q+1))).length wc2).ownBlock≠some b7:=fun e=>by have:=(hO37.block _ e).1;omega
  have h38:Bk w38 b7 [.int .i64 width,.int .u8 side,.slice wa2 _ wc2,av] 133:=⟨hp38.new⟩
  have z37:=hA37.g.size
  have z38:=hp38.size
  have hO38:=hO37.put hp38 hn7'
  have hna:av.ownBlock≠some b7:=fun e=>by have:=(hOa.block _ e).1;omega
  have hOa38:OwnL w38 w_b7.heap.size 48 true 3 av ((runAn k (chW cs[k]) n++lnP k n q).map encPl):=((hOa.ext hE36).app hA37 (OwnL.ne (hOa.ext hE36) (hOw.ext hE36) (by decide))).put hp38 hna
  refine jjX (by decide +kernel) hE38 ?_
  have h6a:Bk w38 b6 _ _:=hp38.bk (hA37.bk (hV6.ext hE36) fun e=>by have:=(hOw.block _ e).1;omega) (show b6≠b7 by omega)
  (refine jjC (jm (jn rfl (jN rfl rfl rfl (jI (eI rfl) (jI (eI rfl) ?_)))));refine jI (eI rfl) ?_)
  (refine jjS (cells:=[.int .i64 (k:Int),.int .i64 (n:Int),.int .i64 (q:Int)]) ?_ ?_;exact rfl)
  skip
  (refine jjP (v:=.agg _) rfl (by exact rfl) (by exact rfl) (by exact rfl) (by exact rfl) ?_;intro b45 w_b45 hb_b45 hs_b45 hS_b45 hk_b45;have hR_b45:=RowV.one (agg:=true) (k:=3) rfl hk_b45)
  skip
  refine Ops.appendL (hOa38.ext hS_b45.ext) (by have:=hS_b45.size;omega) hR_b45 rfl rfl rfl rfl (one_pl ((k:Int),(n:Int),(q:Int))) ?_ ?_ ?_
  ·rw [List.length_map];simp only [List.length_cons,List.length_nil];omega
  ·rw [List.length_map];simp only [List.length_cons,List.length_nil];omega
  intro av2 w46 hA46 hO46 _ hown46
  have z45:=hS_b45.size
  have z46:=hA46.g.size
  have hE46:Ext w w46:=hA46.ext (hE38.trans hS_b45.ext) (by omega)
  have h46:Bk w46 b7 _ _:=hA46.bk (h38.ext hS_b45.ext) hna
  have e46:(runAn k (chW cs[k]) n++lnP k n q).map encPl++[encPl ((k:Int),(n:Int),(q:Int))]=(runAn k (chW cs[k]) n++lnP k n (q+1)).map encPl:=by rw [lnP_succ];simp
  rw [e46] at hO46
  obtain ⟨aa2,ac2,rfl⟩:=hO46.slice
  have hna':(Value.slice aa2 (List.map encPl (runAn k (chW cs[k]) n++lnP k n (q+1))).length ac2).ownBlock≠some b7:=fun e=>by have:=(hO46.block _ e).1;omega
  (refine jm (jn rfl ?_))
  refine Ops.storeC (cs:=[.int .i64 width,.int .u8 side,.slice wa2 _ wc2,av]) (j:=3) (v:=.slice aa2 _ ac2) rfl rfl rfl rfl (show 3<4 by omega) ?_
  intro w47 hp47
  have z47:=hp47.size
  (refine jz (jjC (jY rfl rfl (by omega) (jI (eI rfl) (jz ?_)))))
  refine ⟨rfl,by (((iterate 24 refine Same.upd rfl ?_);exact Same.ovN)),cs[k].2.2.2[n].2.2.length-(q+1),by omega,q+1,_,_,congrArg (Value.int .i64) (by omega),rfl,by omega,hp47.ext hE46 (by omega),by omega,?_,⟨hp47.new⟩,?_,hO46.put hp47 hna'⟩
  ·exact hp47.bk (hA46.bk (h6a.ext hS_b45.ext) fun e=>by have:=(hOa.block _ e).1;omega) (show b6≠b7 by omega)
  ·exact ((hO38.ext hS_b45.ext).app hA46 (OwnL.ne (hO38.ext hS_b45.ext) (hOa38.ext hS_b45.ext) (by decide))).put hp47 hn7'
 case b2 =>
  (refine jjP (v:=.string _) rfl (by exact rfl) (by exact rfl) (by exact rfl) (by exact rfl) ?_;intro b36 w_b36 hb_b36 hs_b36 hS_b36 hk_b36;have hR_b36:=RowV.one (agg:=false) (k:=1) rfl hk_b36)
  refine jz ?_
  have hE36:Ext V2 w_b36:=hS1.ext.trans hS_b36.ext
  have z36:=hE36.size
  (apply jjW 1;(decide +kernel);exact rfl;(exact hE.trans hE36))
  have:=Bk.toAt (h:=hV7.ext hE36)
  (refine jN rfl rfl rfl ?_)
  refine jz ?_
  (apply jjW 7;(decide +kernel);exact rfl;(exact hE.trans hE36))
  refine Ops.appendL (hOw.ext hE36) (by omega) hR_b36 rfl rfl rfl rfl (one_str _) ?_ ?_ ?_
  ·rw [List.length_map];simp only [List.length_cons,List.length_nil];omega
  ·rw [List.length_map];simp only [List.length_cons,List.length_nil];omega
  intro wv2 w37 hA37 hO37 _ hown37
  have hn7:wv.ownBlock≠some b7:=fun e=>by have:=(hOw.block _ e).1;omega
  have hE37:Ext w w37:=hA37.ext (hE.trans hE36) (by omega)
  have h37:Bk w37 b7 [.int .i64 width,.int .u8 side,wv,av] 133:=hA37.bk (hV7.ext hE36) hn7
  refine jz ?_
  (refine jjV [8] ?_ ?_ ?_;(decide +kernel);(exact hE37);(((apply jjT;exact rfl;rintro w' q1;have:=q1.toStep;refine jm (jn rfl (jz ?_));exact ⟨rfl,rfl⟩;refine jjU ?_))))
  (apply jjW 9;(decide +kernel);exact rfl;(exact hE37))
  rw [←List.map_singleton,←List.map_append,flat_step (List.getElem?_eq_getElem hql)] at hO37
  obtain ⟨wa2,wc2,rfl⟩:=hO37.slice
  refine Ops.storeC (cs:=[.int .i64 width,.int .u8 side,wv,av]) (j:=2) (v:=.slice wa2 _ wc2) rfl rfl rfl rfl (show 2<4 by omega) ?_
  intro w38 hp38
  refine jz ?_
  have hE38:Ext w w38:=hp38.ext hE37 (by omega)
  have hn7':(Value.slice wa2 (List.map strV (((chW cs[k]).take n).flatten++cs[k].2.2.2[n].2.2.take (q+1))).length wc2).ownBlock≠some b7:=fun e=>by have:=(hO37.block _ e).1;omega
  have h38:Bk w38 b7 [.int .i64 width,.int .u8 side,.slice wa2 _ wc2,av] 133:=⟨hp38.new⟩
  have z37:=hA37.g.size
  have z38:=hp38.size
  have hO38:=hO37.put hp38 hn7'
  have hna:av.ownBlock≠some b7:=fun e=>by have:=(hOa.block _ e).1;omega
  have hOa38:OwnL w38 w_b7.heap.size 48 true 3 av ((runAn k (chW cs[k]) n++lnP k n q).map encPl):=((hOa.ext hE36).app hA37 (OwnL.ne (hOa.ext hE36) (hOw.ext hE36) (by decide))).put hp38 hna
  refine jjX (by decide +kernel) hE38 ?_
  have h6a:Bk w38 b6 _ _:=hp38.bk (hA37.bk (hV6.ext hE36) fun e=>by have:=(hOw.block _ e).1;omega) (show b6≠b7 by omega)
  (refine jjC (jm (jn rfl (jN rfl rfl rfl (jI (eI rfl) (jI (eI rfl) ?_)))));refine jI (eI rfl) ?_)
  (refine jjS (cells:=[.int .i64 (k:Int),.int .i64 (n:Int),.int .i64 (q:Int)]) ?_ ?_;exact rfl)
  skip
  (refine jjP (v:=.agg _) rfl (by exact rfl) (by exact rfl) (by exact rfl) (by exact rfl) ?_;intro b45 w_b45 hb_b45 hs_b45 hS_b45 hk_b45;have hR_b45:=RowV.one (agg:=true) (k:=3) rfl hk_b45)
  skip
  refine Ops.appendL (hOa38.ext hS_b45.ext) (by have:=hS_b45.size;omega) hR_b45 rfl rfl rfl rfl (one_pl ((k:Int),(n:Int),(q:Int))) ?_ ?_ ?_
  ·rw [List.length_map];simp only [List.length_cons,List.length_nil];omega
  ·rw [List.length_map];simp only [List.length_cons,List.length_nil];omega
  intro av2 w46 hA46 hO46 _ hown46
  have z45:=hS_b45.size
  have z46:=hA46.g.size
  have hE46:Ext w w46:=hA46.ext (hE38.trans hS_b45.ext) (by omega)
  have h46:Bk w46 b7 _ _:=hA46.bk (h38.ext hS_b45.ext) hna
  have e46:(runAn k (chW cs[k]) n++lnP k n q).map encPl++[encPl ((k:Int),(n:Int),(q:Int))]=(runAn k (chW cs[k]) n++lnP k n (q+1)).map encPl:=by rw [lnP_succ];simp
  rw [e46] at hO46
  obtain ⟨aa2,ac2,rfl⟩:=hO46.slice
  have hna':(Value.slice aa2 (List.map encPl (runAn k (chW cs[k]) n++lnP k n (q+1))).length ac2).ownBlock≠some b7:=fun e=>by have:=(hO46.block _ e).1;omega
  (refine jm (jn rfl ?_))
  refine Ops.storeC (cs:=[.int .i64 width,.int .u8 side,.slice wa2 _ wc2,av]) (j:=3) (v:=.slice aa2 _ ac2) rfl rfl rfl rfl (show 3<4 by omega) ?_
  intro w47 hp47
  have z47:=hp47.size
  (refine jz (jjC (jY rfl rfl (by omega) (jI (eI rfl) (jz ?_)))))
  refine ⟨rfl,by (((iterate 24 refine Same.upd rfl ?_);exact Same.ovN)),cs[k].2.2.2[n].2.2.length-(q+1),by omega,q+1,_,_,congrArg (Value.int .i64) (by omega),rfl,by omega,hp47.ext hE46 (by omega),by omega,?_,⟨hp47.new⟩,?_,hO46.put hp47 hna'⟩
  ·exact hp47.bk (hA46.bk (h6a.ext hS_b45.ext) fun e=>by have:=(hOa.block _ e).1;omega) (show b6≠b7 by omega)
  ·exact ((hO38.ext hS_b45.ext).app hA46 (OwnL.ne (hO38.ext hS_b45.ext) (hOa38.ext hS_b45.ext) (by decide))).put hp47 hn7'
end

def wsT (t:Tx) (k:Nat):List (List ByteArray):=(t.getD k (0,[])).2
theorem wsT_get {cs:List Ch} {k:Nat} (hk:k<cs.length):wsT (txF cs) k=chW cs[k]:=by
 simp [wsT,txF,hk,chW]
noncomputable def idP (l:List Pl) (p:Pl):Option Nat:=open Classical in if h:∃ i,l[i]?=some p then some (Classical.choose h) else none
theorem idP_some {l:List Pl} {p:Pl} {i:Nat} (hn:l.Nodup) (h:l[i]?=some p):idP l p=some i:=by
 have hx:∃ i,l[i]?=some p:=⟨i,h⟩
 rw [idP,dif_pos hx,nodup_inj hn (Classical.choose_spec hx) h]
theorem idP_none {l:List Pl} {p:Pl} (h:p ∉ l):idP l p=none:=by
 rw [idP,dif_neg]
 rintro ⟨i,hi⟩
 exact h (List.mem_of_getElem? hi)
theorem idP_get {l:List Pl} {p:Pl} {i:Nat} (h:idP l p=some i):l[i]?=some p:=by
 unfold idP at h
 split at h
 ·rename_i hx
  cases h
  exact Classical.choose_spec hx
 ·cases h
theorem mem_runA {k:Nat} {x:List (List ByteArray)} {p:Pl}:p∈runA k x↔∃ (n q:Nat) (hn:n<x.length),q<x[n].length∧p=((k:Int),(n:Int),(q:Int)):=by
 simp only [runA,runAn,lnP,List.mem_flatMap,List.mem_range,List.mem_map]
 constructor
 ·rintro ⟨n,hn,q,hq,rfl⟩
  refine ⟨n,q,hn,?_,rfl⟩
  rwa [List.getD_eq_getElem?_getD,List.getElem?_eq_getElem hn,Option.getD_some] at hq
 ·rintro ⟨n,q,hn,hq,rfl⟩
  refine ⟨n,hn,q,?_,rfl⟩
  rwa [List.getD_eq_getElem?_getD,List.getElem?_eq_getElem hn,Option.getD_some]
theorem runA_fst {k:Nat} {x:List (List ByteArray)} {p:Pl} (h:p∈runA k x):p.1=(k:Int):=by
 obtain ⟨n,q,_,_,rfl⟩:=mem_runA.1 h
 rfl
def slK (side W:Int) (k:Nat) (x:List (List ByteArray)) (i:Nat):Slp:=slipX x.flatten side W i ((runA k x).getD i (0,0,0))
theorem slK_eq {side W:Int} {k:Nat} {x:List (List ByteArray)} {i:Nat} {p:Pl} (h:(runA k x)[i]?=some p):slK side W k x i=slipX x.flatten side W i p:=by
 rw [slK,List.getD_eq_getElem?_getD,h,Option.getD_some]
noncomputable def makeF (t:Tx) (side W:Int) (p:Pl):Option Slp:=if 0≤p.1∧p.1<t.length then (idP (runA p.1.toNat (wsT t p.1.toNat)) p).map (slK side W p.1.toNat (wsT t p.1.toNat)) else none
theorem makeF_no {t:Tx} {side W:Int} {p:Pl} (h:¬ (0≤p.1∧p.1<t.length)):makeF t side W p=none:=by rw [makeF,if_neg h]
theorem makeF_in {t:Tx} {side W:Int} {p:Pl} {k:Nat} (hk:k<t.length) (hp:p.1=(k:Int)):makeF t side W p=(idP (runA k (wsT t k)) p).map (slK side W k (wsT t k)):=by
 rw [makeF,if_pos (by omega),hp,Int.toNat_natCast]
theorem makeF_yes {t:Tx} {side W:Int} {p:Pl} {k i:Nat} (hk:k<t.length) (h:(runA k (wsT t k))[i]?=some p):makeF t side W p=some (slipX (wsT t k).flatten side W i p):=by
 rw [makeF_in hk (runA_fst (List.mem_of_getElem? h)),idP_some (runA_nodup _ _) h,Option.map_some,slK_eq h]
theorem makeF_some {t:Tx} {side W:Int} {p:Pl} {s:Slp} (h:makeF t side W p=some s):∃ k i,k<t.length∧(runA k (wsT t k))[i]?=some p∧s=slipX (wsT t k).flatten side W i p:=by
 unfold makeF at h
 split at h
 ·rename_i hc
  obtain ⟨i,hi,e⟩:=Option.map_eq_some_iff.1 h
  have hg:=idP_get hi
  exact ⟨p.1.toNat,i,by omega,hg,by rw [←e,slK_eq hg]⟩
 ·cases h
theorem makeF_at {t:Tx} {side W:Int} {p:Pl} {s:Slp} (h:makeF t side W p=some s):s.1=p:=by
 obtain ⟨_,_,_,_,rfl⟩:=makeF_some h;rfl
def allP (t:Tx) (n:Nat):List Pl:=(List.range n).flatMap fun k=>runA k (wsT t k)
theorem allP_succ (t:Tx) (n:Nat):allP t (n+1)=allP t n++runA n (wsT t n):=by simp [allP,List.range_succ,List.flatMap_append]
noncomputable def slP (t:Tx) (side W:Int) (p:Pl):Slp:=(makeF t side W p).getD (p,⟨#[]⟩,⟨#[]⟩,⟨#[]⟩)
theorem slP_at (t:Tx) (side W:Int) (p:Pl):(slP t side W p).1=p:=by
 rw [slP]
 cases h:makeF t side W p with
 | none=>rfl
 | some s=>exact makeF_at h
theorem slP_eq {t:Tx} {side W:Int} {p:Pl} {k i:Nat} (hk:k<t.length) (h:(runA k (wsT t k))[i]?=some p):slP t side W p=slipX (wsT t k).flatten side W i p:=by
 rw [slP,makeF_yes hk h,Option.getD_some]
noncomputable def allS (t:Tx) (side W:Int):List Slp:=(allP t t.length).map (slP t side W)
noncomputable def slA (t:Tx) (side W:Int) (n:Nat):List Slp:=(allP t n).map (slP t side W)
noncomputable def slsN (t:Tx) (side W:Int) (k i:Nat):List Slp:=((runA k (wsT t k)).take i).map (slP t side W)
theorem slA_succ (t:Tx) (side W:Int) (n:Nat):slA t side W (n+1)=slA t side W n++slsN t side W n (wsT t n).flatten.length:=by
 rw [slA,allP_succ,List.map_append,←slA,slsN,←runA_len n,List.take_length]
theorem slA_get {t:Tx} {side W:Int} {k i n:Nat} {p:Pl} (hk:k<n) (h:(runA k (wsT t k))[i]?=some p):(slA t side W n)[(slA t side W k).length+i]?=some (slP t side W p):=by
 have:∀ d,(slA t side W (k+1+d))[(slA t side W k).length+i]?=some (slP t side W p):=by
  intro d
  induction d with
  | zero =>
    have hi:=(List.getElem?_eq_some_iff.1 h).1
    rw [Nat.add_zero,slA_succ,List.getElem?_append_right (by omega),Nat.add_sub_cancel_left,slsN,←runA_len k,List.take_length,List.getElem?_map,h,Option.map_some]
  | succ d ih =>
    rw [←Nat.add_assoc,slA_succ]
    have hl:=(List.getElem?_eq_some_iff.1 ih).1
    rw [List.getElem?_append_left hl,ih]
 have:=this (n-(k+1))
 rwa [show k+1+(n-(k+1))=n by omega] at this
theorem slA_end (t:Tx) (side W:Int):slA t side W t.length=allS t side W:=rfl
theorem slsN_len {t:Tx} {side W:Int} {k i:Nat} (h:i≤(wsT t k).flatten.length):(slsN t side W k i).length=i:=by
 rw [slsN,List.length_map,List.length_take,runA_len];omega
theorem mem_allP {t:Tx} {n:Nat} {p:Pl}:p∈allP t n↔∃ k,k<n∧p∈runA k (wsT t k):=by
 simp [allP]
theorem word_short {t:Tx} {k:Nat} (h:textB t=true) {s:ByteArray} (hk:k<t.length) (hs:s∈(wsT t k).flatten):s.size≤12:=by
 simp only [textB,Bool.and_eq_true,List.all_eq_true] at h
 have hm:t.getD k (0,[])∈t:=by rw [List.getD_eq_getElem?_getD,List.getElem?_eq_getElem hk,Option.getD_some];exact List.getElem_mem hk
 have h1:=h.1.2 _ hm
 simp only [chapB,Bool.and_eq_true,List.all_eq_true] at h1
 obtain ⟨y,hy,hsy⟩:=List.mem_flatten.1 hs
 have h2:=h1.2 y hy
 simp only [lineB,Bool.and_eq_true,List.all_eq_true] at h2
 have h3:=h2.2 s hsy
 simp only [wordB,Bool.and_eq_true,decide_eq_true_eq] at h3
 omega
theorem cutB_width {W side:Int} (h:(inB 12 80 W && inB 1 3 side)=true):12≤W∧W≤80∧1≤side∧side≤3:=by
 simp only [inB,Bool.and_eq_true,decide_eq_true_eq] at h
 omega
theorem rnW_small {cs:List Ch} (hs:SmallT cs) {k:Nat} (hk:k<cs.length):(rnW cs[k]).length≤1000000∧∀ s∈rnW cs[k],s.size≤1000:=by
 have h1:=hs.2 _ (List.getElem_mem hk)
 refine ⟨?_,fun s h=>?_⟩
 ·have:=flatW_len (x:=chW cs[k]) (m:=1000) (chW_small fun y hy=>(h1.2 y hy).1)
  have h2:(chW cs[k]).length≤1000:=by simp [chW];exact h1.1
  have:=Nat.mul_le_mul_right 1000 h2
  show (chW cs[k]).flatten.length≤_
  omega
 ·obtain ⟨y,hy,hs'⟩:=List.mem_flatten.1 h
  obtain ⟨l,hl,rfl⟩:=List.mem_map.1 hy
  exact (h1.2 l hl).2 s hs'

theorem best_spec {ws:List ByteArray} {side W:Int} {i:Nat} (hi:i<ws.length) (hW:(ws[i].size:Int)≤W) :
  ((bestA ws side W i).1≤i∧i≤(bestA ws side W i).2∧(bestA ws side W i).2<ws.length∧lenX ws (bestA ws side W i)≤W) ∧
  ∀ y:Cx,y.1≤i→i≤y.2→y.2<ws.length→lenX ws y≤W→y=bestA ws side W i∨ordI ws side i (bestA ws side W i) y<0:=by
 have hself:lenX ws (i,i)≤W:=by rw [lenX_self hi];exact hW
 have hin:∀ x,x∈(i,i)::refA ws i W↔x.1≤i∧i≤x.2∧x.2<ws.length∧lenX ws x≤W:=fun x=>by
  rw [List.mem_cons,mem_refA hi]
  constructor
  ·rintro (rfl|h)
   ·exact ⟨Nat.le_refl _,Nat.le_refl _,hi,hself⟩
   ·exact h
  ·exact .inr
 have m2:=foldl_min (ordI ws side i) (fun _ _ _=>ordI_trans) (refA ws i W) (i,i) fun x hx y hy hne=>by
  rw [hin] at hx hy
  exact ordI_total hx.2.2.1 hy.2.2.1 hne
 exact ⟨(hin _).1 m2.1,fun y h1 h2 h3 h4=>m2.2 y ((hin y).2 ⟨h1,h2,h3,h4⟩)⟩
abbrev noSp (l:List UInt8):Prop:=∀ c∈l,c≠32
theorem spl_word:∀ {l:List UInt8},noSp l→spl l=[l]
 | [],_=>rfl
 | c::l,h=>by
   rw [spl,if_neg (h c (by simp)),spl_word (l:=l) fun x hx=>h x (by simp [hx])]
theorem spl_app:∀ {l:List UInt8} (r:List UInt8),noSp l→spl (l++32::r)=l::spl r
 | [],r,_=>by simp [spl]
 | c::l,r,h=>by
   rw [List.cons_append,spl,if_neg (h c (by simp)),spl_app (l:=l) r fun x hx=>h x (by simp [hx])]
theorem join_cc (x y:List UInt8) (r:List (List UInt8)):Lib.join (x::y::r) [32]=x++32::Lib.join (y::r) [32]:=by
 rw [Lib.join_cons,Lib.join_cons];simp [Lib.joinTail]
theorem spl_join:∀ {ws:List (List UInt8)},ws≠[]→(∀ w∈ws,noSp w)→spl (Lib.join ws [32])=ws
 | [],h,_=>absurd rfl h
 | [x],_,h=>by rw [Lib.join_one,spl_word (h x (by simp))]
 | x::y::r,_,h=>by
   rw [join_cc,spl_app _ (h x (by simp)),spl_join (by simp) fun w hw=>h w (by simp only [List.mem_cons] at hw ⊢;exact .inr hw)]
theorem word_noSp {s:ByteArray} (h:wordB s=true):noSp s.data.toList:=by
 simp only [wordB,Bool.and_eq_true,List.all_eq_true] at h
 intro c hc e
 have:=h.2 c hc
 subst e
 simp [lowB] at this
theorem word_size {s:ByteArray} (h:wordB s=true):1≤s.size∧s.size≤12:=by
 simp only [wordB,Bool.and_eq_true,decide_eq_true_eq] at h
 exact h.1
theorem splB_join {ws:List ByteArray} (hne:ws≠[]) (h:∀ w∈ws,wordB w=true):splB (joinB ws)=ws:=by
 have e:(joinB ws).data.toList=Lib.join (ws.map (·.data.toList)) [32]:=by simp [joinB]
 rw [splB,e,spl_join (by simpa using hne) (fun w hw=>by
  obtain ⟨y,hy,rfl⟩:=List.mem_map.1 hw
  exact word_noSp (h y hy)),List.map_map]
 exact (List.map_congr_left fun s _=>bytesL_data s).trans (List.map_id _)
theorem joinB_len:∀ {ws:List ByteArray},ws≠[]→(joinB ws).size+1=(ws.map fun s=>s.size+1).sum
 | [],h=>absurd rfl h
 | [x],_=>by
   have:(joinB [x]).size=x.size:=by show (joinB [x]).data.size=x.data.size;simp [joinB,Lib.join_one]
   rw [this];simp
 | x::y::r,_=>by
   have ih:=joinB_len (ws:=y::r) (by simp)
   have:(joinB (x::y::r)).size=x.size+1+(joinB (y::r)).size:=by
    show (joinB (x::y::r)).data.size=x.data.size+1+(joinB (y::r)).data.size
    simp only [joinB,List.map_cons,join_cc]
    simp;omega
   rw [this,List.map_cons,List.sum_cons,←ih];omega
theorem wordsB_join {ws:List ByteArray} (h:∀ w∈ws,wordB w=true) (h80:(joinB ws).size≤80):wordsB (joinB ws)=true:=by
 by_cases hne:ws=[]
 ·subst hne;rfl
 ·rw [wordsB,splB_join hne h,List.all_eq_true.2 h,decide_eq_true h80];simp
theorem joinB_zero {ws:List ByteArray} (h:∀ w∈ws,wordB w=true):(joinB ws).size=0↔ws=[]:=by
 constructor
 ·intro h0
  refine Decidable.by_contra fun hne=>?_
  have hl:=joinB_len hne
  obtain ⟨x,r,rfl⟩:=List.exists_cons_of_ne_nil hne
  have:=word_size (h x (by simp))
  rw [List.map_cons,List.sum_cons] at hl;omega
 ·rintro rfl;rfl
theorem sum_pre {ws:List ByteArray} {a b:Nat} (hab:a≤b) (hb:b≤ws.length):preW ws b=preW ws a+(((ws.take b).drop a).map fun s=>s.size+1).sum:=by
 have e:ws.take b=ws.take a++(ws.take b).drop a:=by
  have:=List.take_append_drop a (ws.take b)
  rw [List.take_take,Nat.min_eq_left hab] at this
  exact this.symm
 rw [preW,preW]
 conv=>lhs;rw [e]
 rw [List.map_append,List.sum_append]
def gapN (s:ByteArray):Nat:=if s.size=0 then 0 else s.size+1
theorem gap_join {ws:List ByteArray} (h:∀ w∈ws,wordB w=true) {a b:Nat} (hab:a≤b) (hb:b≤ws.length):preW ws b=preW ws a+gapN (joinB ((ws.take b).drop a)):=by
 rw [sum_pre hab hb,gapN]
 have hs:∀ w∈(ws.take b).drop a,wordB w=true:=fun w hw=>h w (List.mem_of_mem_take (List.mem_of_mem_drop hw))
 by_cases h0:(joinB ((ws.take b).drop a)).size=0
 ·rw [if_pos h0,(joinB_zero hs).1 h0];rfl
 ·rw [if_neg h0,joinB_len fun e=>h0 ((joinB_zero hs).2 e)]
def widthN (s:Slp):Nat:=s.2.1.size+gapN s.2.2.1+gapN s.2.2.2
theorem width_cut {ws:List ByteArray} (h:∀ w∈ws,wordB w=true) {i:Nat} (hi:i<ws.length) {x:Cx} (h1:x.1≤i) (h2:i≤x.2) (h3:x.2<ws.length) (p:Pl) :
  (widthN (p,ws[i],joinB ((ws.take i).drop x.1),joinB ((ws.take (x.2+1)).drop (i+1))):Int)=lenX ws x:=by
 have e1:=gap_join h h1 (Nat.le_of_lt hi)
 have e2:=gap_join h (a:=i+1) (b:=x.2+1) (by omega) (by omega)
 have e3:=preW_succ hi
 simp only [widthN,lenX]
 omega

section
variable (w:World) [hm:MxI w]
end

def slipB (x:Slp):Bool:=wordsB x.2.2.1 && (wordsB x.2.2.2 && wordB x.2.1)
section
variable (w:World) [hm:MxI w]
end

theorem word_valid {t:Tx} {k:Nat} (h:textB t=true) {s:ByteArray} (hk:k<t.length) (hs:s∈(wsT t k).flatten):wordB s=true:=by
 simp only [textB,Bool.and_eq_true,List.all_eq_true] at h
 have hm:t.getD k (0,[])∈t:=by rw [List.getD_eq_getElem?_getD,List.getElem?_eq_getElem hk,Option.getD_some];exact List.getElem_mem hk
 have h1:=h.1.2 _ hm
 simp only [chapB,Bool.and_eq_true,List.all_eq_true] at h1
 obtain ⟨y,hy,hsy⟩:=List.mem_flatten.1 hs
 have h2:=h1.2 y hy
 simp only [lineB,Bool.and_eq_true,List.all_eq_true] at h2
 exact h2.2 s hsy
theorem make_open {t:Tx} (ht:textB t=true) {wd side:Int} (hc:cutB wd side=true) {p:Pl} {s:Slp} (h:makeF t side wd p=some s) :
  ∃ (k i:Nat) (hi:i<(wsT t k).flatten.length),k<t.length∧(runA k (wsT t k))[i]?=some p∧(∀ w∈(wsT t k).flatten,wordB w=true)∧(((wsT t k).flatten[i].size:Int)≤wd) ∧
   s=(p,(wsT t k).flatten[i],joinB (((wsT t k).flatten.take i).drop (bestA (wsT t k).flatten side wd i).1),joinB (((wsT t k).flatten.take ((bestA (wsT t k).flatten side wd i).2+1)).drop (i+1))):=by
 obtain ⟨k,i,hk,hi,rfl⟩:=makeF_some h
 have hil:i<(wsT t k).flatten.length:=by rw [←runA_len k];exact (List.getElem?_eq_some_iff.1 hi).1
 have hw:=fun w (hw:w∈(wsT t k).flatten)=>word_valid ht hk hw
 have hcb:=cutB_width hc
 have:=word_size (hw _ (List.getElem_mem hil))
 refine ⟨k,i,hil,hk,hi,hw,by omega,?_⟩
 rw [slipX,List.getD_eq_getElem?_getD,List.getElem?_eq_getElem hil,Option.getD_some]
theorem take_words {ws:List ByteArray} (h:∀ w∈ws,wordB w=true) {a b:Nat}:∀ w∈(ws.take b).drop a,wordB w=true:=fun w hw=>h w (List.mem_of_mem_take (List.mem_of_mem_drop hw))
theorem make_right {t:Tx} (ht:textB t=true) {wd side:Int} (hc:cutB wd side=true) {p:Pl} {s:Slp} (h:makeF t side wd p=some s):slipB s=true∧(widthN s:Int)≤wd:=by
 obtain ⟨k,i,hi,hk,hp,hw,hW,rfl⟩:=make_open ht hc h
 obtain ⟨⟨b1,b2,b3,b4⟩,_⟩:=best_spec (side:=side) hi hW
 have hcb:=cutB_width hc
 have hwid:=width_cut hw hi b1 b2 b3 p
 refine ⟨?_,by omega⟩
 have h1:=word_size (hw _ (List.getElem_mem hi))
 have hg:∀ s:ByteArray,s.size≤gapN s:=fun s=>by unfold gapN;split<;>omega
 have g1:=hg (joinB (((wsT t k).flatten.take i).drop (bestA (wsT t k).flatten side wd i).1))
 have g2:=hg (joinB (((wsT t k).flatten.take ((bestA (wsT t k).flatten side wd i).2+1)).drop (i+1)))
 simp only [widthN] at hwid
 simp only [slipB,Bool.and_eq_true]
 exact ⟨wordsB_join (take_words hw) (by omega),wordsB_join (take_words hw) (by omega),hw _ (List.getElem_mem hi)⟩

section
variable {ws:List ByteArray} {side:Int} {i:Nat} (hi:i<ws.length)
include hi
end

section rules
variable {P:Program} {ro:Option Nat} {n:Nat} {all rest:List Oper} {K:Sl→World→Prop} {s:Sl} {w:World} {d:Nat} {ty:Nat} {pos:String} {af:Array Edge}
variable {x y:Operand} {t t' e:Nat}
theorem flatMap_take {k:Nat}:∀ {xs:List Value} (m:Nat),(∀ x∈xs,x.cells.toList.length=k)→(xs.take m).flatMap (·.cells.toList)=(xs.flatMap (·.cells.toList)).take (m * k)
 | [],m,_=>by simp
 | y::xs,0,_=>by simp
 | y::xs,m+1,h=>by
   have hy:=h y List.mem_cons_self
   rw [List.take_succ_cons,List.flatMap_cons,List.flatMap_cons,flatMap_take m fun x hx=>h x (List.mem_cons_of_mem _ hx),List.take_append,hy,Nat.add_mul,Nat.one_mul,Nat.add_sub_cancel]
   rw [List.take_of_length_le (l:=y.cells.toList) (by omega)]
theorem OwnL.cut {w:World} {B e k l c:Nat} {agg:Bool} {a:Option Addr} {xs:List Value} (h:OwnL w B e agg k (.slice a l c) xs) {m:Nat} (hm:m≤xs.length) (h0:0<c):OwnL w B e agg k (.slice a m c) (xs.take m):=by
 have hl:(xs.take m).length=m:=by rw [List.length_take];omega
 have hf:∀ x∈xs.take m,fitsV agg k x=true:=fun x hx=>h.fit x (List.mem_of_mem_take hx)
 have hlen:=h.len
 refine ⟨⟨?_,?_⟩,hf,by omega⟩
 ·rw [flatMap_take (k:=k) m fun x hx=>by rw [Array.length_toList];exact fitsV_cells (h.fit x hx)]
  rw [List.length_take,hl,flat_len (k:=k) (xs:=xs) fun y hy=>fitsV_cells (h.fit y hy)]
  exact Nat.min_eq_left (Nat.mul_le_mul_right _ hm)
 ·rcases h.own.2 with ⟨e0,_⟩|⟨g,cap,cur,e0,hB,hh,hn,hm',hs,ht⟩
  ·simp only [Value.slice.injEq] at e0;omega
  ·simp only [Value.slice.injEq] at e0
   obtain ⟨rfl,_,rfl⟩:=e0
   refine .inr ⟨g,c,cur,by rw [hl],hB,hh,by omega,hm',hs,?_⟩
   rw [hl,flatMap_take (k:=k) m fun x hx=>by rw [Array.length_toList];exact fitsV_cells (h.fit x hx),←ht,List.take_take,Nat.min_eq_left (Nat.mul_le_mul_right _ hm)]
theorem Ops.sliceXHv {l c hi k bytes:Nat} {j:Int} {k2:IntKind} {xh:Operand} {a:Option Addr} {z:Value} (hx:ev n s x=.slice a l c) (hh:ev n s xh=.int k2 j) (hj:j=(hi:Int)) (h2:hi≤c) (h0:0<c) [ht:TSl P t e] [hz:TS P e z k bytes]
  (h:Ops P ro n all rest K (upd s d (.slice a hi c)) w):Ops P ro n all (⟨some d,.slice t x none (some xh) none,ty,pos,af,none⟩::rest) K s w:=by
 subst hj
 refine Ops.ofRun rfl ?_ h
 have hc:¬ c=0:=by omega
 cases a<;>simp [execOp,Instr.sliceAt,Instr.slice,Instr.sliceBounds,Instr.sliceBound,hx,hh,run_underlying ht.h,asIntOf,h2,run_sizeOf' w hz,hc,Addr.add]
end rules

section rules
variable {P:Program} {ro:Option Nat} {n:Nat} {all rest:List Oper} {K:Sl→World→Prop} {s:Sl} {w:World} {d:Nat} {ty:Nat} {pos:String} {af:Array Edge}
variable {x y:Operand} {t tn e:Nat}
end rules
theorem all_strC (l:List ByteArray):(l.map strV).all (fun v=>v.cells.toList.all (·.oneCell'))=true:=by
 rw [List.all_eq_true];intro x hx;obtain ⟨y,_,rfl⟩:=List.mem_map.1 hx;rfl
set_option maxHeartbeats 1000000 in
theorem Equal_str (a1 a2:Option Addr) (c1 c2 n1 n2:Nat) (xs ys:List ByteArray) (w:World) (h1:xs.length=n1) (h2:ys.length=n2) (hx:RowV w false 1 (.slice a1 n1 c1) (xs.map strV)) (hy:RowV w false 1 (.slice a2 n2 c2) (ys.map strV)):Ct Tryz.prog 106 [.slice a1 n1 c1,.slice a2 n2 c2] w fun v _=>v=.bool (decide (xs=ys)):=by
 subst h1 h2
 have hlx:=hx.len
 have hly:=hy.len
 rw [List.length_map] at hlx hly
 refine Ct.ofW (by simp) ?_
 by_cases hl:xs.length=ys.length
 rotate_left
 ·(refine jjB (jjC (jJ (eB rfl) (jz (jjB (jjB ?_)))));refine jjC (jI (eS rfl) (jh rfl (jI (eS rfl) (jh rfl (jjj rfl rfl (by omega) ?_)))));refine jz (jjJ rfl (jjB (jjC (jJ (eB rfl) (jz ?_)))));refine jjF ?_;refine jB rfl rfl ⟨inferInstance,?_⟩)
  rw [decide_eq_false (fun e=>hl (by rw [e]))];exact rfl
 (refine jjB (jjC (jJ (eB rfl) (jz (jjB (jjB ?_)))));refine jjC (jI (eS rfl) (jh rfl (jI (eS rfl) (jh rfl (jjk rfl rfl (by omega) ?_)))));refine jz (jjK rfl (jjG (jjB (jjB (jjC ?_)))));refine jI (eS rfl) (jh rfl (jI (eI rfl) (jz (jjD ?_)))))
 refine W.keep0 [(0,.slice a1 xs.length c1),(1,.slice a2 ys.length c2),(12,.int .i64 (xs.length:Int)),(13,.int .i64 ((0:Nat):Int))] ⟨eS rfl,eS rfl,eI rfl,eI rfl,trivial⟩ fun s0=>?_
 refine W.loop (14::15::5::16::17::18::19::20::21::22::23::24::4::25::13::[]) (fun g s' V=>∃ k:Nat,s' 13=.int .i64 ((k:Nat):Int)∧g=xs.length-k∧k≤xs.length∧∀ (j:Nat) (hj:j<xs.length),j<k→xs[j]=ys[j]'(by omega)) xs.length ⟨0,rfl,rfl,Nat.zero_le _,by intros;omega⟩ ?_
 rintro _ sd w1 hS1 ⟨k,h13,rfl,hk,hpre⟩
 refine W.fix h13 ?_
 clear h13
 by_cases hkl:k<xs.length
 rotate_left
 ·have e:xs=ys:=List.ext_getElem hl fun j hj _=>hpre j hj (by omega)
  (refine jjB (jjC (jja rfl rfl (by omega) (jz (jjB (jjK rfl ?_)))));refine jjE (jjB (jjC (jJ (eB rfl) (jz (jjF ?_)))));refine jB rfl rfl ⟨inferInstance,?_⟩)
  rw [decide_eq_true e];exact rfl
 have hkl2:k<ys.length:=by omega
 obtain ⟨b1,o1,rfl,hA1⟩:=hx.place' (map_get hkl)
 obtain ⟨b2,o2,rfl,hA2⟩:=hy.place' (map_get hkl2)
 rw [Nat.mul_one] at hA1 hA2
 (refine jjB (jjC (jjZ rfl rfl (by omega) (jz (jjB (jjJ rfl ?_)))));refine jjG (jjB (jjD (jjB (jjC (jI (eI rfl) ?_)))));refine jJ (eI rfl) (jz (jjB ?_)))
 refine W.draw (fun w'=>Ext w w') ?_
 intro w2 hS2
 have hE2:Ext w w2:=hS1.ext.trans hS2.ext
 (refine jjV [0,1,2,3,4,5,6,7] ?_ ?_ ?_;(decide +kernel);(exact hE2);(((refine jjT rfl (fun _ _=>jI (eS rfl) (jz ⟨rfl,rfl⟩)) (jjT rfl (fun _ _=>jI (eI rfl) (jz ⟨rfl,rfl⟩)) ?_);apply jjT;exact rfl;rintro w' hq;have:=hq.toStep;refine jG rfl rfl rfl (by omega) (jz ?_);exact ⟨rfl,rfl⟩;apply jjT;exact rfl;rintro w' hq;have:=hq.toStep;refine jQ rfl rfl (jz ?_);exact ⟨rfl,rfl⟩;refine jjT rfl (fun _ _=>jI (eS rfl) (jz ⟨rfl,rfl⟩)) (jjT rfl (fun _ _=>jI (eI rfl) (jz ⟨rfl,rfl⟩)) ?_);apply jjT;exact rfl;rintro w' hq;have:=hq.toStep;refine jG rfl rfl rfl (by omega) (jz ?_);exact ⟨rfl,rfl⟩;apply jjT;exact rfl;rintro w' hq;have:=hq.toStep;refine jQ rfl rfl (jz ?_);exact ⟨rfl,rfl⟩;refine jjU ?_))))
 by_cases hkj:xs[k]=ys[k]
 ·refine jjV [8] (by decide +kernel) hE2 (jjT (v:=.bool false) rfl (fun w' q1=>?_) (jjU ?_));(refine Ops.neqS (a:=xs[k]) (b:=ys[k]) rfl rfl ?_;rw [decide_eq_false (by simp [hkj])];refine jz ?_;exact ⟨rfl,rfl⟩)
  refine jjX (by decide +kernel) hE2 ?_
  (refine jjK rfl (jjG (jjC (jY rfl rfl (by omega) (jI (eI rfl) (jz ?_))))))
  refine ⟨rfl,by (((iterate 15 refine Same.upd rfl ?_);exact Same.ovN)),xs.length-(k+1),by omega,inferInstance,k+1,congrArg (Value.int .i64) (by omega),rfl,by omega,fun j hj hjk=>?_⟩
  by_cases e:j=k
  ·subst e;exact hkj
  ·exact hpre j hj (by omega)
 ·refine jjV [8] (by decide +kernel) hE2 (jjT (v:=.bool true) rfl (fun w' q1=>?_) (jjU ?_));(refine Ops.neqS (a:=xs[k]) (b:=ys[k]) rfl rfl ?_;rw [decide_eq_true hkj];refine jz ?_;exact ⟨rfl,rfl⟩)
  refine jjX (by decide +kernel) hE2 ?_
  (refine jjJ rfl (jjB (jjC (jJ (eB rfl) (jz (jjF ?_)))));refine jB rfl rfl ⟨inferInstance,?_⟩)
  rw [decide_eq_false (fun e=>hkj (by simp only [e]))];exact rfl

abbrev noSl:Slp:=((0,0,0),⟨#[]⟩,⟨#[]⟩,⟨#[]⟩)
noncomputable def makeR (t:Tx) (wd side:Int) (p:Pl):Slp×Int:=if askE t wd side=0 then (match makeF t side wd p with
 | some s=>(s,0)
 | none=>(noSl,12)) else (noSl,askE t wd side)
theorem makeR_no {t:Tx} {wd side:Int} {p:Pl} (h:askE t wd side≠0):makeR t wd side p=(noSl,askE t wd side):=by rw [makeR,if_neg h]
theorem makeR_none {t:Tx} {wd side:Int} {p:Pl} (h:askE t wd side=0) (h2:makeF t side wd p=none):makeR t wd side p=(noSl,12):=by rw [makeR,if_pos h,h2]
theorem makeR_some {t:Tx} {wd side:Int} {p:Pl} {s:Slp} (h:askE t wd side=0) (h2:makeF t side wd p=some s):makeR t wd side p=(s,0):=by rw [makeR,if_pos h,h2]
noncomputable def allR (t:Tx) (wd side:Int):List Slp:=if askE t wd side=0 then allS t side wd else []
def inP (a b p:Pl):Bool:=!befP p a && !befP b p
noncomputable def partR (t:Tx) (wd side:Int) (a b:Pl):List Slp×Int :=
 if askE t wd side≠0 then ([],askE t wd side) else if makeF t side wd a=none∨makeF t side wd b=none then ([],12) else if befP b a then ([],2) else (((allP t t.length).filter (inP a b)).map (slP t side wd),0)
theorem askE_zero {t:Tx} {wd side:Int} (h:askE t wd side=0):textB t=true∧cutB wd side=true:=by
 unfold askE at h
 split at h
 ·split at h
  ·exact ⟨by assumption,by assumption⟩
  ·omega
 ·omega
theorem askE_in (t:Tx) (wd side:Int):askE t wd side=0∨askE t wd side=10∨askE t wd side=30:=by
 unfold askE
 split
 ·split
  ·exact .inl rfl
  ·exact .inr (.inr rfl)
 ·exact .inr (.inl rfl)
theorem chap_len {t:Tx} (h:textB t=true) {k:Nat} (hk:k<t.length):(wsT t k).flatten.length≤100:=by
 simp only [textB,Bool.and_eq_true,List.all_eq_true] at h
 have hm:t.getD k (0,[])∈t:=by rw [List.getD_eq_getElem?_getD,List.getElem?_eq_getElem hk,Option.getD_some];exact List.getElem_mem hk
 have h1:=h.1.2 _ hm
 simp only [chapB,Bool.and_eq_true,List.all_eq_true] at h1
 have h3:=flatW_len (x:=wsT t k) (m:=10) fun y hy=>by
  have h2:=h1.2 y hy
  simp only [lineB,inB,Bool.and_eq_true,decide_eq_true_eq] at h2
  omega
 have h4:(wsT t k).length≤10:=by
  have:=h1.1.2
  simp only [inB,decide_eq_true_eq] at this
  show (t.getD k (0,[])).2.length≤10
  omega
 have:=Nat.mul_le_mul_right 10 h4
 omega
theorem allP_len {t:Tx} (h:textB t=true):∀ {n:Nat},n≤t.length→(allP t n).length≤n * 100
 | 0,_=>by simp [allP]
 | n+1,hn=>by
   rw [allP_succ,List.length_append,runA_len]
   have h1:=allP_len h (n:=n) (by omega)
   have h2:=chap_len h (k:=n) (by omega)
   omega
theorem textB_six {t:Tx} (h:textB t=true):t.length≤6:=by
 simp only [textB,Bool.and_eq_true] at h
 have:=h.1.1
 simp only [inB,decide_eq_true_eq] at this
 omega
theorem allS_len {t:Tx} {side wd:Int} (h:textB t=true):(allS t side wd).length≤600:=by
 rw [allS,List.length_map]
 have h1:=allP_len h (Nat.le_refl t.length)
 have h2:=textB_six h
 have:=Nat.mul_le_mul_right 100 h2
 omega
theorem filter_slP {t:Tx} {side wd:Int} {f:Pl→Bool} (l:List Pl):(l.map (slP t side wd)).filter (fun s=>f s.1)=(l.filter f).map (slP t side wd):=by
 rw [List.filter_map]
 congr 2
 funext p
 simp [slP_at]


theorem cmpP_self (a:Pl):cmpP a a=0:=by simp [cmpP,cmp1,orF]
theorem cmpP_lt {a b:Pl} (h:befP a b=true):cmpP a b=-1:=by
 unfold cmpP orF orF orF orF cmp1
 rw [befP_iff] at h
 repeat' split
 all_goals omega
theorem cmpP_gt {a b:Pl} (h:befP a b=false) (hne:a≠b):cmpP a b=1:=by
 have h2:befP b a=true:=by
  rcases befP_tri a b with h3|h3|h3
  ·rw [h] at h3;cases h3
  ·exact absurd h3 hne
  ·exact h3
 unfold cmpP orF orF orF orF cmp1
 rw [befP_iff] at h2
 repeat' split
 all_goals omega


abbrev encX (ws:List ByteArray) (i:Nat) (x:Cx):Value:=.agg #[.int .i64 (x.1:Int),.int .i64 (i:Int),.int .i64 (x.2:Int),.int .i64 (lenX ws x)]
abbrev encX1 (ws:List ByteArray) (i:Nat) (x:Cx):List Value:=[encX ws i x]
structure RunF (bi br:Nat) (ws:List ByteArray) (wd side:Int) (i:Nat) (wa:Option Addr) (wc:Nat) (aa:Option Addr) (al ac:Nat) (w:World):Prop where
 num:At w bi 0 [.int .i64 (i:Int)]
 run:At w br 0 [.int .i64 wd,.int .u8 side,.slice wa ws.length wc,.slice aa al ac]
 row:RowV w false 1 (.slice wa ws.length wc) (ws.map strV)
set_option maxHeartbeats 2000000 in
theorem contexts1_slip (bi br:Nat) (ws:List ByteArray) (wd side:Int) (i:Nat) (wa:Option Addr) (wc:Nat) (aa:Option Addr) (al ac:Nat) (hi:i<ws.length) (hsz:∀ s∈ws,s.size≤1000) (hn:ws.length≤1000000) (hW:0≤wd∧wd≤1000) :
  Iter Tryz.prog 128 [.pointer (some ⟨bi,0,none⟩),.pointer (some ⟨br,0,none⟩)] (ctxA ws i wd) (encX1 ws i) (RunF bi br ws wd side i wa wc aa al ac):=by
 intro l J Jx M w hJ hJx hF hM1 hM2 hY h0
 have hF0:=hF 0 w h0
 have:=hF0.num
 have:=hF0.run
 refine Calls.ofW (by simp) ?_
 (refine jjB (jjC (jJ (eI rfl) (jz (jjB (jjC ?_)))));refine jN rfl rfl rfl (jJ (eI rfl) (jz (jjD ?_))))
 refine W.keep0 [(0,.func (.yield l) #[] #[]),(1,.pointer (some ⟨bi,0,none⟩)),(2,.pointer (some ⟨br,0,none⟩)),(4,.int .i64 (-1:Int)),(5,.int .i64 (i:Int))] ⟨eF rfl,eP rfl,eP rfl,eI rfl,eI rfl,trivial⟩ fun s0=>?_
 refine W.loopG (9::10::13::14::15::16::17::18::19::20::21::4::22::23::24::25::26::27::6::28::7::31::32::33::34::35::36::37::38::39::40::41::42::43::44::45::46::47::48::49::50::51::52::53::54::55::56::57::58::59::60::29::30::11::12::5::[]) (fun g s' w'=>∃ j:Nat,s' 5=.int .i64 ((i:Int)-j)∧s' 4=.int .i64 (lenX ws (i+1-j,i))∧j≤i+1∧g=i+1-j∧J (ctxN ws i wd j).length w') (i+1) ⟨0,congrArg (Value.int .i64) (by omega),congrArg (Value.int .i64) (by simp only [lenX,Nat.sub_zero];omega),by omega,rfl,h0⟩ ?_
 rintro _ sd w' ⟨j,h5,h4,hj,rfl,hJj⟩
 have hFj:=hF _ _ hJj
 have:=hFj.num
 have:=hFj.run
 by_cases hji:j≤i
 rotate_left
 ·obtain rfl:j=i+1:=by omega
  refine W.fix h5 (W.fix (d:=4) h4 ?_)
  clear h5 h4
  (refine jjB (jjB (jjC (jI (eI rfl) (jjg rfl rfl (by omega) (jz ?_)))));refine jjK rfl (jjE ?_);refine jA rfl ⟨⟨_,rfl⟩,?_⟩)
  exact .inl hJj
 replace h5:=h5.trans (congrArg (Value.int .i64) (show (i:Int)-j=((i-j:Nat):Int) by omega))
 refine W.fix h5 (W.fix (d:=4) h4 ?_)
 clear h5 h4
 have hlt:i-j<ws.length:=by omega
 have hlf:=lenX_from (b:=i) hlt
 rw [show i-j+1=i+1-j by omega] at hlf
 have hsj:=hsz _ (List.getElem_mem hlt)
 have hbd:=lenX_bound (ws:=ws) (a:=i-j) (b:=i) hsz hn (by omega) hi
 have hbd0:-1≤lenX ws (i+1-j,i):=by simp only [lenX];have:=preW_mono (ws:=ws) (a:=i+1-j) (b:=i+1) (by omega) (by omega);omega
 have hcast:((i-j:Nat):Int)=(i:Int)-j:=by omega
 have hRow:RowI w' (.slice wa ws.length wc) false 1 (ws.map strV):=⟨hFj.row⟩
 generalize lenX ws (i+1-j,i)=L0 at *
 by_cases hLW:wd<lenX ws (i-j,i)
 ·have hst:=ctxN_stop (m:=i+1) hi hj hLW
  (refine jjB (jjB (jjC (jI (eI rfl) (jjf rfl rfl (by omega) (jz ?_)))));refine jjJ rfl (jjG (jjB (jjD (jjB (jjC ?_)))));refine jI (eI rfl) (jm (jn rfl (jN rfl rfl rfl (jI (eI rfl) ?_))));refine jF rfl rfl rfl (map_get (by omega)) ?_;intro _ _ _;refine jQ rfl rfl (ji rfl (jY rfl rfl (by omega) (jY rfl rfl (by omega) (jJ (eI rfl) (jz ?_)))));refine jjB (jjB (jjC (jI (eI rfl) (jm (jn rfl ?_)))));refine jm (jn rfl (jN rfl rfl rfl (jjd rfl rfl (by omega) (jz (jjJ rfl ?_)))));refine jjF ?_;refine jA rfl ⟨⟨_,rfl⟩,?_⟩)
  exact .inl (by rw [ctxA,hst];exact hJj)
 (refine jjB (jjB (jjC (jI (eI rfl) (jjf rfl rfl (by omega) (jz ?_)))));refine jjJ rfl (jjG (jjB (jjD (jjB (jjC ?_)))));refine jI (eI rfl) (jm (jn rfl (jN rfl rfl rfl (jI (eI rfl) ?_))));refine jF rfl rfl rfl (map_get (by omega)) ?_;intro _ _ _;refine jQ rfl rfl (ji rfl (jY rfl rfl (by omega) (jY rfl rfl (by omega) (jJ (eI rfl) (jz ?_)))));refine jjB (jjB (jjC (jI (eI rfl) (jm (jn rfl ?_)))));refine jm (jn rfl (jN rfl rfl rfl (jje rfl rfl (by omega) (jz (jjK rfl ?_)))));refine jjG (jjB (jjC (jI (eI rfl) (jJ (eI rfl) (jz ?_)))));refine jjB (jjC (jN rfl rfl rfl (jJ (eI rfl) (jz (jjD ?_))))))
 refine W.keep [(0,.func (.yield l) #[] #[]),(1,.pointer (some ⟨bi,0,none⟩)),(2,.pointer (some ⟨br,0,none⟩)),(4,.int .i64 (lenX ws (i-j,i))),(5,.int .i64 ((i-j:Nat):Int)),(6,.int .i64 (lenX ws (i-j,i))),(7,.int .i64 (i:Int))] (D:=(9::10::13::14::15::16::17::18::19::20::21::4::22::23::24::25::26::27::6::28::7::31::32::33::34::35::36::37::38::39::40::41::42::43::44::45::46::47::48::49::50::51::52::53::54::55::56::57::58::59::60::29::30::11::12::5::[])) (sO:=upds s0 _) (by (((iterate 23 refine Same.upd rfl ?_);exact Same.ovN))) ⟨eF rfl,eP rfl,eP rfl,congrArg (Value.int .i64) (by omega),eI rfl,congrArg (Value.int .i64) (by omega),eI rfl,trivial⟩ fun s1 hs1=>?_
 refine W.loopG (31::32::33::34::35::36::37::38::39::40::41::42::43::44::45::46::47::6::48::49::50::51::52::53::54::55::56::57::58::59::60::29::30::7::[]) (fun g s' V=>∃ t:Nat,s' 7=.int .i64 ((i+t:Nat):Int)∧s' 6=.int .i64 (lenX ws (i-j,i+(t-1)))∧i+t≤ws.length∧g=ws.length-(i+t)∧J ((ctxN ws i wd j).length+(ctxTo ws i wd (i-j) t).length) V) (ws.length-i) ⟨0,rfl,rfl,by omega,rfl,hJj⟩ ?_
 rintro _ sd2 V ⟨t,h7,h6,ht,rfl,hJt⟩
 have hFt:=hF _ _ hJt
 have:=hFt.num
 have:=hFt.run
 have hRow:RowI V (.slice wa ws.length wc) false 1 (ws.map strV):=⟨hFt.row⟩
 by_cases ht0:t=0
 ·have htl:i+t<ws.length:=by omega
  replace h6:=h6.trans (congrArg (fun b=>Value.int .i64 (lenX ws (i-j,b))) (show i+(t-1)=i+t by omega))
  have hLt:lenX ws (i-j,i+t)≤wd:=by rw [ht0];exact Int.not_lt.1 hLW
  refine W.fix h7 (W.fix (d:=6) h6 ?_)
  clear h7 h6
  (refine jjB (jjD (jjB (jjB (jjC (jI (eI rfl) ?_)))));refine jN rfl rfl rfl (jje rfl rfl (by omega) (jz (jjK rfl (jjG (jjB ?_)))));refine jjB (jjC (jI (eI rfl) (jm (jn rfl (jm ?_)))));refine jn rfl (jN rfl rfl rfl (jje rfl rfl (by omega) (jz (jjK rfl (jjG ?_)))));refine jjB (jjC (jI (eF rfl) (jI (eI rfl) (jN rfl rfl rfl (jI (eI rfl) ?_)))));refine jI (eI rfl) ?_)
  have hget:=ctx_get (ws:=ws) (i:=i) (W:=wd) (j:=j) (t:=t) hji htl (by omega)
  rw [List.length_append] at hget
  have e1:ctxTo ws i wd (i-j) (t+1)=ctxTo ws i wd (i-j) t++[(i-j,i+t)]:=by rw [ctxTo_succ,if_pos (show okX ws wd (i-j,i+t)=true from decide_eq_true (by omega))]
  (refine jjS (cells:=[.int .i64 ((i-j:Nat):Int),.int .i64 (i:Int),.int .i64 ((i+t:Nat):Int),.int .i64 (lenX ws (i-j,i+t))]) ?_ ?_;exact rfl)
  skip
  refine Ops.yield (hY _ _ _ hget hJt) rfl rfl ?_
  rintro e w9 (⟨rfl,hJ9,hFr⟩|⟨rfl,hJx9⟩)
  ·refine ⟨_,rfl,?_⟩
   (refine jp rfl (jz (jjK rfl (jjG (jjC (jI (eI rfl) ?_)))));refine jY rfl rfl (by omega) (jJ (eI rfl) (jz ?_)))
   refine ⟨rfl,by (((iterate 21 refine Same.upd rfl ?_);exact Same.ovN)),ws.length-(i+(t+1)),by omega,t+1,congrArg (Value.int .i64) (by omega),rfl,by omega,rfl,?_⟩
   rw [e1,List.length_append];exact hJ9
  ·refine ⟨_,rfl,?_⟩
   (refine jq rfl (jz (jjJ rfl (jjF ?_)));refine jA rfl ⟨⟨_,rfl⟩,?_⟩)
   exact .inr ⟨_,(List.getElem?_eq_some_iff.1 hget).1,hJx9⟩
 by_cases hte:i+t=ws.length
 ·have hsu:=ctxN_succ ws i wd j
  rw [show ws.length-i=t by omega] at hsu
  refine W.fix h7 (W.fix (d:=6) h6 ?_)
  clear h7 h6
  (refine jjB (jjD (jjB (jjB (jjC (jI (eI rfl) ?_)))));refine jN rfl rfl rfl (jjd rfl rfl (by omega) (jz (jjJ rfl (jjB (jjB ?_)))));refine jjC (jI (eI rfl) (jm (jn rfl (jN rfl rfl rfl (jh rfl ?_)))));refine jjh rfl rfl (by omega) (jz (jjJ rfl (jjE (jjC (jI (eI rfl) ?_)))));refine jZ rfl rfl (by omega) (jJ (eI rfl) (jz ?_)))
  refine ⟨rfl,by (((iterate 13 refine Same.upd rfl ?_);refine Same.ovN' rfl ?_;assumption)),i+1-(j+1),by omega,j+1,congrArg (Value.int .i64) (by omega),congrArg (fun a=>Value.int .i64 (lenX ws (a,i))) (by omega),by omega,rfl,?_⟩
  rw [hsu,List.length_append];exact hJt
 have htl:i+t<ws.length:=by omega
 have hlt2:=lenX_to (ws:=ws) (a:=i-j) (b:=i+(t-1)) (by omega)
 have hst:=hsz _ (List.getElem_mem htl)
 have hbt:=lenX_bound (ws:=ws) (a:=i-j) (b:=i+(t-1)) hsz hn (by omega) (by omega)
 have hbt2:=lenX_bound (ws:=ws) (a:=i-j) (b:=i+t) hsz hn (by omega) htl
 have hLe:lenX ws (i-j,i+t)=lenX ws (i-j,i+(t-1))+(ws[i+t].size+1):=by
  have e:i+(t-1)+1=i+t:=by omega
  simp only [e] at hlt2
  exact hlt2
 refine W.fix h7 (W.fix (d:=6) h6 ?_)
 clear h7 h6
 generalize hL1:lenX ws (i-j,i+(t-1))=L1 at *
 by_cases hLt:lenX ws (i-j,i+t)≤wd
 ·(refine jjB (jjD (jjB (jjB (jjC (jI (eI rfl) ?_)))));refine jN rfl rfl rfl (jjd rfl rfl (by omega) (jz (jjJ rfl (jjB (jjB ?_)))));refine jjC (jI (eI rfl) (jm (jn rfl (jN rfl rfl rfl (jh rfl ?_)))));refine jji rfl rfl (by omega) (jz (jjK rfl (jjG (jjC (jI (eI rfl) ?_)))));refine jm (jn rfl (jN rfl rfl rfl (jI (eI rfl) ?_)));refine jF rfl rfl rfl (map_get (by omega)) ?_;intro _ _ _;refine jQ rfl rfl (ji rfl (jY rfl rfl (by omega) (jY rfl rfl (by omega) (jJ (eI rfl) (jz ?_)))));refine jjB (jjB (jjC (jI (eI rfl) (jm (jn rfl ?_)))));refine jm (jn rfl (jN rfl rfl rfl (jje rfl rfl (by omega) (jz (jjK rfl ?_)))));refine jjG (jjB (jjC (jI (eF rfl) (jI (eI rfl) (jN rfl rfl rfl ?_)))));refine jI (eI rfl) (jI (eI rfl) ?_))
  have hget:=ctx_get (ws:=ws) (i:=i) (W:=wd) (j:=j) (t:=t) hji htl (by omega)
  rw [List.length_append] at hget
  have e1:ctxTo ws i wd (i-j) (t+1)=ctxTo ws i wd (i-j) t++[(i-j,i+t)]:=by rw [ctxTo_succ,if_pos (show okX ws wd (i-j,i+t)=true from decide_eq_true (by omega))]
  have hy:=hY _ _ _ hget hJt
  simp only [encX1,encX,hLe] at hy
  (refine jjS (cells:=[.int .i64 ((i-j:Nat):Int),.int .i64 (i:Int),.int .i64 ((i+t:Nat):Int),.int .i64 (L1+(ws[i+t].size+1))]) ?_ ?_;exact rfl)
  skip
  refine Ops.yield hy rfl rfl ?_
  rintro e w9 (⟨rfl,hJ9,hFr⟩|⟨rfl,hJx9⟩)
  ·refine ⟨_,rfl,?_⟩
   (refine jp rfl (jz (jjK rfl (jjG (jjC (jI (eI rfl) ?_)))));refine jY rfl rfl (by omega) (jJ (eI rfl) (jz ?_)))
   refine ⟨rfl,by (((iterate 36 refine Same.upd rfl ?_);exact Same.ovN)),ws.length-(i+(t+1)),by omega,t+1,congrArg (Value.int .i64) (by omega),congrArg (Value.int .i64) (by rw [Nat.add_sub_cancel];omega),by omega,rfl,?_⟩
   rw [e1,List.length_append];exact hJ9
  ·refine ⟨_,rfl,?_⟩
   (refine jq rfl (jz (jjJ rfl (jjF ?_)));refine jA rfl ⟨⟨_,rfl⟩,?_⟩)
   exact .inr ⟨_,(List.getElem?_eq_some_iff.1 hget).1,hJx9⟩
 ·have hsu:=ctxN_succ ws i wd j
  have hsp:=ctxTo_stop (ws:=ws) (i:=i) (W:=wd) (a:=i-j) (by omega) (t:=t) (m:=ws.length-i) (by omega) (by omega) (by omega)
  (refine jjB (jjD (jjB (jjB (jjC (jI (eI rfl) ?_)))));refine jN rfl rfl rfl (jjd rfl rfl (by omega) (jz (jjJ rfl (jjB (jjB ?_)))));refine jjC (jI (eI rfl) (jm (jn rfl (jN rfl rfl rfl (jh rfl ?_)))));refine jji rfl rfl (by omega) (jz (jjK rfl (jjG (jjC (jI (eI rfl) ?_)))));refine jm (jn rfl (jN rfl rfl rfl (jI (eI rfl) ?_)));refine jF rfl rfl rfl (map_get (by omega)) ?_;intro _ _ _;refine jQ rfl rfl (ji rfl (jY rfl rfl (by omega) (jY rfl rfl (by omega) (jJ (eI rfl) (jz ?_)))));refine jjB (jjB (jjC (jI (eI rfl) (jm (jn rfl ?_)))));refine jm (jn rfl (jN rfl rfl rfl (jjd rfl rfl (by omega) (jz (jjJ rfl ?_)))));refine jjE (jjC (jI (eI rfl) (jZ rfl rfl (by omega) (jJ (eI rfl) (jz ?_))))))
  refine ⟨rfl,by (((iterate 28 refine Same.upd rfl ?_);refine Same.ovN' rfl ?_;assumption)),i+1-(j+1),by omega,j+1,congrArg (Value.int .i64) (by omega),congrArg (fun a=>Value.int .i64 (lenX ws (a,i))) (by omega),by omega,rfl,?_⟩
  rw [hsu,hsp,List.length_append];exact hJt
theorem contexts_slip (ws:List ByteArray) (wd side:Int) (i:Nat) (wa:Option Addr) (wc:Nat) (aa:Option Addr) (al ac:Nat) (w:World):Ct Tryz.prog 96 [.agg #[.int .i64 wd,.int .u8 side,.slice wa ws.length wc,.slice aa al ac],.int .i64 (i:Int)] w fun v w' =>
  ∃ bi br,v=.func (.func 128) #[] ([.pointer (some ⟨bi,0,none⟩),.pointer (some ⟨br,0,none⟩)]:List Value).toArray∧At w' bi 0 [.int .i64 (i:Int)]∧At w' br 0 [.int .i64 wd,.int .u8 side,.slice wa ws.length wc,.slice aa al ac]:=by
 refine Ct.ofW (by simp) ?_
 (refine jjB (jjC ?_))
 (refine jy rfl ?_;intro br w_br hb_br hs_br hS_br hk_br;have hA_br:=At.ofBlock hk_br)
 skip
 (refine jy rfl ?_;intro bi w_bi hb_bi hs_bi hS_bi hk_bi;have hA_bi:=At.ofBlock hk_bi)
 (refine jJ rfl (jz (jjB (jjC (jv (jJ (eF rfl) ?_)))));refine jz (jjF ?_);refine jB rfl rfl ⟨inferInstance,?_⟩)
 exact ⟨bi,br,rfl,inferInstance,inferInstance⟩

abbrev InX (n i:Nat) (x:Cx):Prop:=x.1≤i∧i≤x.2∧x.2<n∧n≤1000000
theorem unE_bound {n i:Nat} {x:Cx} (h:InX n i x):0≤unE i x∧unE i x≤2000000:=by unfold unE;omega
theorem uneven_slip (ws:List ByteArray) (i:Nat) (x:Cx) (w:World) (hx:InX ws.length i x):Ct Tryz.prog 166 [encX ws i x] w fun v _=>v=.int .i64 (unE i x):=by
 refine Ct.ofW (by simp) ?_
 (refine jjB (jjC ?_))
 (refine jy rfl ?_;intro b1 w_b1 hb_b1 hs_b1 hS_b1 hk_b1;have hA_b1:=At.ofBlock hk_b1)
 (refine jJ (eI rfl) (jz (jjB (jjC (jm (jn rfl ?_)))));refine jN rfl rfl rfl (jm (jn rfl (jN rfl rfl rfl (jZ rfl rfl (by omega) (jm ?_)))));refine jn rfl (jN rfl rfl rfl (jm (jn rfl (jN rfl rfl rfl (jZ rfl rfl (by omega) ?_)))));refine jZ rfl rfl (by omega) (jJ (eI rfl) (jz (jjB (jjC (jI (eI rfl) ?_)))));refine jI (eI rfl) ?_)
 refine jjm rfl (by omega) ?_
 (refine jk rfl rfl (jJ (eI rfl) (jz (jjF ?_)));refine jB rfl rfl ⟨inferInstance,?_⟩)
 exact rfl
theorem sides1_slip (ws:List ByteArray) (i:Nat) (a b:Cx) (w:World) (ha:InX ws.length i a) (hb:InX ws.length i b):Ct Tryz.prog 180 [encX ws i a,encX ws i b] w fun v _=>v=.int .i64 ((a.1:Int)-b.1):=by
 refine Ct.ofW (by simp) ?_
 (refine jjB (jjC ?_))
 (refine jy rfl ?_;intro b1 w_b1 hb_b1 hs_b1 hS_b1 hk_b1;have hA_b1:=At.ofBlock hk_b1)
 skip
 (refine jy rfl ?_;intro b2 w_b2 hb_b2 hs_b2 hS_b2 hk_b2;have hA_b2:=At.ofBlock hk_b2)
 (refine jJ (eI rfl) (jz (jjB (jjC (jm (jn rfl ?_)))));refine jN rfl rfl rfl (jm (jn rfl (jN rfl rfl rfl (jZ rfl rfl (by omega) (jJ (eI rfl) ?_)))));refine jz (jjF ?_);refine jB rfl rfl ⟨inferInstance,?_⟩)
 exact rfl
theorem sides2_slip (ws:List ByteArray) (i:Nat) (a b:Cx) (w:World) (ha:InX ws.length i a) (hb:InX ws.length i b):Ct Tryz.prog 181 [encX ws i a,encX ws i b] w fun v _=>v=.int .i64 ((b.1:Int)-a.1):=by
 refine Ct.ofW (by simp) ?_
 (refine jjB (jjC ?_))
 (refine jy rfl ?_;intro b1 w_b1 hb_b1 hs_b1 hS_b1 hk_b1;have hA_b1:=At.ofBlock hk_b1)
 skip
 (refine jy rfl ?_;intro b2 w_b2 hb_b2 hs_b2 hS_b2 hk_b2;have hA_b2:=At.ofBlock hk_b2)
 (refine jJ (eI rfl) (jz (jjB (jjC (jm (jn rfl ?_)))));refine jN rfl rfl rfl (jm (jn rfl (jN rfl rfl rfl (jZ rfl rfl (by omega) (jJ (eI rfl) ?_)))));refine jz (jjF ?_);refine jB rfl rfl ⟨inferInstance,?_⟩)
 exact rfl
theorem sides3_slip (ws:List ByteArray) (i:Nat) (a b:Cx) (w:World) (ha:InX ws.length i a) (hb:InX ws.length i b):Ct Tryz.prog 182 [encX ws i a,encX ws i b] w fun v _=>v=.int .i64 (orF [unE i a-unE i b,(b.1:Int)-a.1]):=by
 have u1:=unE_bound ha
 have u2:=unE_bound hb
 refine Ct.ofW (by simp) ?_
 (refine jjB (jjC ?_))
 (refine jy rfl ?_;intro b1 w_b1 hb_b1 hs_b1 hS_b1 hk_b1;have hA_b1:=At.ofBlock hk_b1)
 skip
 (refine jy rfl ?_;intro b2 w_b2 hb_b2 hs_b2 hS_b2 hk_b2;have hA_b2:=At.ofBlock hk_b2)
 (refine jJ (eI rfl) (jz (jjB ?_)))
 refine W.draw (fun w'=>Ext w_b2 w') ?_
 intro w1 hS1
 (refine jjV [0,2,5,6,7,8,9] ?_ ?_ ?_;(decide +kernel);(exact hS1.ext);(((apply jjT;exact rfl;rintro w' hq;have:=hq.toStep;refine jO rfl rfl rfl rfl (jz ?_);exact ⟨rfl,rfl⟩;apply jjT;exact rfl;rintro w' hq;have:=hq.toStep;refine jO rfl rfl rfl rfl (jz ?_);exact ⟨rfl,rfl⟩;apply jjT;exact rfl;rintro w' hq;have:=hq.toStep;refine jm (jn rfl (jz ?_));exact ⟨rfl,rfl⟩;apply jjT;exact rfl;rintro w' hq;have:=hq.toStep;refine jN rfl rfl rfl (jz ?_);exact ⟨rfl,rfl⟩;apply jjT;exact rfl;rintro w' hq;have:=hq.toStep;refine jm (jn rfl (jz ?_));exact ⟨rfl,rfl⟩;apply jjT;exact rfl;rintro w' hq;have:=hq.toStep;refine jN rfl rfl rfl (jz ?_);exact ⟨rfl,rfl⟩;refine jjT rfl (fun _ _=>jZ rfl rfl (by omega) (jz ⟨rfl,rfl⟩)) (jjU ?_)))))
 (apply jjW 1;(decide +kernel);exact rfl;(exact hS1.ext))
 refine jjQ (uneven_slip ws i a _ ha) rfl rfl ?_
 rintro _ w2 hS2 rfl
 refine jz ?_
 (apply jjW 3;(decide +kernel);exact rfl;(exact hS1.ext.trans hS2.ext))
 refine jjQ (uneven_slip ws i b _ hb) rfl rfl ?_
 rintro _ w3 hS3 rfl
 refine jz ?_
 have hE3:=(hS1.ext.trans hS2.ext).trans hS3.ext
 (refine jjV [4] ?_ ?_ ?_;(decide +kernel);(exact hE3);(((refine jjT rfl (fun _ _=>jZ rfl rfl (by omega) (jz ⟨rfl,rfl⟩)) (jjU ?_)))))
 (apply jjW 10;(decide +kernel);exact rfl;(exact hE3))
 refine Ops.buildSlice2 (u:=.int .i64 (unE i a-unE i b)) (v:=.int .i64 ((b.1:Int)-a.1)) rfl rfl rfl rfl rfl ?_
 intro b9 w4 hb4 hs4 hS4 hk4
 refine jz ?_
 have hE4:=hE3.trans hS4.ext
 have hr4:RowV w4 false 1 (.slice (some ⟨b9,0,none⟩) 2 2) ([unE i a-unE i b,(b.1:Int)-a.1].map intV):=hk4.row (fun x hx=>by simp at hx;rcases hx with rfl|rfl<;>rfl) (by simp)
 (apply jjW 11;(decide +kernel);exact rfl;(exact hE4))
 refine jjQ (Or_int _ _ _ [unE i a-unE i b,(b.1:Int)-a.1] _ rfl hr4) rfl rfl ?_
 rintro _ w5 hS5 rfl
 refine jz ?_
 (apply jjW 12;(decide +kernel);exact rfl;(exact hE4.trans hS5.ext))
 (refine jJ (eI rfl) (jz ?_))
 refine jjX (by decide +kernel) (hE4.trans hS5.ext) ?_
 (refine jjF ?_;refine jB rfl rfl ⟨inferInstance,?_⟩)
 exact rfl

abbrev sidesC:List Value:=[.nilFunc,.func (.func 180) #[] ([]:List Value).toArray,.func (.func 181) #[] ([]:List Value).toArray,.func (.func 182) #[] ([]:List Value).toArray]
set_option maxHeartbeats 2000000 in
theorem slip1_slip (br:Nat) (ws:List ByteArray) (wd side:Int) (i:Nat) (wv av:Value) (a b:Cx) (w:World) [hr:At w br 0 [.int .i64 wd,.int .u8 side,wv,av]] [hg:At w 1 0 sidesC] (hs:1≤side∧side≤3) (ha:InX ws.length i a) (hb:InX ws.length i b)
  (la:0≤lenX ws a∧lenX ws a≤1001000000) (lb:0≤lenX ws b∧lenX ws b≤1001000000):Ct Tryz.prog 97 [encX ws i a,encX ws i b,.pointer (some ⟨br,0,none⟩)] w fun v _=>v=.int .i64 (ordI ws side i a b):=by
 have hsd:side=1∨side=2∨side=3:=by omega
 rcases hsd with rfl|rfl|rfl
 ·refine Ct.ofW (by simp) ?_
  (refine jjB (jjC ?_))
  (refine jy rfl ?_;intro b3 w_b3 hb_b3 hs_b3 hS_b3 hk_b3;have hA_b3:=At.ofBlock hk_b3)
  skip
  (refine jy rfl ?_;intro b4 w_b4 hb_b4 hs_b4 hS_b4 hk_b4;have hA_b4:=At.ofBlock hk_b4)
  (refine jJ (eI rfl) (jz (jjB ?_)))
  refine W.draw (fun w'=>Ext w_b4 w') ?_
  intro w1 hS1
  (refine jjV [0,1,2,3,4,5,6,7] ?_ ?_ ?_;(decide +kernel);(exact hS1.ext);(((apply jjT;exact rfl;rintro w' hq;have:=hq.toStep;refine jm (jn rfl (jz ?_));exact ⟨rfl,rfl⟩;apply jjT;exact rfl;rintro w' hq;have:=hq.toStep;refine jN rfl rfl rfl (jz ?_);exact ⟨rfl,rfl⟩;apply jjT;exact rfl;rintro w' hq;have:=hq.toStep;refine jm (jn rfl (jz ?_));exact ⟨rfl,rfl⟩;apply jjT;exact rfl;rintro w' hq;have:=hq.toStep;refine jN rfl rfl rfl (jz ?_);exact ⟨rfl,rfl⟩;refine jjT rfl (fun _ _=>jZ rfl rfl (by omega) (jz ⟨rfl,rfl⟩)) ?_;apply jjT;exact rfl;rintro w' hq;have:=hq.toStep;refine jm (jn rfl (jz ?_));exact ⟨rfl,rfl⟩;apply jjT;exact rfl;rintro w' hq;have:=hq.toStep;refine jm (jn rfl (jz ?_));exact ⟨rfl,rfl⟩;apply jjT;exact rfl;rintro w' hq;have:=hq.toStep;refine jN rfl rfl rfl (jz ?_);exact ⟨rfl,rfl⟩;refine jjU ?_))))
  refine jjV [8] (by decide +kernel) hS1.ext (jjT (v:=.pointer (some ⟨1,0+1,none⟩)) rfl (fun w' q1=>?_) (jjU ?_));(refine Ops.indexAP (j:=1) rfl rfl rfl rfl ?_;refine jz ?_;exact ⟨rfl,rfl⟩)
  (refine jjV [9,10,11,12] ?_ ?_ ?_;(decide +kernel);(exact hS1.ext);(((apply jjT;exact rfl;rintro w' hq;have:=hq.toStep;refine jm (jn rfl (jz ?_));exact ⟨rfl,rfl⟩;apply jjT;exact rfl;rintro w' hq;have:=hq.toStep;refine jN rfl rfl rfl (jz ?_);exact ⟨rfl,rfl⟩;apply jjT;exact rfl;rintro w' hq;have:=hq.toStep;refine jO rfl rfl rfl rfl (jz ?_);exact ⟨rfl,rfl⟩;apply jjT;exact rfl;rintro w' hq;have:=hq.toStep;refine jO rfl rfl rfl rfl (jz ?_);exact ⟨rfl,rfl⟩;refine jjU ?_))))
  (apply jjW 13;(decide +kernel);exact rfl;(exact hS1.ext))
  refine jjQ (sides1_slip ws i a b _ ha hb) rfl rfl ?_
  rintro _ w2 hS2 rfl
  refine jz ?_
  (apply jjW 14;(decide +kernel);exact rfl;(exact hS1.ext.trans hS2.ext))
  refine Ops.buildSlice2 (u:=.int .i64 (lenX ws b-lenX ws a)) (v:=.int .i64 ((a.1:Int)-b.1)) rfl rfl rfl rfl rfl ?_
  intro b9 w3 hb3 hs3 hS3 hk3
  refine jz ?_
  have hE3:=(hS1.ext.trans hS2.ext).trans hS3.ext
  have hr3:RowV w3 false 1 (.slice (some ⟨b9,0,none⟩) 2 2) ([lenX ws b-lenX ws a,(a.1:Int)-b.1].map intV):=hk3.row (fun x hx=>by simp at hx;rcases hx with rfl|rfl<;>rfl) (by simp)
  (apply jjW 15;(decide +kernel);exact rfl;(exact hE3))
  refine jjQ (Or_int _ _ _ [lenX ws b-lenX ws a,(a.1:Int)-b.1] _ rfl hr3) rfl rfl ?_
  rintro _ w4 hS4 rfl
  refine jz ?_
  (apply jjW 16;(decide +kernel);exact rfl;(exact hE3.trans hS4.ext))
  (refine jJ (eI rfl) (jz ?_))
  refine jjX (by decide +kernel) (hE3.trans hS4.ext) ?_
  (refine jjF ?_;refine jB rfl rfl ⟨inferInstance,?_⟩)
  exact rfl
 ·refine Ct.ofW (by simp) ?_
  (refine jjB (jjC ?_))
  (refine jy rfl ?_;intro b3 w_b3 hb_b3 hs_b3 hS_b3 hk_b3;have hA_b3:=At.ofBlock hk_b3)
  skip
  (refine jy rfl ?_;intro b4 w_b4 hb_b4 hs_b4 hS_b4 hk_b4;have hA_b4:=At.ofBlock hk_b4)
  (refine jJ (eI rfl) (jz (jjB ?_)))
  refine W.draw (fun w'=>Ext w_b4 w') ?_
  intro w1 hS1
  (refine jjV [0,1,2,3,4,5,6,7] ?_ ?_ ?_;(decide +kernel);(exact hS1.ext);(((apply jjT;exact rfl;rintro w' hq;have:=hq.toStep;refine jm (jn rfl (jz ?_));exact ⟨rfl,rfl⟩;apply jjT;exact rfl;rintro w' hq;have:=hq.toStep;refine jN rfl rfl rfl (jz ?_);exact ⟨rfl,rfl⟩;apply jjT;exact rfl;rintro w' hq;have:=hq.toStep;refine jm (jn rfl (jz ?_));exact ⟨rfl,rfl⟩;apply jjT;exact rfl;rintro w' hq;have:=hq.toStep;refine jN rfl rfl rfl (jz ?_);exact ⟨rfl,rfl⟩;refine jjT rfl (fun _ _=>jZ rfl rfl (by omega) (jz ⟨rfl,rfl⟩)) ?_;apply jjT;exact rfl;rintro w' hq;have:=hq.toStep;refine jm (jn rfl (jz ?_));exact ⟨rfl,rfl⟩;apply jjT;exact rfl;rintro w' hq;have:=hq.toStep;refine jm (jn rfl (jz ?_));exact ⟨rfl,rfl⟩;apply jjT;exact rfl;rintro w' hq;have:=hq.toStep;refine jN rfl rfl rfl (jz ?_);exact ⟨rfl,rfl⟩;refine jjU ?_))))
  refine jjV [8] (by decide +kernel) hS1.ext (jjT (v:=.pointer (some ⟨1,0+2,none⟩)) rfl (fun w' q1=>?_) (jjU ?_));(refine Ops.indexAP (j:=2) rfl rfl rfl rfl ?_;refine jz ?_;exact ⟨rfl,rfl⟩)
  (refine jjV [9,10,11,12] ?_ ?_ ?_;(decide +kernel);(exact hS1.ext);(((apply jjT;exact rfl;rintro w' hq;have:=hq.toStep;refine jm (jn rfl (jz ?_));exact ⟨rfl,rfl⟩;apply jjT;exact rfl;rintro w' hq;have:=hq.toStep;refine jN rfl rfl rfl (jz ?_);exact ⟨rfl,rfl⟩;apply jjT;exact rfl;rintro w' hq;have:=hq.toStep;refine jO rfl rfl rfl rfl (jz ?_);exact ⟨rfl,rfl⟩;apply jjT;exact rfl;rintro w' hq;have:=hq.toStep;refine jO rfl rfl rfl rfl (jz ?_);exact ⟨rfl,rfl⟩;refine jjU ?_))))
  (apply jjW 13;(decide +kernel);exact rfl;(exact hS1.ext))
  refine jjQ (sides2_slip ws i a b _ ha hb) rfl rfl ?_
  rintro _ w2 hS2 rfl
  refine jz ?_
  (apply jjW 14;(decide +kernel);exact rfl;(exact hS1.ext.trans hS2.ext))
  refine Ops.buildSlice2 (u:=.int .i64 (lenX ws b-lenX ws a)) (v:=.int .i64 ((b.1:Int)-a.1)) rfl rfl rfl rfl rfl ?_
  intro b9 w3 hb3 hs3 hS3 hk3
  refine jz ?_
  have hE3:=(hS1.ext.trans hS2.ext).trans hS3.ext
  have hr3:RowV w3 false 1 (.slice (some ⟨b9,0,none⟩) 2 2) ([lenX ws b-lenX ws a,(b.1:Int)-a.1].map intV):=hk3.row (fun x hx=>by simp at hx;rcases hx with rfl|rfl<;>rfl) (by simp)
  (apply jjW 15;(decide +kernel);exact rfl;(exact hE3))
  refine jjQ (Or_int _ _ _ [lenX ws b-lenX ws a,(b.1:Int)-a.1] _ rfl hr3) rfl rfl ?_
  rintro _ w4 hS4 rfl
  refine jz ?_
  (apply jjW 16;(decide +kernel);exact rfl;(exact hE3.trans hS4.ext))
  (refine jJ (eI rfl) (jz ?_))
  refine jjX (by decide +kernel) (hE3.trans hS4.ext) ?_
  (refine jjF ?_;refine jB rfl rfl ⟨inferInstance,?_⟩)
  exact rfl
 ·refine Ct.ofW (by simp) ?_
  (refine jjB (jjC ?_))
  (refine jy rfl ?_;intro b3 w_b3 hb_b3 hs_b3 hS_b3 hk_b3;have hA_b3:=At.ofBlock hk_b3)
  skip
  (refine jy rfl ?_;intro b4 w_b4 hb_b4 hs_b4 hS_b4 hk_b4;have hA_b4:=At.ofBlock hk_b4)
  (refine jJ (eI rfl) (jz (jjB ?_)))
  refine W.draw (fun w'=>Ext w_b4 w') ?_
  intro w1 hS1
  (refine jjV [0,1,2,3,4,5,6,7] ?_ ?_ ?_;(decide +kernel);(exact hS1.ext);(((apply jjT;exact rfl;rintro w' hq;have:=hq.toStep;refine jm (jn rfl (jz ?_));exact ⟨rfl,rfl⟩;apply jjT;exact rfl;rintro w' hq;have:=hq.toStep;refine jN rfl rfl rfl (jz ?_);exact ⟨rfl,rfl⟩;apply jjT;exact rfl;rintro w' hq;have:=hq.toStep;refine jm (jn rfl (jz ?_));exact ⟨rfl,rfl⟩;apply jjT;exact rfl;rintro w' hq;have:=hq.toStep;refine jN rfl rfl rfl (jz ?_);exact ⟨rfl,rfl⟩;refine jjT rfl (fun _ _=>jZ rfl rfl (by omega) (jz ⟨rfl,rfl⟩)) ?_;apply jjT;exact rfl;rintro w' hq;have:=hq.toStep;refine jm (jn rfl (jz ?_));exact ⟨rfl,rfl⟩;apply jjT;exact rfl;rintro w' hq;have:=hq.toStep;refine jm (jn rfl (jz ?_));exact ⟨rfl,rfl⟩;apply jjT;exact rfl;rintro w' hq;have:=hq.toStep;refine jN rfl rfl rfl (jz ?_);exact ⟨rfl,rfl⟩;refine jjU ?_))))
  refine jjV [8] (by decide +kernel) hS1.ext (jjT (v:=.pointer (some ⟨1,0+3,none⟩)) rfl (fun w' q1=>?_) (jjU ?_));(refine Ops.indexAP (j:=3) rfl rfl rfl rfl ?_;refine jz ?_;exact ⟨rfl,rfl⟩)
  (refine jjV [9,10,11,12] ?_ ?_ ?_;(decide +kernel);(exact hS1.ext);(((apply jjT;exact rfl;rintro w' hq;have:=hq.toStep;refine jm (jn rfl (jz ?_));exact ⟨rfl,rfl⟩;apply jjT;exact rfl;rintro w' hq;have:=hq.toStep;refine jN rfl rfl rfl (jz ?_);exact ⟨rfl,rfl⟩;apply jjT;exact rfl;rintro w' hq;have:=hq.toStep;refine jO rfl rfl rfl rfl (jz ?_);exact ⟨rfl,rfl⟩;apply jjT;exact rfl;rintro w' hq;have:=hq.toStep;refine jO rfl rfl rfl rfl (jz ?_);exact ⟨rfl,rfl⟩;refine jjU ?_))))
  (apply jjW 13;(decide +kernel);exact rfl;(exact hS1.ext))
  refine jjQ (sides3_slip ws i a b _ ha hb) rfl rfl ?_
  rintro _ w2 hS2 rfl
  refine jz ?_
  (apply jjW 14;(decide +kernel);exact rfl;(exact hS1.ext.trans hS2.ext))
  refine Ops.buildSlice2 (u:=.int .i64 (lenX ws b-lenX ws a)) (v:=.int .i64 (orF [unE i a-unE i b,(b.1:Int)-a.1])) rfl rfl rfl rfl rfl ?_
  intro b9 w3 hb3 hs3 hS3 hk3
  refine jz ?_
  have hE3:=(hS1.ext.trans hS2.ext).trans hS3.ext
  have hr3:RowV w3 false 1 (.slice (some ⟨b9,0,none⟩) 2 2) ([lenX ws b-lenX ws a,orF [unE i a-unE i b,(b.1:Int)-a.1]].map intV):=hk3.row (fun x hx=>by simp at hx;rcases hx with rfl|rfl<;>rfl) (by simp)
  (apply jjW 15;(decide +kernel);exact rfl;(exact hE3))
  refine jjQ (Or_int _ _ _ [lenX ws b-lenX ws a,orF [unE i a-unE i b,(b.1:Int)-a.1]] _ rfl hr3) rfl rfl ?_
  rintro _ w4 hS4 rfl
  refine jz ?_
  (apply jjW 16;(decide +kernel);exact rfl;(exact hE3.trans hS4.ext))
  (refine jJ (eI rfl) (jz ?_))
  refine jjX (by decide +kernel) (hE3.trans hS4.ext) ?_
  (refine jjF ?_;refine jB rfl rfl ⟨inferInstance,?_⟩)
  exact rfl

abbrev cxC (ws:List ByteArray) (i:Nat):Option Cx→List Value
 | none=>[.int .i64 0,.int .i64 0,.int .i64 0,.int .i64 0]
 | some x=>[.int .i64 (x.1:Int),.int .i64 (i:Int),.int .i64 (x.2:Int),.int .i64 (lenX ws x)]
set_option maxHeartbeats 2000000 in
theorem first_slip (bi br br2:Nat) (ws:List ByteArray) (wd side:Int) (i:Nat) (wa:Option Addr) (wc:Nat) (aa:Option Addr) (al ac:Nat) (w:World) (hi:i<ws.length) (hsz:∀ s∈ws,s.size≤1000) (hn:ws.length≤1000000) (hW:0≤wd∧wd≤1000) (hs:1≤side∧side≤3) (hwi:(ws[i].size:Int)≤wd)
  (hF:RunF bi br ws wd side i wa wc aa al ac w) (hr2:At w br2 0 [.int .i64 wd,.int .u8 side,.slice wa ws.length wc,.slice aa al ac]) (hg:At w 1 0 sidesC) :
  Ct Tryz.prog 95 [.func (.func 128) #[] ([.pointer (some ⟨bi,0,none⟩),.pointer (some ⟨br,0,none⟩)]:List Value).toArray,.func (.func 97) #[] ([.pointer (some ⟨br2,0,none⟩)]:List Value).toArray] w fun v _=>v=encX ws i (bestA ws side wd i):=by
 have hbest:=fst_best (side:=side) hi hwi
 have hmem:∀ x∈ctxA ws i wd,InX ws.length i x∧0≤lenX ws x∧lenX ws x≤1001000000:=fun x hx=>by
  have h:=(mem_ctxA hi).1 hx
  exact ⟨⟨h.1,h.2.1,h.2.2.1,hn⟩,lenX_bound hsz hn (by omega) h.2.2.1⟩
 have hst:∀ k b,((ctxA ws i wd).take k).foldl (bestS (ordI ws side i)) none=some b→b∈ctxA ws i wd:=by
  intro k b
  induction k generalizing b with
  | zero=>intro h;cases h
  | succ k ih =>
    intro h
    by_cases hk:k<(ctxA ws i wd).length
    ·rw [take_snoc_get (List.getElem?_eq_getElem hk),List.foldl_append,List.foldl_cons,List.foldl_nil] at h
     cases hq:((ctxA ws i wd).take k).foldl (bestS (ordI ws side i)) none with
     | none=>rw [hq] at h;cases h;exact List.getElem_mem hk
     | some c =>
       rw [hq] at h
       simp only [bestS] at h
       split at h
       ·cases h;exact List.getElem_mem hk
       ·cases h;exact ih _ hq
    ·rw [List.take_of_length_le (by omega)] at h
     rw [List.take_of_length_le (by omega)] at ih
     exact ih b h
 refine Ct.ofWM (by simp) ?_
 (refine jjB (jjC ?_))
 (refine jy rfl ?_;intro b3 w_b3 hb_b3 hs_b3 hS_b3 hk_b3;have hA_b3:=At.ofBlock hk_b3)
 ((skip);refine jjY ?_;intro b4 w_b4 hb_b4 hs_b4 hS_b4 hk_b4;have hA_b4:=Bk.of hk_b4)
 (((refine jz (jjB (jjC ?_))));refine jjY ?_;intro b5 w_b5 hb_b5 hs_b5 hS_b5 hk_b5;have hA_b5:=Bk.of hk_b5)
 (refine jz (jjB (jjC ?_)))
 (apply jjR rfl;(intro _;first|exact eI rfl|exact eB rfl|exact eP rfl|exact eS rfl|exact eT rfl|exact eA rfl|exact eU rfl|exact eF rfl|exact eM rfl|exact eN rfl|exact rfl);exact rfl;exact rfl;exact rfl;exact rfl;intro b6 w_b6 hb_b6 hs_b6 hS_b6 hk_b6;have hA_b6:=Bk.of hk_b6)
 (refine jz (jjB (jjB (jjC (jI (eF rfl) (jz ?_)))));refine jjD ?_)
 have hE6:Ext w w_b6:=inferInstance
 refine W.range w.heap.size (ctxA ws i wd) (encX1 ws i) (contexts1_slip bi br ws wd side i wa wc aa al ac hi hsz hn hW) rfl (fun _=>rfl) trivial inferInstance hE6.size
  (fun k V=>Ext w V∧w_b6.heap.size≤V.heap.size∧At V b3 0 [.func (.func 97) #[] ([.pointer (some ⟨br2,0,none⟩)]:List Value).toArray]∧Bk V b4 [.int .i64 0,.int .i64 0,.int .i64 0,.int .i64 0] 192∧Bk V b5 (cxC ws i (((ctxA ws i wd).take k).foldl (bestS (ordI ws side i)) none)) 192∧Bk V b6 [.bool (((ctxA ws i wd).take k).foldl (bestS (ordI ws side i)) none).isSome] 4)
  (fun _ _ _=>False) ?hJ (fun _ _ _ _ h _=>h) ?hF ?h0 (fun x s' V=>∃ b7,s' 3=.pointer (some ⟨b3,0,none⟩)∧s' 5=.pointer (some ⟨b5,0,none⟩)∧s' 6=.pointer (some ⟨b6,0,none⟩)∧s' 7=.pointer (some ⟨b7,0,none⟩)∧w_b6.heap.size≤b7∧Bk V b7 (cxC ws i (some x)) 192) (fun x s V V' ⟨b7,h1,h2,h3,h4,h5,h6⟩ g=>⟨b7,h1,h2,h3,h4,h5,h6.grow g⟩) ?hassign ?hbody ?hdone (fun _ _ _ _ _ _ _ h=>h.elim)
 case hJ =>
  rintro k V V' ⟨h1,h2,h3,h4,h5,h6⟩ g
  exact ⟨h1.ofGrow g hE6.size,Nat.le_trans h2 g.size,h3.grow g,h4.grow g,h5.grow g,h6.grow g⟩
 case hF =>
  rintro k V ⟨h1,h2,h3,h4,h5,h6⟩
  exact ⟨h2,hF.num.ext h1,hF.run.ext h1,hF.row.ext h1⟩
 case h0 =>
  exact ⟨hE6,Nat.le_refl _,inferInstance,inferInstance,inferInstance,inferInstance⟩
 case hassign =>
  rintro l k x V hx ⟨h1,h2,h3,h4,h5,h6⟩ hl hr
  (refine jjC ?_)
  (apply jjR rfl;(intro _;first|exact eI rfl|exact eB rfl|exact eP rfl|exact eS rfl|exact eT rfl|exact eA rfl|exact eU rfl|exact eF rfl|exact eM rfl|exact eN rfl|exact rfl);exact rfl;exact rfl;exact rfl;exact rfl;intro b7 w_b7 hb_b7 hs_b7 hS_b7 hk_b7;have hA_b7:=Bk.of hk_b7)
  (refine jz ?_)
  exact ⟨rfl,hS_b7.ext.tr,Fr.ext hS_b7.ext,⟨h1.trans hS_b7.ext,by have:=hS_b7.size;omega,h3.ext hS_b7.ext,h4.ext hS_b7.ext,h5.ext hS_b7.ext,h6.ext hS_b7.ext⟩,b7,rfl,rfl,rfl,rfl,by omega,inferInstance⟩
 case hbody =>
  rintro l k x s' V hx ⟨h1,h2,h3,h4,h5,h6⟩ ⟨b7,ha3,ha5,ha6,ha7,hlb,hb7⟩ hl hr
  have hxm:=hmem x (List.mem_of_getElem? hx)
  have hnext:((ctxA ws i wd).take (k+1)).foldl (bestS (ordI ws side i)) none=bestS (ordI ws side i) (((ctxA ws i wd).take k).foldl (bestS (ordI ws side i)) none) x:=by rw [take_snoc_get hx,List.foldl_append,List.foldl_cons,List.foldl_nil]
  have hstk:=hst k
  refine W.fix (d:=3) ha3 (W.fix (d:=5) ha5 (W.fix (d:=6) ha6 (W.fix (d:=7) ha7 ?_)))
  clear ha3 ha5 ha6 ha7
  rw [hnext]
  generalize ((ctxA ws i wd).take k).foldl (bestS (ordI ws side i)) none=st at h5 h6 hstk hnext ⊢
  clear hnext
  have n56:b5≠b6:=by omega
  have n46:b4≠b6:=by omega
  have n45:b4≠b5:=by omega
  have n35:b3≠b5:=by omega
  have n36:b3≠b6:=by omega
  have hw5:b5<w_b6.heap.size:=by omega
  have hw6:b6<w_b6.heap.size:=by omega
  have hw5':w.heap.size≤b5:=by omega
  have hw6':w.heap.size≤b6:=by omega
  have:=Bk.toAt (h:=h5)
  have:=Bk.toAt (h:=h6)
  have:=Bk.toAt (h:=hb7)
  cases st with
  | none =>
    (refine jjD (jjB (jjC (jN rfl rfl rfl (jq rfl (jI (eB rfl) ?_)))));refine jU rfl rfl rfl rfl (jU rfl rfl rfl rfl (jU rfl rfl rfl rfl (jU rfl rfl rfl rfl (jU rfl rfl rfl rfl (jK rfl (eB rfl) ?_)))));refine jz (jjJ rfl (jjC (jO rfl rfl rfl rfl ?_))))
    refine Ops.store rfl rfl rfl rfl rfl ?_
    intro V2 hp2
    have k6:=hp2.bk (h6) (Ne.symm n56)
    have:=Bk.toAt (h:=k6)
    skip
    refine Ops.store rfl rfl rfl rfl rfl ?_
    intro V3 hp3
    (refine jz ?_)
    have z2:=hp2.size
    have z3:=hp3.size
    have k5:Bk V3 b5 (cxC ws i (some x)) 192:=hp3.bk ⟨hp2.new⟩ n56
    exact ⟨(hp2.tr ⟨_,(h5).h,rfl⟩).trans (hp3.tr ⟨_,k6.h,rfl⟩),(hp2.frS (by omega)).trans (hp3.frS (by omega)),hp3.ext (hp2.ext (h1) hw5') hw6',by omega,hp3.at_ (hp2.at_ (h3) n35) n36,hp3.bk (hp2.bk (h4) n45) n46,k5,⟨hp3.new⟩⟩
  | some b =>
    have hbm:=hmem b (hstk b rfl)
    have:=hr2.ext h1
    have:=hg.ext h1
    by_cases ho:ordI ws side i x b<0
    ·have e:bestS (ordI ws side i) (some b) x=some x:=if_pos ho
     rw [e]
     (refine jjD (jjB (jjC (jN rfl rfl rfl (jp rfl (jI (eB rfl) ?_)))));refine jT rfl rfl rfl (jN rfl rfl rfl (jT rfl rfl rfl (jO rfl rfl rfl rfl (jT rfl rfl rfl (jO rfl rfl rfl rfl ?_)))));refine jT rfl rfl rfl ?_)
     refine jjQ (slip1_slip br2 ws wd side i _ _ x b _ hs hxm.1 hbm.1 hxm.2 hbm.2) rfl rfl ?_
     rintro _ w2 hS2 rfl
     have f5:=h5.ext hS2.ext
     have:=Bk.toAt (h:=f5)
     have z9:=hS2.size
     (refine jT rfl rfl rfl (jjZ rfl rfl (by omega) (jL rfl (eB rfl) (jz (jjJ rfl (jjC ?_)))));refine jO rfl rfl rfl rfl ?_)
     refine Ops.store rfl rfl rfl rfl rfl ?_
     intro V2 hp2
     have k6:=hp2.bk (h6.ext hS2.ext) (Ne.symm n56)
     have:=Bk.toAt (h:=k6)
     skip
     refine Ops.store rfl rfl rfl rfl rfl ?_
     intro V3 hp3
     (refine jz ?_)
     have z2:=hp2.size
     have z3:=hp3.size
     have k5:Bk V3 b5 (cxC ws i (some x)) 192:=hp3.bk ⟨hp2.new⟩ n56
     exact ⟨hS2.ext.tr.trans ((hp2.tr ⟨_,(f5).h,rfl⟩).trans (hp3.tr ⟨_,k6.h,rfl⟩)),(Fr.ext hS2.ext).trans ((hp2.frS (by omega)).trans (hp3.frS (by omega))),hp3.ext (hp2.ext (h1.trans hS2.ext) hw5') hw6',by omega,hp3.at_ (hp2.at_ (h3.ext hS2.ext) n35) n36,hp3.bk (hp2.bk (h4.ext hS2.ext) n45) n46,k5,⟨hp3.new⟩⟩
    ·have e:bestS (ordI ws side i) (some b) x=some b:=if_neg ho
     rw [e]
     (refine jjD (jjB (jjC (jN rfl rfl rfl (jp rfl (jI (eB rfl) ?_)))));refine jT rfl rfl rfl (jN rfl rfl rfl (jT rfl rfl rfl (jO rfl rfl rfl rfl (jT rfl rfl rfl (jO rfl rfl rfl rfl ?_)))));refine jT rfl rfl rfl ?_)
     refine jjQ (slip1_slip br2 ws wd side i _ _ x b _ hs hxm.1 hbm.1 hxm.2 hbm.2) rfl rfl ?_
     rintro _ w2 hS2 rfl
     (refine jT rfl rfl rfl (jja rfl rfl (by omega) (jL rfl (eB rfl) (jz (jjK rfl (jjG ?_))))))
     have z9:=hS2.size
     exact ⟨hS2.ext.tr,Fr.ext hS2.ext,h1.trans hS2.ext,by omega,h3.ext hS2.ext,h4.ext hS2.ext,h5.ext hS2.ext,h6.ext hS2.ext⟩
 case hdone =>
  rintro ds' V hmk htr ⟨h1,h2,h3,h4,h5,h6⟩
  rw [List.take_length,←fstF,hbest] at h5
  have:=Bk.toAt (h:=h5)
  (refine jjB (jjC (jO rfl rfl rfl rfl ?_)))
  refine Ops.store rfl rfl rfl rfl rfl ?_
  intro V2 hp2
  have k4:Bk V2 b4 (cxC ws i (some (bestA ws side wd i))) 192:=⟨hp2.new⟩
  (refine jz (jjF ?_))
  refine fin1CM rfl rfl rfl k4 rfl rfl (hmk.tr (hp2.tr ⟨_,h4.h,rfl⟩)) fun w' g=>⟨(hp2.ext h1 (by omega)).ofGrow g (Nat.le_refl _),rfl⟩

theorem joinB_fit {ws:List ByteArray} (hsz:∀ s∈ws,s.size≤1000) (hn:ws.length≤1000000) (a b:Nat):(joinB ((ws.take b).drop a)).size≤140737488355328:=by
 have h1:=joinB_size ((ws.take b).drop a) (m:=1000) fun s h=>hsz s (List.mem_of_mem_take (List.mem_of_mem_drop h))
 have h2:((ws.take b).drop a).length≤1000000:=by rw [List.length_drop,List.length_take];omega
 have:=Nat.mul_le_mul_right (1000+1) h2
 omega
theorem bestA_in {ws:List ByteArray} {side W:Int} {i:Nat} (hi:i<ws.length):(bestA ws side W i).1≤i∧i≤(bestA ws side W i).2∧(bestA ws side W i).2<ws.length:=by
 have:=stB_in (side:=side) (W:=W) (a:=i+1) (m:=0) hi (Nat.le_refl _) (by omega) (.inr rfl)
 rwa [stB_zero,stA_end] at this
set_option maxHeartbeats 4000000 in
theorem slip_slip (ws:List ByteArray) (ps:List Pl) (wd side:Int) (i:Nat) (p:Pl) (wa:Option Addr) (wc:Nat) (aa:Option Addr) (ac:Nat) (w:World) (hp:ps[i]?=some p) (hl:ps.length=ws.length) (hsz:∀ s∈ws,s.size≤1000) (hn:ws.length≤1000000) (hW:0≤wd∧wd≤1000) (hs:1≤side∧side≤3) (hwi:∀ s∈ws,(s.size:Int)≤wd)
  (hRw:RowV w false 1 (.slice wa ws.length wc) (ws.map strV)) (hRa:RowV w true 3 (.slice aa ps.length ac) (ps.map encPl)) (hg:At w 1 0 sidesC) :
  Ct Tryz.prog 59 [.agg #[.int .i64 wd,.int .u8 side,.slice wa ws.length wc,.slice aa ps.length ac],.int .i64 (i:Int)] w fun v _=>v=encSl (slipX ws side wd i p):=by
 have hi:i<ws.length:=by have:=(List.getElem?_eq_some_iff.1 hp).1;omega
 have hip:i<ps.length:=by omega
 obtain ⟨bw,ow,rfl,hAw⟩:=hRw.place' (map_get hi)
 rw [Nat.mul_one] at hAw
 obtain ⟨ba,oa,rfl,hAp⟩:=hRa.place' (by rw [List.getElem?_map,hp];rfl)
 have hcw:=hRw.cap.2
 rw [List.length_map] at hcw
 have hlw:=hAw.lt
 have hla:=hAp.lt
 refine Ct.ofW (by simp) ?_
 (refine jjB (jjC ?_))
 (refine jy rfl ?_;intro b2 w_b2 hb_b2 hs_b2 hS_b2 hk_b2;have hA_b2:=At.ofBlock hk_b2)
 ((skip);refine jjY ?_;intro b4 w_b4 hb_b4 hs_b4 hS_b4 hk_b4;have hA_b4:=Bk.of hk_b4)
 (refine jz (jjB (jjC (jO rfl rfl rfl rfl (jI (eI rfl) ?_)))))
 refine jjQ (contexts_slip ws wd side i _ wc _ ps.length ac _) rfl rfl ?_
 rintro _ w2 hS2 ⟨bi,br,rfl,hAi,hAr⟩
 have hE2:Ext w w2:=inferInstance
 (refine jv ?_)
 refine jjQ (first_slip bi br b2 ws wd side i _ wc _ ps.length ac _ hi hsz hn hW hs (hwi _ (List.getElem_mem hi)) ⟨hAi,hAr,hRw.ext hE2⟩ inferInstance (hg.ext hE2)) rfl rfl ?_
 rintro _ w3 hS3 rfl
 obtain ⟨hin1,hin2,hin3⟩:=bestA_in (side:=side) (W:=wd) hi
 rw [slipX]
 generalize bestA ws side wd i=st at *
 skip
 (apply jjR rfl;(intro _;first|exact eI rfl|exact eB rfl|exact eP rfl|exact eS rfl|exact eT rfl|exact eA rfl|exact eU rfl|exact eF rfl|exact eM rfl|exact eN rfl|exact rfl);exact rfl;exact rfl;exact rfl;exact rfl;intro b5 w_b5 hb_b5 hs_b5 hS_b5 hk_b5;have hA_b5:=Bk.of hk_b5)
 (refine jz (jjB ?_))
 have hE5:Ext w w_b5:=inferInstance
 have z5:=hE5.size
 have hc1:=hRw.cut (lo:=st.1) (hi:=i) hin1 (by rw [List.length_map];omega)
 have hc2:=hRw.cut (lo:=i+1) (hi:=st.2+1) (by omega) (by rw [List.length_map];omega)
 rw [←List.map_take,←List.map_drop] at hc1 hc2
 have hd:ws.getD i ⟨#[]⟩=ws[i]:=by rw [List.getD_eq_getElem?_getD,List.getElem?_eq_getElem hi,Option.getD_some]
 rw [hd]
 have hb4:Bk w_b5 b4 [.int .i64 0,.int .i64 0,.int .i64 0,.string ⟨#[]⟩,.string ⟨#[]⟩,.string ⟨#[]⟩] 53:=inferInstance
 have hb2:At w_b5 b2 0 [.int .i64 wd,.int .u8 side,.slice (some ⟨bw,ow,none⟩) ws.length wc,.slice (some ⟨ba,oa,none⟩) ps.length ac]:=inferInstance
 have hb5:At w_b5 b5 0 [.int .i64 (st.1:Int),.int .i64 (i:Int),.int .i64 (st.2:Int),.int .i64 (lenX ws st)]:=inferInstance
 have hAw5:=hAw.ext hE5
 have hAp5:=hAp.ext hE5
 have z2:=hS2.size
 have z3:=hS3.size
 have n2:b2≠b4:=by omega
 have n5:b5≠b4:=by omega
 have nw:bw≠b4:=by omega
 have na:ba≠b4:=by omega
 refine W.draw (fun w'=>Only b4 w_b5 w') ?_
 intro wC hSC
 have hC:Ext w_b5 wC:=hSC.ext
 (refine jjV [0,1,2,3,4,5,6,7,8,9,10,11,12,13,14] ?_ ?_ ?_;(decide +kernel);(exact .ofExt hC);(((apply jjT;exact rfl;rintro w' hq;have:=hq.at_ hb2 n2;have:=hq.at_ hb5 n5;have:=hq.at_ hAw5 nw;have:=hq.at_ hAp5 na;refine jm (jn rfl (jz ?_));exact ⟨rfl,rfl⟩;apply jjT;exact rfl;rintro w' hq;have:=hq.at_ hb2 n2;have:=hq.at_ hb5 n5;have:=hq.at_ hAw5 nw;have:=hq.at_ hAp5 na;refine jN rfl rfl rfl (jz ?_);exact ⟨rfl,rfl⟩;apply jjT;exact rfl;rintro w' hq;have:=hq.at_ hb2 n2;have:=hq.at_ hb5 n5;have:=hq.at_ hAw5 nw;have:=hq.at_ hAp5 na;refine jI (eI rfl) (jz ?_);exact ⟨rfl,rfl⟩;apply jjT;exact rfl;rintro w' hq;have:=hq.at_ hb2 n2;have:=hq.at_ hb5 n5;have:=hq.at_ hAw5 nw;have:=hq.at_ hAp5 na;refine jH _ rfl rfl rfl (by omega) (jz ?_);exact ⟨rfl,rfl⟩;apply jjT;exact rfl;rintro w' hq;have:=hq.at_ hb2 n2;have:=hq.at_ hb5 n5;have:=hq.at_ hAw5 nw;have:=hq.at_ hAp5 na;refine jQ rfl rfl (jz ?_);exact ⟨rfl,rfl⟩;apply jjT;exact rfl;rintro w' hq;have:=hq.at_ hb2 n2;have:=hq.at_ hb5 n5;have:=hq.at_ hAw5 nw;have:=hq.at_ hAp5 na;refine jm (jn rfl (jz ?_));exact ⟨rfl,rfl⟩;apply jjT;exact rfl;rintro w' hq;have:=hq.at_ hb2 n2;have:=hq.at_ hb5 n5;have:=hq.at_ hAw5 nw;have:=hq.at_ hAp5 na;refine jN rfl rfl rfl (jz ?_);exact ⟨rfl,rfl⟩;apply jjT;exact rfl;rintro w' hq;have:=hq.at_ hb2 n2;have:=hq.at_ hb5 n5;have:=hq.at_ hAw5 nw;have:=hq.at_ hAp5 na;refine jI (eI rfl) (jz ?_);exact ⟨rfl,rfl⟩;apply jjT;exact rfl;rintro w' hq;have:=hq.at_ hb2 n2;have:=hq.at_ hb5 n5;have:=hq.at_ hAw5 nw;have:=hq.at_ hAp5 na;refine jG rfl rfl rfl (by omega) (jz ?_);exact ⟨rfl,rfl⟩;apply jjT;exact rfl;rintro w' hq;have:=hq.at_ hb2 n2;have:=hq.at_ hb5 n5;have:=hq.at_ hAw5 nw;have:=hq.at_ hAp5 na;refine jQ rfl rfl (jz ?_);exact ⟨rfl,rfl⟩;apply jjT;exact rfl;rintro w' hq;have:=hq.at_ hb2 n2;have:=hq.at_ hb5 n5;have:=hq.at_ hAw5 nw;have:=hq.at_ hAp5 na;refine jm (jn rfl (jz ?_));exact ⟨rfl,rfl⟩;apply jjT;exact rfl;rintro w' hq;have:=hq.at_ hb2 n2;have:=hq.at_ hb5 n5;have:=hq.at_ hAw5 nw;have:=hq.at_ hAp5 na;refine jN rfl rfl rfl (jz ?_);exact ⟨rfl,rfl⟩;apply jjT;exact rfl;rintro w' hq;have:=hq.at_ hb2 n2;have:=hq.at_ hb5 n5;have:=hq.at_ hAw5 nw;have:=hq.at_ hAp5 na;refine jm (jn rfl (jz ?_));exact ⟨rfl,rfl⟩;apply jjT;exact rfl;rintro w' hq;have:=hq.at_ hb2 n2;have:=hq.at_ hb5 n5;have:=hq.at_ hAw5 nw;have:=hq.at_ hAp5 na;refine jN rfl rfl rfl (jz ?_);exact ⟨rfl,rfl⟩;apply jjT;exact rfl;rintro w' hq;have:=hq.at_ hb2 n2;have:=hq.at_ hb5 n5;have:=hq.at_ hAw5 nw;have:=hq.at_ hAp5 na;refine jI (eI rfl) (jz ?_);exact ⟨rfl,rfl⟩;refine jjU ?_))))
 refine jjV [15] (by decide +kernel) (.ofExt hC) (jjT (v:=cutV (some ⟨bw,ow,none⟩) wc 1 st.1 i) rfl (fun w' q1=>?_) (jjU ?_));(refine Ops.sliceLHv (lo:=st.1) (hi:=i) rfl rfl rfl rfl rfl (by omega) (by omega) ?_;refine jz ?_;exact ⟨rfl,rfl⟩)
 (refine jjV [17,18,19,20,21,22,23] ?_ ?_ ?_;(decide +kernel);(exact .ofExt hC);(((apply jjT;exact rfl;rintro w' hq;have:=hq.at_ hb2 n2;have:=hq.at_ hb5 n5;refine jm (jn rfl (jz ?_));exact ⟨rfl,rfl⟩;apply jjT;exact rfl;rintro w' hq;have:=hq.at_ hb2 n2;have:=hq.at_ hb5 n5;refine jN rfl rfl rfl (jz ?_);exact ⟨rfl,rfl⟩;apply jjT;exact rfl;rintro w' hq;have:=hq.at_ hb2 n2;have:=hq.at_ hb5 n5;refine jI (eI rfl) (jz ?_);exact ⟨rfl,rfl⟩;apply jjT;exact rfl;rintro w' hq;have:=hq.at_ hb2 n2;have:=hq.at_ hb5 n5;refine jY rfl rfl (by omega) (jz ?_);exact ⟨rfl,rfl⟩;apply jjT;exact rfl;rintro w' hq;have:=hq.at_ hb2 n2;have:=hq.at_ hb5 n5;refine jm (jn rfl (jz ?_));exact ⟨rfl,rfl⟩;apply jjT;exact rfl;rintro w' hq;have:=hq.at_ hb2 n2;have:=hq.at_ hb5 n5;refine jN rfl rfl rfl (jz ?_);exact ⟨rfl,rfl⟩;apply jjT;exact rfl;rintro w' hq;have:=hq.at_ hb2 n2;have:=hq.at_ hb5 n5;refine jY rfl rfl (by omega) (jz ?_);exact ⟨rfl,rfl⟩;refine jjU ?_))))
 refine jjV [24] (by decide +kernel) (.ofExt hC) (jjT (v:=cutV (some ⟨bw,ow,none⟩) wc 1 (i+1) (st.2+1)) rfl (fun w' q1=>?_) (jjU ?_));(refine Ops.sliceLHv (lo:=i+1) (hi:=st.2+1) rfl rfl rfl rfl rfl (by omega) (by omega) ?_;refine jz ?_;exact ⟨rfl,rfl⟩)
 (apply jjW 16;(decide +kernel);exact rfl;(exact .ofExt hC))
 refine jjQ (Join_str _ _ _ ((ws.take i).drop st.1) _ (by rw [List.length_drop,List.length_take];omega) (hc1.ext (hE5.trans hC)) (joinB_fit hsz hn _ _)) rfl rfl ?_
 rintro _ wD hSD rfl
 refine jz ?_
 have hD:Ext w_b5 wD:=hC.trans hSD.ext
 (apply jjW 25;(decide +kernel);exact rfl;(exact .ofExt hD))
 refine jjQ (Join_str _ _ _ ((ws.take (st.2+1)).drop (i+1)) _ (by rw [List.length_drop,List.length_take];omega) (hc2.ext (hE5.trans hD)) (joinB_fit hsz hn _ _)) rfl rfl ?_
 rintro _ wE hSE rfl
 refine jz ?_
 have hE:Ext w_b5 wE:=hD.trans hSE.ext
 (apply jjW 26;(decide +kernel);exact rfl;(exact .ofExt hE))
 (refine jjS (cells:=[.int .i64 p.1,.int .i64 p.2.1,.int .i64 p.2.2,.string ws[i],.string (joinB ((ws.take i).drop st.1)),.string (joinB ((ws.take (st.2+1)).drop (i+1)))]) ?_ ?_;exact rfl)
 refine jz ?_
 (apply jjW 27;(decide +kernel);exact rfl;(exact .ofExt hE))
 have h4E:=hb4.ext hE
 refine Ops.store rfl rfl rfl rfl rfl ?_
 intro wF hpF
 refine jz ?_
 refine jjX (by decide +kernel) ((Only.ofExt hE).trans (.ofPut hpF)) ?_
 have k4:At wF b4 0 [.int .i64 p.1,.int .i64 p.2.1,.int .i64 p.2.2,.string ws[i],.string (joinB ((ws.take i).drop st.1)),.string (joinB ((ws.take (st.2+1)).drop (i+1)))]:=Bk.toAt (h:=⟨hpF.new⟩)
 (refine jjF ?_)
 refine fin1C rfl rfl rfl rfl rfl ⟨hpF.ext (hE5.trans hE) (by omega),rfl⟩

structure SlF (bt bc:Nat) (a:Option Addr) (c:Nat) (cs:List Ch) (wd side:Int) (w:World):Prop where
 txt:At w bt 0 [.slice a cs.length c]
 cut:At w bc 0 [.int .i64 wd,.int .u8 side]
 row:RowV w true 2 (.slice a cs.length c) (cs.map encCh)
 tx:TextI w cs
 sd:At w 1 0 sidesC
abbrev encSl1 (s:Slp):List Value:=[encSl s]
theorem cutB_in {wd side:Int} (h:cutB wd side=true):12≤wd∧wd≤80∧1≤side∧side≤3:=cutB_width h
theorem rnW_fit {cs:List Ch} {wd side:Int} (ht:textB (txF cs)=true) (hc:cutB wd side=true) {k:Nat} (hk:k<cs.length):∀ s∈rnW cs[k],(s.size:Int)≤wd:=fun s h=>by
 have:=word_short ht (k:=k) (by rw [txF_len];exact hk) (s:=s) (by rw [wsT_get hk];exact h)
 have:=cutB_in hc
 omega
set_option maxHeartbeats 2000000 in
theorem slips1_slip (bt bc:Nat) (a:Option Addr) (c:Nat) (cs:List Ch) (wd side:Int) (hs:SmallT cs) (ht:textB (txF cs)=true) (hc:cutB wd side=true) :
  Iter Tryz.prog 57 [.pointer (some ⟨bt,0,none⟩),.pointer (some ⟨bc,0,none⟩)] (allS (txF cs) side wd) encSl1 (SlF bt bc a c cs wd side):=by
 intro l J Jx M w hJ hJx hF hM1 hM2 hY h0
 have hs1:=hs.1
 have hcb:=cutB_in hc
 have hF0:=hF 0 w h0
 have:=hF0.txt
 refine Calls.ofW (by simp) ?_
 (refine jjB (jjC (jm (jn rfl (jN rfl rfl rfl (jh rfl ?_)))));refine jI (eI rfl) (jz (jjD ?_)))
 refine W.keep0 [(0,.func (.yield l) #[] #[]),(1,.pointer (some ⟨bt,0,none⟩)),(2,.pointer (some ⟨bc,0,none⟩)),(9,.int .i64 (cs.length:Int)),(10,.int .i64 ((0:Nat):Int))] ⟨eF rfl,eP rfl,eP rfl,eI rfl,eI rfl,trivial⟩ fun s0=>?_
 refine W.loopG (11::12::4::13::14::15::16::5::17::18::19::20::21::22::6::23::24::25::26::27::28::29::30::10::[]) (fun g s' w'=>∃ k:Nat,s' 10=.int .i64 ((k:Nat):Int)∧k≤cs.length∧g=cs.length-k∧J (slA (txF cs) side wd k).length w') cs.length ⟨0,rfl,by omega,rfl,h0⟩ ?_
 rintro _ sd w' ⟨k,h10,hk,rfl,hJk⟩
 refine W.fix h10 ?_
 clear h10
 have hFk:=hF _ _ hJk
 have:=hFk.txt
 have:=hFk.cut
 by_cases hkc:k<cs.length
 rotate_left
 ·obtain rfl:k=cs.length:=by omega
  (refine jjB (jjC (jja rfl rfl (by omega) (jz (jjB (jjK rfl ?_)))));refine jjE ?_;refine jA rfl ⟨⟨_,rfl⟩,?_⟩)
  refine .inl ?_
  rw [←slA_end,txF_len];exact hJk
 have i1:RowI w' (.slice a cs.length c) true 2 (cs.map encCh):=⟨hFk.row⟩
 have i2:TextI w' cs:=hFk.tx
 (refine jjB (jjC (jjZ rfl rfl (by omega) (jz (jjB (jjJ rfl ?_)))));refine jjG (jjB (jjD (jjB (jjC (jI (eI rfl) ?_)))));refine jJ (eI rfl) (jz (jjB (jjC (jO rfl rfl rfl rfl (jO rfl rfl rfl rfl ?_)))));refine jI (eI rfl) ?_)
 have hget:∀ i (_:i<(rnW cs[k]).length),∃ p,(runA k (chW cs[k]))[i]?=some p∧(allS (txF cs) side wd)[(slA (txF cs) side wd k).length+i]?=some (slipX (rnW cs[k]) side wd i p):=fun i hi=>by
  have hi2:i<(runA k (chW cs[k])).length:=by rw [runA_len];exact hi
  obtain ⟨p,hp0⟩:∃ p,(runA k (chW cs[k]))[i]?=some p:=⟨_,List.getElem?_eq_getElem hi2⟩
  have hp:=hp0
  rw [←wsT_get hkc] at hp
  have h1:=slA_get (side:=side) (W:=wd) (n:=(txF cs).length) (by rw [txF_len];exact hkc) hp
  rw [slA_end,slP_eq (by rw [txF_len];exact hkc) hp,wsT_get hkc] at h1
  exact ⟨p,hp0,h1⟩
 have hnext:(slA (txF cs) side wd k).length+(rnW cs[k]).length=(slA (txF cs) side wd (k+1)).length:=by
  rw [slA_succ,List.length_append,slsN_len (Nat.le_refl _),wsT_get hkc]
 obtain ⟨hn,hsz⟩:=rnW_small hs hkc
 have hwi:=rnW_fit ht hc hkc
 have hlen:(runA k (chW cs[k])).length=(rnW cs[k]).length:=runA_len _ _
 refine jjQ (runs_slip a c cs _ hs wd side k hkc) rfl rfl ?_
 rintro _ w2 hS2 ⟨wv,av,rfl,hOw,hOa⟩
 generalize rnW cs[k]=ws at *
 generalize runA k (chW cs[k])=ps at *
 generalize (slA (txF cs) side wd k).length=L at *
 obtain ⟨wa,wc,rfl⟩:=hOw.slice
 obtain ⟨aa,ac,rfl⟩:=hOa.slice
 rw [List.length_map] at hOw hOa ⊢
 rw [List.length_map]
 skip
 (apply jjR rfl;(intro _;first|exact eI rfl|exact eB rfl|exact eP rfl|exact eS rfl|exact eT rfl|exact eA rfl|exact eU rfl|exact eF rfl|exact eM rfl|exact eN rfl|exact rfl);exact rfl;exact rfl;exact rfl;exact rfl;intro b5 w_b5 hb_b5 hs_b5 hS_b5 hk_b5;have hA_b5:=Bk.of hk_b5)
 (refine jz (jjB (jjC (jm (jn rfl (jN rfl rfl rfl ?_)))));refine jh rfl (jI (eI rfl) (jz (jjD ?_))))
 have hE5:Ext w' w_b5:=hS2.ext.trans hS_b5.ext
 have hJ5:=hJ _ _ _ hJk hE5
 have hMx:∀ g,w'.heap.size≤g→¬ M w_b5 g:=fun g hg hm=>by
  have:=hM1 _ _ _ hJk (hM2 _ _ _ _ hJk hE5 hm)
  omega
 have z2:=hS2.size
 have hOw0:=hOw
 have hOa0:=hOa
 refine W.keep [(0,.func (.yield l) #[] #[]),(1,.pointer (some ⟨bt,0,none⟩)),(2,.pointer (some ⟨bc,0,none⟩)),(9,.int .i64 (cs.length:Int)),(10,.int .i64 ((k:Nat):Int)),(5,.pointer (some ⟨b5,0,none⟩)),(19,.int .i64 (ws.length:Int)),(20,.int .i64 ((0:Nat):Int))] (D:=(11::12::4::13::14::15::16::5::17::18::19::20::21::22::6::23::24::25::26::27::28::29::30::10::[])) (sO:=upds s0 _) (by (((iterate 13 refine Same.upd rfl ?_);exact Same.ovN))) ⟨eF rfl,eP rfl,eP rfl,eI rfl,eI rfl,eP rfl,eI rfl,eI rfl,trivial⟩ fun s1 hs1'=>?_
 refine W.loopG (21::22::6::23::24::25::26::27::28::29::20::[]) (fun g s' V=>∃ i:Nat,s' 20=.int .i64 ((i:Nat):Int)∧i≤ws.length∧g=ws.length-i∧J (L+i) V∧Bk V b5 [.int .i64 wd,.int .u8 side,.slice wa ws.length wc,.slice aa ps.length ac] 133∧(∀ g,w'.heap.size≤g→g<w_b5.heap.size→¬ M V g)∧w_b5.heap.size≤V.heap.size∧OwnL V w'.heap.size 9 false 1 (.slice wa ws.length wc) (ws.map strV)∧OwnL V w'.heap.size 48 true 3 (.slice aa ps.length ac) (ps.map encPl)) ws.length ⟨0,rfl,by omega,rfl,hJ5,inferInstance,fun g hg _=>hMx g hg,Nat.le_refl _,hOw.ext hS_b5.ext,hOa.ext hS_b5.ext⟩ ?_
 rintro _ sd2 V ⟨i,h20,hi,rfl,hJi,hB5,hMV,hzV,hOw,hOa⟩
 refine W.fix h20 ?_
 clear h20
 by_cases hil:i<ws.length
 rotate_left
 ·obtain rfl:i=ws.length:=by omega
  (refine jjB (jjC (jja rfl rfl (by omega) (jz (jjB (jjK rfl ?_)))));refine jjE (jjC (jY rfl rfl (by omega) (jI (eI rfl) (jz ?_)))))
  exact ⟨rfl,by (((iterate 4 refine Same.upd rfl ?_);refine Same.ovN' rfl ?_;assumption)),cs.length-(k+1),by omega,k+1,congrArg (Value.int .i64) (by omega),by omega,rfl,hnext ▸ hJi⟩
 obtain ⟨p,hp,hall⟩:=hget i hil
 have:=Bk.toAt (h:=hB5)
 have hRw:=hOw.row
 have hRa:=hOa.row
 have hgs:=(hF _ _ hJi).sd
 (refine jjB (jjC (jjZ rfl rfl (by omega) (jz (jjB (jjJ rfl ?_)))));refine jjG (jjB (jjD (jjB (jjC (jI (eI rfl) ?_)))));refine jJ (eI rfl) (jz (jjB (jjC (jI (eF rfl) (jO rfl rfl rfl rfl ?_)))));refine jI (eI rfl) ?_)
 refine jjQ (slip_slip ws ps wd side i p wa wc aa ac _ hp hlen hsz hn (by omega) (by omega) hwi hRw hRa hgs) rfl rfl ?_
 rintro _ V2 hSV rfl
 have hJ2:=hJ _ _ _ hJi hSV.ext
 have hB52:=hB5.ext hSV.ext
 have hM2':∀ g,w'.heap.size≤g→g<w_b5.heap.size→¬ M V2 g:=fun g h1 h2 hm=>hMV g h1 h2 (hM2 _ _ _ _ hJi hSV.ext hm)
 have hOw2:=hOw.ext hSV.ext
 have hOa2:=hOa.ext hSV.ext
 have zV2:=hSV.size
 skip
 refine Ops.yield (hY _ _ _ hall hJ2) rfl rfl ?_
 rintro e V3 (⟨rfl,hJ3,hFr⟩|⟨rfl,hJx3⟩)
 ·refine ⟨_,rfl,?_⟩
  (refine jp rfl (jz (jjK rfl (jjG (jjC (jY rfl rfl (by omega) ?_)))));refine jI (eI rfl) (jz ?_))
  have zF:=hFr.size
  exact ⟨rfl,by (((iterate 12 refine Same.upd rfl ?_);exact Same.ovN)),ws.length-(i+1),by omega,i+1,congrArg (Value.int .i64) (by omega),by omega,rfl,hJ3,⟨hFr.keep _ _ hB52.h rfl (hM2' b5 (by omega) (by omega))⟩,fun g h1 h2 hm=>(hFr.own g hm).elim (hM2' g h1 h2) (fun h=>by omega),by omega,hOw2.fr hFr (fun g hg=>hM2' g (hOw0.block g hg).1 (by have:=(hOw0.block g hg).2;omega)),hOa2.fr hFr (fun g hg=>hM2' g (hOa0.block g hg).1 (by have:=(hOa0.block g hg).2;omega))⟩
 ·refine ⟨_,rfl,?_⟩
  (refine jq rfl (jz (jjJ rfl (jjF ?_)));refine jA rfl ⟨⟨_,rfl⟩,?_⟩)
  exact .inr ⟨_,(List.getElem?_eq_some_iff.1 hall).1,hJx3⟩
theorem slips_slip (a:Option Addr) (c:Nat) (cs:List Ch) (wd side:Int) (w:World):Ct Tryz.prog 25 [.agg #[.slice a cs.length c],encCut wd side] w fun v w'=>∃ bt bc,v=.func (.func 57) #[] ([.pointer (some ⟨bt,0,none⟩),.pointer (some ⟨bc,0,none⟩)]:List Value).toArray∧(w.heap.size≤bt∧w.heap.size≤bc)∧At w' bt 0 [.slice a cs.length c]∧At w' bc 0 [.int .i64 wd,.int .u8 side]:=by
 refine Ct.ofW (by simp) ?_
 (refine jjB (jjC ?_))
 (refine jy rfl ?_;intro bt w_bt hb_bt hs_bt hS_bt hk_bt;have hA_bt:=At.ofBlock hk_bt)
 skip
 (refine jy rfl ?_;intro bc w_bc hb_bc hs_bc hS_bc hk_bc;have hA_bc:=At.ofBlock hk_bc)
 (refine jJ rfl (jz (jjB (jjC (jv (jJ (eF rfl) ?_)))));refine jz (jjF ?_);refine jB rfl rfl ⟨inferInstance,?_⟩)
 exact ⟨bt,bc,rfl,⟨by omega,by omega⟩,inferInstance,inferInstance⟩

def idxZ (o:Option Nat):Int:=match o with
 | some i=>(i:Int)
 | none=>-1
set_option maxHeartbeats 1000000 in
theorem Index_pl (a:Option Addr) (c n:Nat) (l:List Pl) (p:Pl) (w:World) (hn:l.length=n) (hd:l.Nodup) (hrow:RowV w true 3 (.slice a n c) (l.map encPl)):Ct Tryz.prog 77 [.slice a n c,encPl p] w fun v _=>v=.int .i64 (idxZ (idP l p)):=by
 subst hn
 have hlen:=hrow.len
 rw [List.length_map] at hlen
 refine Ct.ofW (by simp) ?_
 (refine jjB (jjC ?_))
 (refine jy rfl ?_;intro b3 w_b3 hb_b3 hs_b3 hS_b3 hk_b3;have hA_b3:=At.ofBlock hk_b3)
 (refine jJ (eI rfl) (jz (jjB (jjB (jjC (jI (eS rfl) ?_)))));refine jh rfl (jI (eI rfl) (jz (jjD ?_))))
 refine W.keep0 [(0,.slice a l.length c),(3,.pointer (some ⟨b3,0,none⟩)),(7,.int .i64 ((l.length:Nat):Int)),(8,.int .i64 ((0:Nat):Int))] ⟨eS rfl,eP rfl,eI rfl,eI rfl,trivial⟩ fun s0=>?_
 refine W.loop (9::10::5::11::12::13::14::15::16::17::4::18::8::[]) (fun g s' V=>∃ k:Nat,s' 8=.int .i64 ((k:Nat):Int)∧g=l.length-k∧k≤l.length∧∀ (j:Nat) (hj:j<l.length),j<k→l[j]≠p) l.length ⟨0,rfl,rfl,Nat.zero_le _,by intros;omega⟩ ?_
 rintro _ sd w1 hS1 ⟨k,h8,rfl,hk,hpre⟩
 refine W.fix h8 ?_
 clear h8
 by_cases hkl:k<l.length
 rotate_left
 ·have e:idP l p=none:=idP_none fun hm=>by
   obtain ⟨j,hj,e⟩:=List.mem_iff_getElem.1 hm
   exact hpre j hj (by omega) e
  (refine jjB (jjC (jja rfl rfl (by omega) (jz (jjB (jjK rfl ?_)))));refine jjE (jjB (jjC (jJ (eI rfl) (jz (jjF ?_)))));refine jB rfl rfl ⟨inferInstance,?_⟩)
  rw [e];exact rfl
 obtain ⟨b',o',rfl,hA⟩:=hrow.place' (map_get hkl)
 (refine jjB (jjC (jjZ rfl rfl (by omega) (jz (jjB (jjJ rfl ?_)))));refine jjG (jjB (jjD (jjB (jjC (jI (eI rfl) ?_)))));refine jJ (eI rfl) (jz (jjB ?_)))
 refine W.draw (fun w'=>Ext w_b3 w') ?_
 intro w2 hS2
 have hE2:Ext w_b3 w2:=hS1.ext.trans hS2.ext
 (refine jjV [0,1,2,3,4] ?_ ?_ ?_;(decide +kernel);(exact hE2);(((apply jjT;exact rfl;rintro w' hq;have:=hq.toStep;refine jO rfl rfl rfl rfl (jz ?_);exact ⟨rfl,rfl⟩;refine jjT rfl (fun _ _=>jI (eS rfl) (jz ⟨rfl,rfl⟩)) (jjT rfl (fun _ _=>jI (eI rfl) (jz ⟨rfl,rfl⟩)) ?_);apply jjT;exact rfl;rintro w' hq;have:=hq.toStep;refine jH _ rfl rfl rfl (by omega) (jz ?_);exact ⟨rfl,rfl⟩;apply jjT;exact rfl;rintro w' hq;have:=hq.toStep;refine jQ rfl rfl (jz ?_);exact ⟨rfl,rfl⟩;refine jjU ?_))))
 by_cases hkj:p=l[k]
 ·have e:idP l p=some k:=idP_some hd (by rw [List.getElem?_eq_getElem hkl,hkj])
  refine jjV [5] (by decide +kernel) hE2 (jjT (v:=.bool true) rfl (fun w' q1=>?_) (jjU ?_));(refine Ops.eqlT (enc:=encPl) p l[k] rfl rfl ?_;rw [decide_eq_true hkj];refine jz ?_;exact ⟨rfl,rfl⟩)
  refine jjX (by decide +kernel) hE2 ?_
  (refine jjJ rfl (jjB (jjC (jI (eI rfl) (jJ (eI rfl) (jz ?_)))));refine jjF ?_;refine jB rfl rfl ⟨inferInstance,?_⟩)
  rw [e];exact rfl
 ·refine jjV [5] (by decide +kernel) hE2 (jjT (v:=.bool false) rfl (fun w' q1=>?_) (jjU ?_));(refine Ops.eqlT (enc:=encPl) p l[k] rfl rfl ?_;rw [decide_eq_false hkj];refine jz ?_;exact ⟨rfl,rfl⟩)
  refine jjX (by decide +kernel) hE2 ?_
  (refine jjK rfl (jjG (jjC (jY rfl rfl (by omega) (jI (eI rfl) (jz ?_))))))
  refine ⟨rfl,by (((iterate 12 refine Same.upd rfl ?_);exact Same.ovN)),l.length-(k+1),by omega,inferInstance,k+1,congrArg (Value.int .i64) (by omega),rfl,by omega,fun j hj hjk=>?_⟩
  by_cases e:j=k
  ·subst e;exact fun h=>hkj h.symm
  ·exact hpre j hj (by omega)

section
variable (a:Option Addr) (c:Nat) (cs:List Ch) (wd side:Int) (w:World) [hrow:RowI w (.slice a cs.length c) true 2 (cs.map encCh)] [hT:TextI w cs] [hgs:At w 1 0 sidesC]
set_option maxHeartbeats 2000000 in
theorem made_slip (p:Pl) (hs:SmallT cs) (ht:textB (txF cs)=true) (hc:cutB wd side=true):Ct Tryz.prog 36 [.agg #[.slice a cs.length c],encCut wd side,encPl p] w fun v _=>v=.tuple #[encSl ((makeF (txF cs) side wd p).getD noSl),.bool (makeF (txF cs) side wd p).isSome]:=by
 have hs1:=hs.1
 have hcb:=cutB_in hc
 refine Ct.ofW (by simp) ?_
 (refine jjB (jjC ?_))
 (refine jy rfl ?_;intro b3 w_b3 hb_b3 hs_b3 hS_b3 hk_b3;have hA_b3:=At.ofBlock hk_b3)
 skip
 (refine jy rfl ?_;intro b4 w_b4 hb_b4 hs_b4 hS_b4 hk_b4;have hA_b4:=At.ofBlock hk_b4)
 skip
 (refine jy rfl ?_;intro b5 w_b5 hb_b5 hs_b5 hS_b5 hk_b5;have hA_b5:=At.ofBlock hk_b5)
 ((skip);refine jjY ?_;intro b6 w_b6 hb_b6 hs_b6 hS_b6 hk_b6;have hA_b6:=Bk.of hk_b6)
 (refine jJ (eB rfl) (jz (jjB (jjB (jjC (jm ?_)))));refine jn rfl (jN rfl rfl rfl (jh rfl (jZ rfl rfl (by omega) (jm (jn rfl ?_)))));refine jN rfl rfl rfl ?_)
 (refine jjP (v:=.int _ _) rfl (by exact rfl) (by exact rfl) (by exact rfl) (by exact rfl) ?_;intro b7 w_b7 hb_b7 hs_b7 hS_b7 hk_b7;have hR_b7:=RowV.one (agg:=false) (k:=1) rfl hk_b7)
 obtain ⟨B1,h1⟩:∃ B,inB 0 ((cs.length:Int)-1) p.1=B:=⟨_,rfl⟩
 skip
 refine jjQ (inOne_slip 0 ((cs.length:Int)-1) p.1 b7 B1 _ h1 hR_b7) rfl rfl ?_
 rintro _ w8 hS8 rfl
 have hb6:Bk w8 b6 [.int .i64 0,.int .i64 0,.int .i64 0,.string ⟨#[]⟩,.string ⟨#[]⟩,.string ⟨#[]⟩] 53:=inferInstance
 have hE8:Ext w w8:=inferInstance
 cases B1
 ·have e:makeF (txF cs) side wd p=none:=makeF_no (by rw [txF_len];simp [inB] at h1;omega)
  (refine jq rfl (jz (jjJ rfl (jjB (jjC ?_)))))
  (refine jjS (cells:=[.int .i64 0,.int .i64 0,.int .i64 0,.string ⟨#[]⟩,.string ⟨#[]⟩,.string ⟨#[]⟩]) ?_ ?_;exact rfl)
  skip
  refine Ops.store rfl rfl rfl rfl rfl ?_
  intro V2 hp2
  have:=Bk.toAt (h:=Bk.of hp2.new)
  (refine jJ (eB rfl) (jz (jjF ?_)))
  refine fin2C rfl rfl rfl rfl rfl rfl ⟨hp2.ext hE8 (by omega),?_⟩
  rw [e];exact rfl
 obtain ⟨k,hk,hpk⟩:∃ k:Nat,k<cs.length∧p.1=k:=⟨p.1.toNat,by simp [inB] at h1;omega,by simp [inB] at h1;omega⟩
 have hmk:=makeF_in (side:=side) (W:=wd) (k:=k) (t:=txF cs) (by rw [txF_len];exact hk) hpk
 rw [wsT_get hk] at hmk
 obtain ⟨hn,hsz⟩:=rnW_small hs hk
 have hwi:=rnW_fit ht hc hk
 have hlen:(runA k (chW cs[k])).length=(rnW cs[k]).length:=runA_len _ _
 have hnd:=runA_nodup k (chW cs[k])
 have hst:∀ i,slK side wd k (chW cs[k]) i=slipX (rnW cs[k]) side wd i ((runA k (chW cs[k])).getD i (0,0,0)):=fun i=>rfl
 have hb5':At w8 b5 0 [.int .i64 (k:Int),.int .i64 p.2.1,.int .i64 p.2.2]:=by
  have h:At w8 b5 0 [.int .i64 p.1,.int .i64 p.2.1,.int .i64 p.2.2]:=inferInstance
  rwa [hpk] at h
 obtain ⟨p1,p2,p3⟩:=p
 obtain rfl:p1=(k:Int):=hpk
 (refine jp rfl (jz (jjK rfl (jjG (jjB (jjC ?_)))));refine jO rfl rfl rfl rfl (jO rfl rfl rfl rfl (jm (jn rfl (jN rfl rfl rfl ?_)))))
 refine jjQ (runs_slip a c cs _ hs wd side k hk) rfl rfl ?_
 rintro _ w9 hS9 ⟨wv,av,rfl,hOw,hOa⟩
 generalize rnW cs[k]=ws at *
 generalize hps:runA k (chW cs[k])=ps at *
 obtain ⟨wa,wc,rfl⟩:=hOw.slice
 obtain ⟨aa,ac,rfl⟩:=hOa.slice
 rw [List.length_map] at hOw hOa ⊢
 rw [List.length_map]
 skip
 (apply jjR rfl;(intro _;first|exact eI rfl|exact eB rfl|exact eP rfl|exact eS rfl|exact eT rfl|exact eA rfl|exact eU rfl|exact eF rfl|exact eM rfl|exact eN rfl|exact rfl);exact rfl;exact rfl;exact rfl;exact rfl;intro b8 w_b8 hb_b8 hs_b8 hS_b8 hk_b8;have hA_b8:=Bk.of hk_b8)
 (refine jz (jjB (jjC (jm (jn rfl (jN rfl rfl rfl ?_)))));refine jO rfl rfl rfl rfl ?_)
 obtain ⟨o,ho⟩:∃ o,idP ps ((k:Int),p2,p3)=o:=⟨_,rfl⟩
 rw [ho] at hmk
 refine jjQ ((Index_pl aa ac _ ps ((k:Int),p2,p3) _ rfl hnd (hOa.ext hS_b8.ext).row).mono fun v _ _ e=>e.trans (by rw [ho])) rfl rfl ?_
 rintro _ wA hSA rfl
 have hE9:Ext w8 wA:=(hS9.ext.trans hS_b8.ext).trans hSA.ext
 have hb6A:=hb6.ext hE9
 cases o with
 | none =>
   rw [show idxZ none=-1 from rfl]
   (refine jJ (eI rfl) (jz (jjB (jjB (jjC (jI (eI rfl) ?_)))));refine jjZ rfl rfl (by omega) (jz (jjJ rfl (jjB (jjC ?_)))))
   (refine jjS (cells:=[.int .i64 0,.int .i64 0,.int .i64 0,.string ⟨#[]⟩,.string ⟨#[]⟩,.string ⟨#[]⟩]) ?_ ?_;exact rfl)
   skip
   refine Ops.store rfl rfl rfl rfl rfl ?_
   intro V2 hp2
   have:=Bk.toAt (h:=Bk.of hp2.new)
   (refine jJ (eB rfl) (jz (jjF ?_)))
   refine fin2C rfl rfl rfl rfl rfl rfl ⟨hp2.ext (hE8.trans hE9) (by omega),?_⟩
   rw [hmk];exact rfl
 | some i =>
   have hp:=idP_get ho
   have hw:ws.length≤1000000:=hn
   rw [show idxZ (some i)=(i:Int) from rfl]
   (refine jJ (eI rfl) (jz (jjB (jjB (jjC (jI (eI rfl) ?_)))));refine jja rfl rfl (by omega) (jz (jjK rfl (jjG (jjB (jjC ?_)))));refine jO rfl rfl rfl rfl (jI (eI rfl) ?_))
   refine jjQ (slip_slip ws ps wd side i ((k:Int),p2,p3) wa wc aa ac _ hp hlen hsz hn (by omega) (by omega) hwi ((hOw.ext hS_b8.ext).ext hSA.ext).row ((hOa.ext hS_b8.ext).ext hSA.ext).row inferInstance) rfl rfl ?_
   rintro _ wB hSB rfl
   have hb6B:=hb6A.ext hSB.ext
   skip
   refine Ops.store rfl rfl rfl rfl rfl ?_
   intro V2 hp2
   have:=Bk.toAt (h:=Bk.of hp2.new)
   (refine jJ (eB rfl) (jz (jjF ?_)))
   refine fin2C rfl rfl rfl rfl rfl rfl ⟨hp2.ext ((hE8.trans hE9).trans hSB.ext) (by omega),?_⟩
   rw [hmk,Option.map_some,hst,List.getD_eq_getElem?_getD,hp];exact rfl
end

theorem one_sl (x:Slp):[encSl x].all (fun v=>v.cells.toList.all (·.oneCell'))=true:=rfl
theorem AppendSeq_sl (xs:List Slp) (gf:Nat) (lb:List Value) (Fct:World→Prop) (w:World) (hit:Iter Tryz.prog gf lb xs (fun s=>[encSl s]) Fct) [he:Enters Tryz.prog gf] (hF:∀ w',Ext w w'→Fct w') (hlen:xs.length≤1000000) :
  Ct Tryz.prog 56 [.slice none 0 0,.func (.func gf) #[] lb.toArray] w fun v w'=>OwnL w' w.heap.size 53 true 6 v (xs.map encSl):=by
 refine Ct.ofWM (by simp) ?_
 (refine jjB (jjC ?_))
 (refine jy rfl ?_;intro b2 w_b2 hb_b2 hs_b2 hS_b2 hk_b2;have hA_b2:=At.ofBlock hk_b2)
 have hBk:=Bk.of (cs:=[.slice none 0 0]) hk_b2
 (refine jJ (eS rfl) (jz (jjB (jjB (jjC (jI (eF rfl) ?_)))));refine jz (jjD ?_))
 have hsz:=hS_b2.size
 refine W.rangeM w.heap.size xs (fun s=>[encSl s]) hit rfl (fun _=>rfl) trivial inferInstance hsz
  (fun i V=>Ext w V∧w_b2.heap.size≤V.heap.size∧∃ v,Bk V b2 [v] 36∧OwnL V w_b2.heap.size 53 true 6 v ((xs.take i).map encSl))
  (fun _ _ _=>False) ?hJ (fun _ _ _ _ h _=>h) (fun i V h=>hF V h.1) ⟨inferInstance,Nat.le_refl _,_,hBk,OwnL.nil _ _ _ _ _⟩
  (MB w_b2.heap.size b2) ?hW1 ?hW2 ?hW3 (fun x s' V=>∃ b5,s' 2=.pointer (some ⟨b2,0,none⟩)∧s' 5=.pointer (some ⟨b5,0,none⟩)∧Bk V b5 (encSl x).cells.toList 53) (fun x s V V' ⟨b5,h1,h2,h3⟩ g=>⟨b5,h1,h2,h3.grow g⟩) ?hassign ?hbody ?hdone (fun _ _ _ _ _ _ _ h=>h.elim)
 case hJ =>
  rintro i V V' ⟨h1,h2,v,h3,h4⟩ g
  exact ⟨h1.ofGrow g hsz,Nat.le_trans h2 g.size,v,h3.grow g,h4.grow g⟩
 case hW1=>exact fun i V k ⟨h1,h2,v,h3,h4⟩ h=>MB.lt h2 h3 h4 h
 case hW2=>exact fun i V V' k ⟨h1,h2,v,h3,h4⟩ g h=>MB.back h3 g h
 case hW3=>exact fun V V' k g h=>.inl (MB.grow (by omega) g h)
 case hassign =>
  rintro l i x V hx ⟨h1,h2,v,h3,h4⟩ hl hr
  (refine jjC ?_)
  (apply jjR rfl;(intro _;first|exact eI rfl|exact eB rfl|exact eP rfl|exact eS rfl|exact eT rfl|exact eA rfl|exact eU rfl|exact eF rfl|exact eM rfl|exact eN rfl|exact rfl);exact rfl;exact rfl;exact rfl;exact rfl;intro b5 w_b5 hb_b5 hs_b5 hS_b5 hk_b5;have hA_b5:=Bk.of hk_b5)
  (refine jz ?_)
  exact ⟨rfl,hS_b5.ext.tr,Fr.ofExt hS_b5.ext fun k hk=>.inl (MB.same h3 (h3.ext hS_b5.ext) hk),⟨h1.trans hS_b5.ext,by have:=hS_b5.size;omega,v,h3.ext hS_b5.ext,h4.ext hS_b5.ext⟩,b5,rfl,rfl,inferInstance⟩
 case hbody =>
  rintro l i x s' V hx ⟨h1,h2,v,h3,h4⟩ ⟨b5,ha2,ha5,hb5⟩ hl hr
  have hlt:=(List.getElem?_eq_some_iff.1 hx).1
  refine W.fix (d:=2) ha2 (W.fix (d:=5) ha5 ?_)
  have hb5':Bk V b5 [.int .i64 x.1.1,.int .i64 x.1.2.1,.int .i64 x.1.2.2,.string x.2.1,.string x.2.2.1,.string x.2.2.2] 53:=hb5
  (refine jjD (jjC (jN rfl rfl rfl (jO rfl rfl rfl rfl ?_))))
  (refine jjP (v:=.agg _) rfl (by exact rfl) (by exact rfl) (by exact rfl) (by exact rfl) ?_;intro b10 w_b10 hb_b10 hs_b10 hS_b10 hk_b10;have hR_b10:=RowV.one (agg:=true) (k:=6) rfl hk_b10)
  have hown:=h4.ext hS_b10.ext
  have hz10:=hS_b10.size
  have hR1:RowV w_b10 true 6 (.slice (some ⟨b10,0,none⟩) 1 1) [encSl x]:=hR_b10
  refine Ops.appendL hown (by omega) hR1 rfl rfl rfl rfl (one_sl x) ?_ ?_ ?_
  ·simp;omega
  ·simp;omega
  intro v2 V2 hA hO _ hown2
  obtain ⟨a2,c2,rfl⟩:=hO.slice
  have hb2:∀ g,v.ownBlock=some g→w_b2.heap.size≤g:=fun g hg=>(h4.block g hg).1
  have hne:v.ownBlock≠some b2:=fun e=>by have:=hb2 b2 e;omega
  have hB2:Bk V2 b2 [v] 36:=hA.bk (h3.ext hS_b10.ext) hne
  skip
  refine Ops.store rfl rfl rfl rfl rfl ?_
  intro V3 hp3
  (refine jz ?_)
  have hB3:Bk V3 b2 [.slice a2 (List.map encSl (xs.take i)++[encSl x]).length c2] 36:=⟨hp3.new⟩
  have hne2:(Value.slice a2 (List.map encSl (xs.take i)++[encSl x]).length c2).ownBlock≠some b2:=fun e=>by rcases hown2 with h|h<;>rw [h] at e;exact hne e;cases e;omega
  refine ⟨(hS_b10.ext.tr.trans hA.tr).trans (hp3.tr ⟨_,hB2.h,rfl⟩),?_,hp3.ext (hA.ext (h1.trans hS_b10.ext) hsz) (by omega),?_,_,hB3,?_⟩
  ·exact (Fr.ofExt hS_b10.ext fun k hk=>.inl (MB.same h3 (h3.ext hS_b10.ext) hk)).trans (MB.append (by omega) (h3.ext hS_b10.ext) hA hp3 hB3 hown2)
  ·have:=hA.g.size;rw [hp3.size];omega
  ·rw [take_snoc_get hx,List.map_append]
   exact hO.put hp3 hne2
 case hdone =>
  rintro ds' V hmk htr ⟨h1,h2,v,h3,h4⟩
  have:=h3
  (refine jjB (jjC (jN rfl rfl rfl (jJ rfl (jz (jjF ?_))))))
  refine fin1M rfl rfl hmk fun w' g=>⟨h1.ofGrow g (Nat.le_refl _),?_⟩
  rw [List.take_length] at h4
  exact (h4.grow g).mono hsz
theorem Collect_sl (xs:List Slp) (gf:Nat) (lb:List Value) (Fct:World→Prop) (w:World) (hit:Iter Tryz.prog gf lb xs (fun s=>[encSl s]) Fct) [he:Enters Tryz.prog gf] (hF:∀ w',Ext w w'→Fct w') (hlen:xs.length≤1000000) :
  Ct Tryz.prog 24 [.func (.func gf) #[] lb.toArray] w fun v w'=>OwnL w' w.heap.size 53 true 6 v (xs.map encSl):=by
 refine Ct.ofW (by simp) ?_
 (((refine jjB (jjC (jJ (eS rfl) (jz (jjB (jjC ?_)))));refine jI (eF rfl) ?_));refine jjQ (AppendSeq_sl xs gf lb Fct w hit hF hlen) rfl rfl ?_)
 rintro v w2 hS2 hO
 (refine jJ rfl (jz (jjF ?_));refine jB rfl rfl ⟨inferInstance,?_⟩)
 exact hO

section
variable (a:Option Addr) (c:Nat) (cs:List Ch) (wd side:Int) (w:World) [hrow:RowI w (.slice a cs.length c) true 2 (cs.map encCh)] [hT:TextI w cs] [hgs:At w 1 0 sidesC]
set_option maxHeartbeats 2000000 in
theorem Make_slip (p:Pl) (hs:SmallT cs) (hd:0≤side∧side≤255):Ct Tryz.prog 33 [.agg #[.slice a cs.length c],encCut wd side,encPl p] w fun v _=>v=.tuple #[encSl (makeR (txF cs) wd side p).1,.int .i64 (makeR (txF cs) wd side p).2]:=by
 refine Ct.ofW (by simp) ?_
 (refine jjB (jjC ?_))
 (refine jy rfl ?_;intro b3 w_b3 hb_b3 hs_b3 hS_b3 hk_b3;have hA_b3:=At.ofBlock hk_b3)
 skip
 (refine jy rfl ?_;intro b4 w_b4 hb_b4 hs_b4 hS_b4 hk_b4;have hA_b4:=At.ofBlock hk_b4)
 skip
 (refine jy rfl ?_;intro b5 w_b5 hb_b5 hs_b5 hS_b5 hk_b5;have hA_b5:=At.ofBlock hk_b5)
 ((skip);refine jjY ?_;intro b6 w_b6 hb_b6 hs_b6 hS_b6 hk_b6;have hA_b6:=Bk.of hk_b6)
 (refine jJ (eI rfl) (jz (jjB (jjB (jjC (jO rfl rfl rfl rfl ?_)))));refine jO rfl rfl rfl rfl ?_)
 obtain ⟨e,he⟩:∃ e,askE (txF cs) wd side=e:=⟨_,rfl⟩
 have h3:=askE_in (txF cs) wd side
 rw [he] at h3
 refine jjQ ((open_slip a c cs wd side _ hs hd).mono fun v _ _ h=>h.trans (by rw [he])) rfl rfl ?_
 rintro _ w8 hS8 rfl
 have hb6:Bk w8 b6 [.int .i64 0,.int .i64 0,.int .i64 0,.string ⟨#[]⟩,.string ⟨#[]⟩,.string ⟨#[]⟩] 53:=inferInstance
 have hE8:Ext w w8:=inferInstance
 by_cases h0:e=0
 rotate_left
 ·(refine jJ (eI rfl) (jz (jjB (jjC (jI (eI rfl) (jjj rfl rfl (by omega) ?_)))));refine jz (jjJ rfl (jjB (jjC ?_))))
  (refine jjS (cells:=[.int .i64 0,.int .i64 0,.int .i64 0,.string ⟨#[]⟩,.string ⟨#[]⟩,.string ⟨#[]⟩]) ?_ ?_;exact rfl)
  (apply jI;exact eI rfl)
  refine Ops.store rfl rfl rfl rfl rfl ?_
  intro V2 hp2
  have:=Bk.toAt (h:=Bk.of hp2.new)
  (refine jJ (eI rfl) (jz (jjF ?_)))
  refine fin2C rfl rfl rfl rfl rfl rfl ⟨hp2.ext hE8 (by omega),?_⟩
  rw [makeR_no (by rw [he];exact h0),he];exact rfl
 subst h0
 obtain ⟨ht,hc⟩:=askE_zero he
 obtain ⟨o,ho⟩:∃ o,makeF (txF cs) side wd p=o:=⟨_,rfl⟩
 (refine jJ (eI rfl) (jz (jjB (jjC (jI (eI rfl) (jjk rfl rfl (by omega) ?_)))));refine jz (jjK rfl (jjG (jjB (jjC (jO rfl rfl rfl rfl ?_)))));refine jO rfl rfl rfl rfl (jO rfl rfl rfl rfl ?_))
 refine jjQ ((made_slip a c cs wd side _ p hs ht hc).mono fun v _ _ h=>h.trans (by rw [ho])) rfl rfl ?_
 rintro _ w9 hS9 rfl
 have hb69:=hb6.ext hS9.ext
 cases o with
 | none =>
   (refine jI (eU rfl) (ju rfl rfl (ju rfl rfl ?_)))
   (apply jjR rfl;(intro _;first|exact eI rfl|exact eB rfl|exact eP rfl|exact eS rfl|exact eT rfl|exact eA rfl|exact eU rfl|exact eF rfl|exact eM rfl|exact eN rfl|exact rfl);exact rfl;exact rfl;exact rfl;exact rfl;intro b9 w_b9 hb_b9 hs_b9 hS_b9 hk_b9;have hA_b9:=Bk.of hk_b9)
   (refine jJ (eB rfl) (jz (jjB (jjB (jjC (jI (eB rfl) ?_)))));refine jq rfl (jz (jjJ rfl (jjB (jjC ?_)))))
   (refine jjS (cells:=[.int .i64 0,.int .i64 0,.int .i64 0,.string ⟨#[]⟩,.string ⟨#[]⟩,.string ⟨#[]⟩]) ?_ ?_;exact rfl)
   skip
   refine Ops.store rfl rfl rfl rfl rfl ?_
   intro V2 hp2
   have:=Bk.toAt (h:=Bk.of hp2.new)
   (refine jJ (eI rfl) (jz (jjF ?_)))
   refine fin2C rfl rfl rfl rfl rfl rfl ⟨hp2.ext ((hE8.trans hS9.ext).trans hS_b9.ext) (by omega),?_⟩
   rw [makeR_none he ho];exact rfl
 | some s =>
   (refine jI (eU rfl) (ju rfl rfl (ju rfl rfl ?_)))
   (apply jjR rfl;(intro _;first|exact eI rfl|exact eB rfl|exact eP rfl|exact eS rfl|exact eT rfl|exact eA rfl|exact eU rfl|exact eF rfl|exact eM rfl|exact eN rfl|exact rfl);exact rfl;exact rfl;exact rfl;exact rfl;intro b9 w_b9 hb_b9 hs_b9 hS_b9 hk_b9;have hA_b9:=Bk.of hk_b9)
   (refine jJ (eB rfl) (jz (jjB (jjB (jjC (jI (eB rfl) ?_)))));refine jp rfl (jz (jjK rfl (jjG (jjB (jjC ?_)))));refine jO rfl rfl rfl rfl ?_)
   refine Ops.store rfl rfl rfl rfl rfl ?_
   intro V2 hp2
   have:=Bk.toAt (h:=Bk.of hp2.new)
   (refine jJ (eI rfl) (jz (jjF ?_)))
   refine fin2C rfl rfl rfl rfl rfl rfl ⟨hp2.ext ((hE8.trans hS9.ext).trans hS_b9.ext) (by omega),?_⟩
   rw [makeR_some he ho];exact rfl
theorem All_slip (hs:SmallT cs) (hd:0≤side∧side≤255):Ct Tryz.prog 8 [.agg #[.slice a cs.length c],encCut wd side] w fun v w'=>∃ sv,v=.tuple #[sv,.int .i64 (askE (txF cs) wd side)]∧OwnL w' w.heap.size 53 true 6 sv ((allR (txF cs) wd side).map encSl):=by
 refine Ct.ofW (by simp) ?_
 (refine jjB (jjC ?_))
 (refine jy rfl ?_;intro b2 w_b2 hb_b2 hs_b2 hS_b2 hk_b2;have hA_b2:=At.ofBlock hk_b2)
 skip
 (refine jy rfl ?_;intro b3 w_b3 hb_b3 hs_b3 hS_b3 hk_b3;have hA_b3:=At.ofBlock hk_b3)
 (refine jJ (eS rfl) (jJ (eI rfl) (jz (jjB (jjB (jjC ?_)))));refine jO rfl rfl rfl rfl (jO rfl rfl rfl rfl ?_))
 obtain ⟨e,he⟩:∃ e,askE (txF cs) wd side=e:=⟨_,rfl⟩
 have h3:=askE_in (txF cs) wd side
 rw [he] at h3
 refine jjQ ((open_slip a c cs wd side _ hs hd).mono fun v _ _ h=>h.trans (by rw [he])) rfl rfl ?_
 rintro _ w8 hS8 rfl
 by_cases h0:e=0
 rotate_left
 ·(refine jJ (eI rfl) (jz (jjB (jjC (jI (eI rfl) (jjj rfl rfl (by omega) ?_)))));refine jz (jjJ rfl (jjB (jjC (jI (eI rfl) (jJ (eS rfl) ?_)))));refine jJ (eI rfl) (jz (jjF ?_));refine jC rfl rfl rfl ⟨inferInstance,?_⟩)
  rw [he,allR,if_neg (by rw [he];exact h0)]
  exact ⟨_,rfl,OwnL.nil _ _ _ _ _⟩
 subst h0
 obtain ⟨ht,hc⟩:=askE_zero he
 (refine jJ (eI rfl) (jz (jjB (jjC (jI (eI rfl) (jjk rfl rfl (by omega) ?_)))));refine jz (jjK rfl (jjG (jjB (jjC (jO rfl rfl rfl rfl ?_)))));refine jO rfl rfl rfl rfl ?_)
 refine jjQ (slips_slip a c cs wd side _) rfl rfl ?_
 rintro _ w9 hS9 ⟨bt,bc,rfl,_,hA1,hA2⟩
 have hE9:Ext w w9:=inferInstance
 skip
 refine jjQ (Collect_sl (allS (txF cs) side wd) _ _ _ _ (slips1_slip bt bc a c cs wd side hs ht hc) (fun w' h=>⟨hA1.ext h,hA2.ext h,hrow.h.ext (hE9.trans h),hT.ext (hE9.trans h),hgs.ext (hE9.trans h)⟩) (by have:=allS_len (side:=side) (wd:=wd) ht;omega)) rfl rfl ?_
 rintro sv wA hSA hO
 (refine jJ rfl (jJ (eI rfl) (jz (jjF ?_)));refine jC rfl rfl rfl ⟨inferInstance,?_⟩)
 rw [he,allR,if_pos he]
 exact ⟨sv,rfl,hO.mono hE9.size⟩
end

theorem filter_snoc {α:Type} {f:α→Bool} {l:List α} {i:Nat} {x:α} (h:l[i]?=some x):(l.take (i+1)).filter f=(l.take i).filter f++(if f x then [x] else []):=by
 rw [take_snoc_get h,List.filter_append]
 congr 1
 cases hf:f x<;>simp [hf]
section
variable (a:Option Addr) (c:Nat) (cs:List Ch) (wd side:Int) (w:World) [hrow:RowI w (.slice a cs.length c) true 2 (cs.map encCh)] [hT:TextI w cs] [hgs:At w 1 0 sidesC]
set_option maxHeartbeats 4000000 in
theorem Part_slip (p q:Pl) (hs:SmallT cs) (hd:0≤side∧side≤255):Ct Tryz.prog 12 [.agg #[.slice a cs.length c],encCut wd side,encPl p,encPl q] w fun v w'=>∃ sv,v=.tuple #[sv,.int .i64 (partR (txF cs) wd side p q).2]∧OwnL w' w.heap.size 53 true 6 sv ((partR (txF cs) wd side p q).1.map encSl):=by
 refine Ct.ofWM (by simp) ?_
 (refine jjB (jjC ?_))
 (refine jy rfl ?_;intro b4 w_b4 hb_b4 hs_b4 hS_b4 hk_b4;have hA_b4:=At.ofBlock hk_b4)
 skip
 (refine jy rfl ?_;intro b5 w_b5 hb_b5 hs_b5 hS_b5 hk_b5;have hA_b5:=At.ofBlock hk_b5)
 skip
 (refine jy rfl ?_;intro b6 w_b6 hb_b6 hs_b6 hS_b6 hk_b6;have hA_b6:=At.ofBlock hk_b6)
 skip
 (refine jy rfl ?_;intro b7 w_b7 hb_b7 hs_b7 hS_b7 hk_b7;have hA_b7:=At.ofBlock hk_b7)
 (refine jJ (eS rfl) (jJ (eI rfl) (jz (jjB (jjB (jjC ?_)))));refine jO rfl rfl rfl rfl (jO rfl rfl rfl rfl ?_))
 obtain ⟨e,he⟩:∃ e,askE (txF cs) wd side=e:=⟨_,rfl⟩
 have h3:=askE_in (txF cs) wd side
 rw [he] at h3
 refine jjQ ((open_slip a c cs wd side _ hs hd).mono fun v _ _ h=>h.trans (by rw [he])) rfl rfl ?_
 rintro _ w8 hS8 rfl
 have hE8:Ext w w8:=inferInstance
 by_cases h0:e=0
 rotate_left
 ·(refine jJ (eI rfl) (jz (jjB (jjC (jI (eI rfl) (jjj rfl rfl (by omega) ?_)))));refine jz (jjJ rfl (jjB (jjC (jI (eI rfl) (jJ (eS rfl) ?_)))));refine jJ (eI rfl) (jz (jjF ?_)))
  refine fin2M rfl rfl rfl inferInstance fun w' g=>⟨hE8.ofGrow g (Nat.le_refl _),?_⟩
  rw [partR,if_pos (by rw [he];exact h0),he]
  exact ⟨_,rfl,OwnL.nil _ _ _ _ _⟩
 subst h0
 obtain ⟨ht,hc⟩:=askE_zero he
 obtain ⟨o1,ho1⟩:∃ o,makeF (txF cs) side wd p=o:=⟨_,rfl⟩
 obtain ⟨o2,ho2⟩:∃ o,makeF (txF cs) side wd q=o:=⟨_,rfl⟩
 (refine jJ (eI rfl) (jz (jjB (jjC (jI (eI rfl) (jjk rfl rfl (by omega) ?_)))));refine jz (jjK rfl (jjG (jjB (jjC (jO rfl rfl rfl rfl ?_)))));refine jO rfl rfl rfl rfl (jO rfl rfl rfl rfl ?_))
 refine jjQ ((made_slip a c cs wd side _ p hs ht hc).mono fun v _ _ h=>h.trans (by rw [ho1])) rfl rfl ?_
 rintro _ w9 hS9 rfl
 (refine jI (eU rfl) (ju rfl rfl (ju rfl rfl ?_)))
 (apply jjR rfl;(intro _;first|exact eI rfl|exact eB rfl|exact eP rfl|exact eS rfl|exact eT rfl|exact eA rfl|exact eU rfl|exact eF rfl|exact eM rfl|exact eN rfl|exact rfl);exact rfl;exact rfl;exact rfl;exact rfl;intro b11 w_b11 hb_b11 hs_b11 hS_b11 hk_b11;have hA_b11:=Bk.of hk_b11)
 (refine jJ (eB rfl) (jz (jjB (jjC (jO rfl rfl rfl rfl (jO rfl rfl rfl rfl ?_)))));refine jO rfl rfl rfl rfl ?_)
 refine jjQ ((made_slip a c cs wd side _ q hs ht hc).mono fun v _ _ h=>h.trans (by rw [ho2])) rfl rfl ?_
 rintro _ w10 hS10 rfl
 (refine jI (eU rfl) (ju rfl rfl (ju rfl rfl ?_)))
 (apply jjR rfl;(intro _;first|exact eI rfl|exact eB rfl|exact eP rfl|exact eS rfl|exact eT rfl|exact eA rfl|exact eU rfl|exact eF rfl|exact eM rfl|exact eN rfl|exact rfl);exact rfl;exact rfl;exact rfl;exact rfl;intro b13 w_b13 hb_b13 hs_b13 hS_b13 hk_b13;have hA_b13:=Bk.of hk_b13)
 have hE13:Ext w w_b13:=inferInstance
 have hpr:partR (txF cs) wd side p q=if o1=none∨o2=none then ([],12) else if befP q p then ([],2) else (((allP (txF cs) (txF cs).length).filter (inP p q)).map (slP (txF cs) side wd),0):=by
  rw [partR,if_neg (by rw [he];simp),ho1,ho2]
 rw [hpr]
 clear hpr
 cases o1 with
 | none =>
   (refine jJ (eB rfl) (jz (jjB (jjD (jjB (jjC ?_)))));refine jI (eB rfl) (jq rfl (jI (eB rfl) (jU rfl rfl rfl rfl (jU rfl rfl rfl rfl (jK rfl (eB rfl) ?_)))));refine jJ (eB rfl) (jz (jjJ rfl (jjB (jjC (jJ (eS rfl) ?_)))));refine jJ (eI rfl) (jz (jjF ?_)))
   refine fin2M rfl rfl rfl inferInstance fun w' g=>⟨hE13.ofGrow g (Nat.le_refl _),?_⟩
   rw [if_pos (.inl rfl)]
   exact ⟨_,rfl,OwnL.nil _ _ _ _ _⟩
 | some s1 =>
 cases o2 with
 | none =>
   (refine jJ (eB rfl) (jz (jjB (jjD (jjB (jjC ?_)))));refine jI (eB rfl) (jp rfl (jI (eB rfl) (jT rfl rfl rfl (jI (eB rfl) (jT rfl rfl rfl ?_)))));refine jq rfl (jL rfl (eB rfl) (jJ (eB rfl) (jz (jjJ rfl (jjB ?_)))));refine jjC (jJ (eS rfl) (jJ (eI rfl) (jz (jjF ?_)))))
   refine fin2M rfl rfl rfl inferInstance fun w' g=>⟨hE13.ofGrow g (Nat.le_refl _),?_⟩
   rw [if_pos (.inr rfl)]
   exact ⟨_,rfl,OwnL.nil _ _ _ _ _⟩
 | some s2 =>
 rw [if_neg (by simp)]
 (refine jJ (eB rfl) (jz (jjB (jjD (jjB (jjC ?_)))));refine jI (eB rfl) (jp rfl (jI (eB rfl) (jT rfl rfl rfl (jI (eB rfl) (jT rfl rfl rfl ?_)))));refine jp rfl (jL rfl (eB rfl) (jJ (eB rfl) (jz (jjK rfl (jjB ?_)))));refine jjC (jO rfl rfl rfl rfl (jO rfl rfl rfl rfl ?_)))
 refine jjQ (places_slip q p _) rfl rfl ?_
 rintro _ w14 hS14 rfl
 have hE14:Ext w w14:=inferInstance
 have hcm:=cmpP_neg q p
 cases hbf:befP q p with
 | true =>
   rw [hbf] at hcm
   have hlt:=of_decide_eq_true hcm
   (refine jjZ rfl rfl (by omega) (jJ (eB rfl) (jz (jjJ rfl (jjB (jjC ?_)))));refine jJ (eS rfl) (jJ (eI rfl) (jz (jjF ?_))))
   refine fin2M rfl rfl rfl inferInstance fun w' g=>⟨hE14.ofGrow g (Nat.le_refl _),?_⟩
   exact ⟨_,rfl,OwnL.nil _ _ _ _ _⟩
 | false =>
 rw [hbf] at hcm
 have hge:=of_decide_eq_false hcm
 rw [if_neg (by simp)]
 (refine jja rfl rfl (by omega) (jJ (eB rfl) (jz (jjK rfl (jjG (jjB ?_)))));refine jjC ?_)
 ((skip);refine jjY ?_;intro b15 w_b15 hb_b15 hs_b15 hS_b15 hk_b15;have hA_b15:=Bk.of hk_b15)
 (refine jz (jjB (jjB (jjC (jO rfl rfl rfl rfl (jO rfl rfl rfl rfl ?_))))))
 refine jjQ (slips_slip a c cs wd side _) rfl rfl ?_
 rintro _ w16 hS16 ⟨bt,bc,rfl,⟨hbt,hbc⟩,hA1,hA2⟩
 (refine jz (jjD ?_))
 have hE16:Ext w w16:=inferInstance
 have hsz:=hE16.size
 have hb6:At w16 b6 0 [.int .i64 p.1,.int .i64 p.2.1,.int .i64 p.2.2]:=inferInstance
 have hb7:At w16 b7 0 [.int .i64 q.1,.int .i64 q.2.1,.int .i64 q.2.2]:=inferInstance
 have hb15:Bk w16 b15 [.slice none 0 0] 36:=inferInstance
 have n6:b6<b15:=by have:=hS8.size;have:=hS9.size;have:=hS10.size;have:=hS14.size;omega
 have n7:b7<b15:=by have:=hS8.size;have:=hS9.size;have:=hS10.size;have:=hS14.size;omega
 have nt:w_b15.heap.size≤w16.heap.size:=hS16.size
 have n15:w.heap.size≤b15:=by have:=hE14.size;omega
 have hal:=allS_len (side:=side) (wd:=wd) ht
 have hfin:(allS (txF cs) side wd).filter (fun s=>inP p q s.1)=((allP (txF cs) (txF cs).length).filter (inP p q)).map (slP (txF cs) side wd):=filter_slP _
 refine W.rangeM w.heap.size (allS (txF cs) side wd) encSl1 (slips1_slip bt bc a c cs wd side hs ht hc) rfl (fun _=>rfl) trivial inferInstance hsz
  (fun i V=>Ext w V∧w16.heap.size≤V.heap.size∧At V b6 0 [.int .i64 p.1,.int .i64 p.2.1,.int .i64 p.2.2]∧At V b7 0 [.int .i64 q.1,.int .i64 q.2.1,.int .i64 q.2.2]∧(At V bt 0 [.slice a cs.length c]∧At V bc 0 [.int .i64 wd,.int .u8 side])∧∃ v,Bk V b15 [v] 36∧OwnL V w16.heap.size 53 true 6 v ((((allS (txF cs) side wd).take i).filter (fun s=>inP p q s.1)).map encSl))
  (fun _ _ _=>False) ?hJ (fun _ _ _ _ h _=>h) ?hF ?h0 (MB w16.heap.size b15) ?hW1 ?hW2 ?hW3 (fun x s' V=>∃ b,s' 6=.pointer (some ⟨b6,0,none⟩)∧s' 7=.pointer (some ⟨b7,0,none⟩)∧s' 15=.pointer (some ⟨b15,0,none⟩)∧s' 16=.pointer (some ⟨b,0,none⟩)∧Bk V b (encSl x).cells.toList 53) (fun x s V V' ⟨b5,h1,h2,h2',h2'',h3⟩ g=>⟨b5,h1,h2,h2',h2'',h3.grow g⟩) ?hassign ?hbody ?hdone (fun _ _ _ _ _ _ _ h=>h.elim)
 case hJ =>
  rintro i V V' ⟨h1,h2,k6,k7,⟨kt,kc⟩,v,h3,h4⟩ g
  exact ⟨h1.ofGrow g hsz,Nat.le_trans h2 g.size,k6.grow g,k7.grow g,⟨kt.grow g,kc.grow g⟩,v,h3.grow g,h4.grow g⟩
 case hF =>
  rintro i V ⟨h1,h2,k6,k7,⟨kt,kc⟩,v,h3,h4⟩
  exact ⟨kt,kc,hrow.h.ext h1,hT.ext h1,hgs.ext h1⟩
 case h0=>exact ⟨hE16,Nat.le_refl _,hb6,hb7,⟨hA1,hA2⟩,_,hb15,OwnL.nil _ _ _ _ _⟩
 case hW1=>exact fun i V k ⟨h1,h2,_,_,_,v,h3,h4⟩ h=>MB.lt h2 h3 h4 h
 case hW2=>exact fun i V V' k ⟨h1,h2,_,_,_,v,h3,h4⟩ g h=>MB.back h3 g h
 case hW3=>exact fun V V' k g h=>.inl (MB.grow (by omega) g h)
 case hassign =>
  rintro l i x V hx ⟨h1,h2,k6,k7,⟨kt,kc⟩,v,h3,h4⟩ hl hr
  (refine jjC ?_)
  (apply jjR rfl;(intro _;first|exact eI rfl|exact eB rfl|exact eP rfl|exact eS rfl|exact eT rfl|exact eA rfl|exact eU rfl|exact eF rfl|exact eM rfl|exact eN rfl|exact rfl);exact rfl;exact rfl;exact rfl;exact rfl;intro bx w_bx hb_bx hs_bx hS_bx hk_bx;have hA_bx:=Bk.of hk_bx)
  (refine jz ?_)
  exact ⟨rfl,hS_bx.ext.tr,Fr.ofExt hS_bx.ext fun k hk=>.inl (MB.same h3 (h3.ext hS_bx.ext) hk),⟨h1.trans hS_bx.ext,by have:=hS_bx.size;omega,k6.ext hS_bx.ext,k7.ext hS_bx.ext,⟨kt.ext hS_bx.ext,kc.ext hS_bx.ext⟩,v,h3.ext hS_bx.ext,h4.ext hS_bx.ext⟩,bx,rfl,rfl,rfl,rfl,inferInstance⟩
 case hbody =>
  rintro l i x s' V hx ⟨h1,h2,k6,k7,⟨kt,kc⟩,v,h3,h4⟩ ⟨bx,ha6,ha7,ha15,ha16,hbx⟩ hl hr
  have hlt:=(List.getElem?_eq_some_iff.1 hx).1
  have hfl:=List.length_filter_le (fun s=>inP p q s.1) ((allS (txF cs) side wd).take i)
  rw [List.length_take] at hfl
  have hsn:=filter_snoc (f:=fun s=>inP p q s.1) hx
  refine W.fix (d:=6) ha6 (W.fix (d:=7) ha7 (W.fix (d:=15) ha15 (W.fix (d:=16) ha16 ?_)))
  clear ha6 ha7 ha15 ha16
  have hbx':At V bx 0 [.int .i64 x.1.1,.int .i64 x.1.2.1,.int .i64 x.1.2.2,.string x.2.1,.string x.2.2.1,.string x.2.2.2]:=Bk.toAt (h:=hbx)
  have c1:=cmpP_neg x.1 p
  have c2:=cmpP_pos x.1 q
  (refine jjD (jjB (jjC (jm (jn rfl (jO rfl rfl rfl rfl ?_)))));refine jO rfl rfl rfl rfl ?_)
  refine jjQ (places_slip x.1 p _) rfl rfl ?_
  rintro _ V2 hS2 rfl
  have e2:=hS2.ext
  cases hb1:befP x.1 p with
  | true =>
    rw [hb1] at c1
    have:=of_decide_eq_true c1
    have hf:inP p q x.1=false:=by simp [inP,hb1]
    simp only [hf] at hsn
    (refine jjg rfl rfl (by omega) (jI (eB rfl) (jU rfl rfl rfl rfl (jU rfl rfl rfl rfl (jU rfl rfl rfl rfl (jU rfl rfl rfl rfl ?_)))));refine jU rfl rfl rfl rfl (jL rfl (eB rfl) (jz (jjK rfl (jjG ?_)))))
    refine ⟨e2.tr,Fr.ofExt e2 fun k hk=>.inl (MB.same h3 (h3.ext e2) hk),h1.trans e2,by have:=e2.size;omega,k6.ext e2,k7.ext e2,⟨kt.ext e2,kc.ext e2⟩,v,h3.ext e2,?_⟩
    rw [hsn];simpa using h4.ext e2
  | false =>
  rw [hb1] at c1
  have:=of_decide_eq_false c1
  (refine jjf rfl rfl (by omega) (jI (eB rfl) (jT rfl rfl rfl (jm (jn rfl (jT rfl rfl rfl ?_)))));refine jO rfl rfl rfl rfl (jT rfl rfl rfl (jO rfl rfl rfl rfl (jT rfl rfl rfl ?_))))
  refine jjQ (places_slip x.1 q _) rfl rfl ?_
  rintro _ V3 hS3 rfl
  have e3:=e2.trans hS3.ext
  cases hb2:befP q x.1 with
  | true =>
    rw [hb2] at c2
    have:=of_decide_eq_true c2
    have hf:inP p q x.1=false:=by simp [inP,hb2]
    simp only [hf] at hsn
    (refine jT rfl rfl rfl (jjc rfl rfl (by omega) (jK rfl (eB rfl) (jz (jjK rfl (jjG ?_))))))
    refine ⟨e3.tr,Fr.ofExt e3 fun k hk=>.inl (MB.same h3 (h3.ext e3) hk),h1.trans e3,by have:=e3.size;omega,k6.ext e3,k7.ext e3,⟨kt.ext e3,kc.ext e3⟩,v,h3.ext e3,?_⟩
    rw [hsn];simpa using h4.ext e3
  | false =>
  rw [hb2] at c2
  have:=of_decide_eq_false c2
  have hf:inP p q x.1=true:=by simp [inP,hb1,hb2]
  simp only [hf,if_true] at hsn
  have h33:=h3.ext e3
  have h43:=h4.ext e3
  have z3:=e3.size
  (refine jT rfl rfl rfl (jjb rfl rfl (by omega) (jK rfl (eB rfl) (jz (jjJ rfl (jjC ?_)))));refine jN rfl rfl rfl (jO rfl rfl rfl rfl ?_))
  (refine jjP (v:=.agg _) rfl (by exact rfl) (by exact rfl) (by exact rfl) (by exact rfl) ?_;intro b10 w_b10 hb_b10 hs_b10 hS_b10 hk_b10;have hR_b10:=RowV.one (agg:=true) (k:=6) rfl hk_b10)
  have hR1:RowV w_b10 true 6 (.slice (some ⟨b10,0,none⟩) 1 1) [encSl x]:=hR_b10
  have hz10:=hS_b10.size
  refine Ops.appendL (h43.ext hS_b10.ext) (by omega) hR1 rfl rfl rfl rfl (one_sl x) ?_ ?_ ?_
  ·rw [List.length_map];simp only [List.length_cons,List.length_nil];omega
  ·rw [List.length_map];simp only [List.length_cons,List.length_nil];omega
  intro v2 V4 hA hO _ hown2
  obtain ⟨a2,c2',rfl⟩:=hO.slice
  have hbl:∀ g,v.ownBlock=some g→w16.heap.size≤g:=fun g hg=>(h4.block g hg).1
  have hne:v.ownBlock≠some b15:=fun e=>by have:=hbl b15 e;omega
  have hB2:Bk V4 b15 [v] 36:=hA.bk (h33.ext hS_b10.ext) hne
  skip
  refine Ops.store rfl rfl rfl rfl rfl ?_
  intro V5 hp5
  (refine jz ?_)
  have hB3:Bk V5 b15 [.slice a2 (List.map encSl (((allS (txF cs) side wd).take i).filter (fun s=>inP p q s.1))++[encSl x]).length c2'] 36:=⟨hp5.new⟩
  have hne2:(Value.slice a2 (List.map encSl (((allS (txF cs) side wd).take i).filter (fun s=>inP p q s.1))++[encSl x]).length c2').ownBlock≠some b15:=fun e=>by rcases hown2 with h|h<;>rw [h] at e;exact hne e;cases e;omega
  have e10:=e3.trans hS_b10.ext
  have hnb:∀ b,b<w16.heap.size→v.ownBlock≠some b:=fun b h e=>by have:=hbl b e;omega
  have ht16:=hA1.lt
  have hc16:=hA2.lt
  refine ⟨(e10.tr.trans hA.tr).trans (hp5.tr ⟨_,hB2.h,rfl⟩),?_,hp5.ext (hA.ext (h1.trans e10) hsz) (by omega),?_,hp5.at_ (hA.at_ (k6.ext e10) (hnb _ (by omega))) (by omega),hp5.at_ (hA.at_ (k7.ext e10) (hnb _ (by omega))) (by omega),⟨hp5.at_ (hA.at_ (kt.ext e10) (hnb _ ht16)) (by omega),hp5.at_ (hA.at_ (kc.ext e10) (hnb _ hc16)) (by omega)⟩,_,hB3,?_⟩
  ·exact (Fr.ofExt e10 fun k hk=>.inl (MB.same h3 (h3.ext e10) hk)).trans (MB.append (by omega) (h3.ext e10) hA hp5 hB3 hown2)
  ·have:=hA.g.size;rw [hp5.size];omega
  ·rw [hsn,List.map_append]
   exact hO.put hp5 hne2
 case hdone =>
  rintro ds' V hmk htr ⟨h1,h2,k6,k7,⟨kt,kc⟩,v,h3,h4⟩
  obtain ⟨va,vl,vc,rfl⟩:=h4.slice3
  have:=h3
  (refine jjB (jjC (jN rfl rfl rfl (jJ (eS rfl) (jJ (eI rfl) (jz ?_)))));refine jjF ?_)
  refine fin2M rfl rfl rfl hmk fun w' g=>⟨h1.ofGrow g (Nat.le_refl _),?_⟩
  rw [List.take_length,hfin] at h4
  exact ⟨_,rfl,(h4.grow g).mono hsz⟩
end

section
variable (a:Option Addr) (c:Nat) (cs:List Ch) (w:World) [hrow:RowI w (.slice a cs.length c) true 2 (cs.map encCh)] [hT:TextI w cs]
end

def allW (t:Tx) (n:Nat):List (Pl×ByteArray):=(List.range n).flatMap fun k=>(runA k (wsT t k)).zip (wsT t k).flatten

section
variable (a:Option Addr) (c:Nat) (cs:List Ch) (w:World) [hrow:RowI w (.slice a cs.length c) true 2 (cs.map encCh)] [hT:TextI w cs]
end



section
variable (a:Option Addr) (c:Nat) (cs:List Ch) (w:World) [hrow:RowI w (.slice a cs.length c) true 2 (cs.map encCh)] [hT:TextI w cs]
end

section
variable (a:Option Addr) (c:Nat) (cs:List Ch) (w:World) [hrow:RowI w (.slice a cs.length c) true 2 (cs.map encCh)] [hT:TextI w cs]
end

theorem makeF_mem {t:Tx} {side wd:Int} {p:Pl} {n:Nat} (h:p∈allP t n) (hn:n≤t.length):makeF t side wd p=some (slP t side wd p):=by
 obtain ⟨k,hk,hm⟩:=mem_allP.1 h
 obtain ⟨i,hi,e⟩:=List.mem_iff_getElem.1 hm
 have hg:(runA k (wsT t k))[i]?=some p:=by rw [List.getElem?_eq_getElem hi,e]
 rw [makeF_yes (by omega) hg,slP_eq (by omega) hg]
section
variable (a:Option Addr) (c:Nat) (cs:List Ch) (wd side:Int) (w:World) [hrow:RowI w (.slice a cs.length c) true 2 (cs.map encCh)] [hT:TextI w cs]
end

theorem lnP_sorted (k n q:Nat):(lnP k n q).Pairwise fun a b=>befP a b=true:=by
 unfold lnP
 rw [List.pairwise_map]
 refine List.Pairwise.imp (R:=(·<·)) ?_ List.pairwise_lt_range
 intro a b h
 rw [befP_iff];simp;omega
theorem runA_sorted (k:Nat) (x:List (List ByteArray)):(runA k x).Pairwise fun a b=>befP a b=true:=by
 unfold runA runAn
 rw [List.pairwise_flatMap]
 refine ⟨fun i _=>lnP_sorted _ _ _,?_⟩
 refine List.Pairwise.imp (R:=(·<·)) ?_ List.pairwise_lt_range
 intro a b h p hp q hq
 simp only [lnP,List.mem_map] at hp hq
 obtain ⟨_,_,rfl⟩:=hp
 obtain ⟨_,_,rfl⟩:=hq
 rw [befP_iff];simp;omega
theorem allP_sorted (t:Tx) (n:Nat):(allP t n).Pairwise fun a b=>befP a b=true:=by
 unfold allP
 rw [List.pairwise_flatMap]
 refine ⟨fun i _=>runA_sorted _ _,?_⟩
 refine List.Pairwise.imp (R:=(·<·)) ?_ List.pairwise_lt_range
 intro a b h p hp q hq
 have h1:=runA_fst hp
 have h2:=runA_fst hq
 rw [befP_iff];omega
theorem befP_asymm {a b:Pl} (h:befP a b=true):befP b a=false:=by
 cases h2:befP b a with
 | false=>rfl
 | true=>have:=befP_trans h h2;rw [befP_irr] at this;cases this
theorem sorted_get {l:List Pl} (h:l.Pairwise fun a b=>befP a b=true) {i j:Nat} (hij:i<j) (hj:j<l.length):befP (l[i]'(by omega)) l[j]=true:=List.pairwise_iff_getElem.1 h i j _ hj hij
theorem sorted_lt {l:List Pl} (h:l.Pairwise fun a b=>befP a b=true) {i j:Nat} (hi:i<l.length) (hj:j<l.length):befP l[i] l[j]=decide (i<j):=by
 rcases Nat.lt_trichotomy i j with hl|he|hl
 ·rw [sorted_get h hl hj,decide_eq_true hl]
 ·subst he;rw [befP_irr];simp
 ·rw [befP_asymm (sorted_get h hl hi),decide_eq_false (by omega)]
theorem sorted_nodup {l:List Pl} (h:l.Pairwise fun a b=>befP a b=true):l.Nodup:=by
 refine List.Pairwise.imp ?_ h
 intro a b hab e
 subst e;rw [befP_irr] at hab;cases hab
theorem filter_seg {l:List Pl} (h:l.Pairwise fun a b=>befP a b=true) {x y:Nat} (hx:x<l.length) (hy:y<l.length) (hxy:x≤y):l.filter (inP l[x] l[y])=(l.take (y+1)).drop x:=by
 have e:l=l.take x++((l.take (y+1)).drop x++l.drop (y+1)):=by
  have h1:=List.take_append_drop x (l.take (y+1))
  rw [List.take_take,Nat.min_eq_left (by omega)] at h1
  rw [←List.append_assoc,h1,List.take_append_drop]
 have f1:(l.take x).filter (inP l[x] l[y])=[]:=by
  rw [List.filter_eq_nil_iff]
  intro z hz
  obtain ⟨j,hj,rfl⟩:=List.mem_iff_getElem.1 hz
  rw [List.length_take] at hj
  rw [List.getElem_take,inP,sorted_lt h (by omega) hx,decide_eq_true (by omega)];simp
 have f2:(l.drop (y+1)).filter (inP l[x] l[y])=[]:=by
  rw [List.filter_eq_nil_iff]
  intro z hz
  obtain ⟨j,hj,rfl⟩:=List.mem_iff_getElem.1 hz
  rw [List.length_drop] at hj
  rw [List.getElem_drop,inP,sorted_lt h hy (by omega),decide_eq_true (by omega)];simp
 have f3:((l.take (y+1)).drop x).filter (inP l[x] l[y])=(l.take (y+1)).drop x:=by
  rw [List.filter_eq_self]
  intro z hz
  obtain ⟨j,hj,rfl⟩:=List.mem_iff_getElem.1 hz
  rw [List.length_drop,List.length_take] at hj
  rw [List.getElem_drop,List.getElem_take,inP,sorted_lt h (by omega) hx,sorted_lt h hy (by omega),decide_eq_false (by omega),decide_eq_false (by omega)];rfl
 conv=>lhs;arg 2;rw [e]
 rw [List.filter_append,List.filter_append,f1,f2,f3,List.nil_append,List.append_nil]
theorem part_seg {t:Tx} {wd side:Int} (ha:askE t wd side=0) {x y:Nat} (hx:x<(allP t t.length).length) (hy:y<(allP t t.length).length) (hxy:x≤y) :
  partR t wd side (allP t t.length)[x] (allP t t.length)[y]=(((allS t side wd).take (y+1)).drop x,0):=by
 have m1:=makeF_mem (side:=side) (wd:=wd) (List.getElem_mem hx) (Nat.le_refl _)
 have m2:=makeF_mem (side:=side) (wd:=wd) (List.getElem_mem hy) (Nat.le_refl _)
 have hs:=allP_sorted t t.length
 rw [partR,if_neg (by simp [ha]),if_neg (by rw [m1,m2];simp),sorted_lt hs hy hx,decide_eq_false (by omega),if_neg (by simp),filter_seg hs hx hy hxy,allS,List.map_drop,List.map_take]



section
variable {κ:Type} [DecidableEq κ]
abbrev NdG (m:List (κ×Value)):Prop:=(m.map (·.1)).Nodup
theorem mset_keysG (m:List (κ×Value)) (k:κ) (v:Value):∀ x,x∈(mset m k v).map (·.1)→x=k∨x∈m.map (·.1):=by
 induction m with
 | nil=>intro x hx;simp [mset] at hx;exact .inl hx
 | cons p m ih =>
   obtain ⟨y,u⟩:=p
   intro x hx
   rw [mset] at hx
   split at hx
   ·subst_vars;exact .inr hx
   ·simp only [List.map_cons,List.mem_cons] at hx ⊢
    rcases hx with hx|hx
    ·exact .inr (.inl hx)
    ·rcases ih x hx with h|h
     ·exact .inl h
     ·exact .inr (.inr h)
theorem NdG.set {m:List (κ×Value)} (h:NdG m) (k:κ) (v:Value):NdG (mset m k v):=by
 induction m with
 | nil=>simp [NdG,mset]
 | cons p m ih =>
   obtain ⟨y,u⟩:=p
   simp only [NdG,List.map_cons,List.nodup_cons] at h
   rw [mset]
   split
   ·subst_vars;simp only [NdG,List.map_cons,List.nodup_cons];exact h
   ·simp only [NdG,List.map_cons,List.nodup_cons]
    refine ⟨fun hc=>?_,ih h.2⟩
    rcases mset_keysG m k v y hc with e|e
    ·rename_i hne;exact hne e.symm
    ·exact h.1 e
theorem mget_noG {m:List (κ×Value)} {k:κ} (h:k ∉ m.map (·.1)):mget m k=none:=by
 induction m with
 | nil=>rfl
 | cons p m ih =>
   obtain ⟨y,u⟩:=p
   simp only [List.map_cons,List.mem_cons,not_or] at h
   rw [mget,if_neg h.1,ih h.2]
theorem NdG.del {m:List (κ×Value)} (h:NdG m) (k:κ):NdG (mdel m k)∧(∀ x,x∈(mdel m k).map (·.1)→x∈m.map (·.1))∧∀ x,mget (mdel m k) x=if x=k then none else mget m x:=by
 induction m with
 | nil=>simp [NdG,mdel,mget]
 | cons p m ih =>
   obtain ⟨y,u⟩:=p
   simp only [NdG,List.map_cons,List.nodup_cons] at h
   obtain ⟨i1,i2,i3⟩:=ih h.2
   rw [mdel]
   split
   ·subst_vars
    refine ⟨h.2,fun x hx=>by simp only [List.map_cons,List.mem_cons];exact .inr hx,fun x=>?_⟩
    rw [mget]
    by_cases e:x=y
    ·subst e;rw [if_pos rfl,mget_noG h.1]
    ·rw [if_neg e,if_neg e]
   ·rename_i hne
    refine ⟨?_,fun x hx=>?_,fun x=>?_⟩
    ·simp only [NdG,List.map_cons,List.nodup_cons]
     exact ⟨fun hc=>h.1 (i2 y hc),i1⟩
    ·simp only [List.map_cons,List.mem_cons] at hx ⊢
     exact hx.imp id (i2 x)
    ·rw [mget,mget,i3]
     by_cases e:x=y
     ·subst e;rw [if_pos rfl,if_pos rfl,if_neg (fun h=>hne h.symm)]
     ·rw [if_neg e,if_neg e]
structure SetM (S:κ→Bool) (m:List (κ×Value)):Prop where
 nd:NdG m
 get:∀ x,mget m x=if S x then some (.bool true) else none
theorem SetM.nil:SetM (fun _:κ=>false) []:=⟨by simp [NdG],fun x=>rfl⟩
theorem SetM.congr {S S':κ→Bool} {m:List (κ×Value)} (h:SetM S m) (e:∀ x,S' x=S x):SetM S' m:=⟨h.nd,fun x=>by rw [h.get,e]⟩
theorem SetM.set {S:κ→Bool} {m:List (κ×Value)} (h:SetM S m) (k:κ):SetM (fun x=>decide (x=k) || S x) (mset m k (.bool true)):=⟨h.nd.set k _,fun x=>by
 by_cases e:x=k
 ·subst e;rw [mget_set_same];simp
 ·rw [mget_set_other _ _ e,h.get];simp [e]⟩
theorem SetM.del {S:κ→Bool} {m:List (κ×Value)} (h:SetM S m) (k:κ):SetM (fun x=>!decide (x=k) && S x) (mdel m k):=⟨(h.nd.del k).1,fun x=>by
 rw [(h.nd.del k).2.2]
 by_cases e:x=k
 ·simp [e]
 ·rw [if_neg e,h.get];simp [e]⟩
theorem SetM.look {S:κ→Bool} {m:List (κ×Value)} (h:SetM S m) (k:κ):(mget m k).getD (.bool false)=.bool (S k):=by
 rw [h.get];cases S k<;>rfl
end

section
variable {P:Program} {κ:Type} [DecidableEq κ] {enc:κ→Value} {kt:Nat}
theorem findAsking_of [he:EqT P kt enc] (w:World) (k:κ):∀ (es:List MapEntry) (ks:List κ) (i:Nat),es.map (·.key)=ks.map enc →
  (Instr.findAsking kt (enc k) es i).run P w=.ok ((ks.findIdx? (fun x=>decide (k=x))).map fun j=>(i+j,((es[j]?).map (·.val)).getD undef)) w
 | [],[],i,_=>rfl
 | [],_::_,i,h=>by simp at h
 | _::_,[],i,h=>by simp at h
 | e::es,x::ks,i,h=>by
   simp only [List.map_cons,List.cons.injEq] at h
   have ih:=findAsking_of w k es ks (i+1) h.2
   have hq:=he.eq w k x
   simp only [Instr.findAsking,Sem.run_bind,h.1,hq,Result.andThen]
   by_cases hk:k=x
   ·simp [hk,List.findIdx?_cons]
   ·simp only [hk,decide_false,ih,List.findIdx?_cons,Bool.false_eq_true,if_false,Option.map_map]
    congr 2
    funext j
    simp;omega
theorem keyL_struct {fs:Array Field} (hu:P.underlying kt=some (.struct fs)) [he:EqT P kt enc] (hag:∀ k,∃ cs,enc k=.agg cs) (hc:∀ (em:Bool) (w:World) (k:κ),(Instr.checkKey em 10000 kt (enc k)).run P w=.ok () w) (hb:∀ k,Instr.sameBits 10000 (enc k) (enc k)=true):KeyL P kt enc where
 chk:=hc
 find w k es ks hk:=by
  have h1:=findAsking_of (P:=P) (enc:=enc) (kt:=kt) w k es ks 0 hk
  simp only [Instr.findKey,Sem.run_bind,run_underlying hu,Result.andThen]
  cases es with
  | nil =>
    cases ks with
    | nil=>rfl
    | cons x ks=>simp at hk
  | cons e es =>
    have:Instr.findNow (.struct fs) (enc k) (e::es) 0=none:=by
     obtain ⟨cs,h⟩:=hag k
     simp [Instr.findNow,Instr.sameNow]
    rw [this]
    simpa using h1
 bits:=hb
end
theorem chk_place (em:Bool) (w:World) (n:Nat) (p:Pl):(Instr.checkKey em (n+2) 48 (encPl p)).run Tryz.prog w=.ok () w:=by
 have h:=Tryz.underlying48
 have hi:=Tryz.underlying3
 simp [Instr.checkKey,run_underlying h,run_underlying hi,part,run_isAgg w tu3,TypeDesc.isAgg]
instance : KeyL Tryz.prog 48 encPl:=keyL_struct Tryz.underlying48 (fun k=>⟨_,rfl⟩) (fun em w k=>chk_place em w 9998 k) (fun k=>by simp [Instr.sameBits])

theorem MapN.app {κ:Type} [DecidableEq κ] {encK:κ→Value} {w w':World} {b B st:Nat} {m:List (κ×Value)} {k:κ} {v:Value} (h:MapN encK w b m k st) (a:App B w w' v) (hne:v.ownBlock≠some b):MapN encK w' b m k st:=by
 obtain ⟨es,cl,i,h1,h2⟩:=h.h
 exact ⟨es,cl,i,a.other h1 hne,h2⟩
section rules
variable {P:Program} {ro:Option Nat} {n:Nat} {all rest:List Oper} {K:Sl→World→Prop} {s:Sl} {w:World} {d:Nat} {ty:Nat} {pos:String} {af:Array Edge}
variable {x y:Operand} {t:Nat}
theorem Ops.lookupV {κ:Type} [DecidableEq κ] {encK:κ→Value} {b kt et:Nat} {m:List (κ×Value)} {k:κ} {z v:Value} {size bytes:Nat} (hv:(mget m k).getD z=v) (hm:MapE encK w b m) (hx:ev n s x=.map (some b)) (hy:ev n s y=encK k) [hk:KeyL P kt encK] [ht:TMap P t kt et] [hz:TS P et z size bytes]
  (h:Ops P ro n all rest K (upd s d v) w):Ops P ro n all (⟨some d,.lookup t x y false,ty,pos,af,none⟩::rest) K s w:=by
 subst hv
 exact Ops.lookup hm hx hy h
end rules

section
variable (a:Option Addr) (c:Nat) (cs:List Ch) (wd side:Int) (la:Option Addr) (lc:Nat) (ls:List Slp) (w:World) [hrow:RowI w (.slice a cs.length c) true 2 (cs.map encCh)] [hT:TextI w cs] [hgs:At w 1 0 sidesC] [hmx:MxI w] [hl:RowI w (.slice la ls.length lc) true 6 (ls.map encSl)]
end

section
variable (a:Option Addr) (c:Nat) (cs:List Ch) (wd side:Int) (w:World) [hrow:RowI w (.slice a cs.length c) true 2 (cs.map encCh)] [hT:TextI w cs]
end

section
variable {t:Tx} {wd side:Int}
theorem allS_mem {s:Slp} (h:s∈allS t side wd):makeF t side wd s.1=some s∧s.1∈allP t t.length:=by
 obtain ⟨p,hp,rfl⟩:=List.mem_map.1 h
 rw [slP_at]
 exact ⟨makeF_mem hp (Nat.le_refl _),hp⟩
theorem allS_right (ht:textB t=true) (hc:cutB wd side=true) {s:Slp} (h:s∈allS t side wd):slipB s=true:=(make_right ht hc (allS_mem h).1).1
theorem allS_fst:(allS t side wd).map (·.1)=allP t t.length:=by
 rw [allS,List.map_map]
 exact (List.map_congr_left fun p _=>slP_at t side wd p).trans (List.map_id _)
theorem allS_nodup:(allS t side wd).Nodup:=by
 have h:=sorted_nodup (allP_sorted t t.length)
 rw [←allS_fst (side:=side) (wd:=wd)] at h
 exact List.Pairwise.imp (fun hne e=>hne (by rw [e])) (List.pairwise_map.1 h)
theorem allS_get {i:Nat} (hi:i<(allS t side wd).length):(allS t side wd)[i].1=(allP t t.length)[i]'(by rw [allS,List.length_map] at hi;exact hi):=by
 simp [allS,slP_at]
end
end Go.Proofs.YtbafmbpmiiplkaaGreatDoor
