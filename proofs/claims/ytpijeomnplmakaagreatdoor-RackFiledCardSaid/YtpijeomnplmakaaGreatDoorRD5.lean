/- Texts of the proof, part 5: Sl3, Sl4, Sl5, Sl6, SlN, Sl7, LibS, Sl8, Sl9, Sr1, Sr2, Sr3, Sr4, Sr5, Sr6, PlE, Sw2, Sw3, MpK, KeyP, Eng26, Sw4, Sw1, PlG, PkO, PkY, Eng18, Eng30, Eng31, Gk2, Eng33, Eng27, Rk1, PlD, LibC, Sw5, PlF, PlJ, Lf3, Tr3, Lf4, Lf5, Lf6, PlK, PlL, PlM, Eng37, Eng41, Gk6, PkG, Eng39, Rk2, Rk3, ShT, ShU, Rk4, Ra5. -/
import Derived.ChangeKeysEq
import Derived.Laws.Small
import Derived.Laws.Cover1
import Derived.Laws.BitsAllLaws
import Derived.Lib.AppendZerosOnto
import Derived.Shelf.SlSortCmp.WholeK
import Derived.Shelf.Small.Bits
import Derived.Test.YtpijeomnplmakaaGreatDoorRD4
/- slip: the order of contexts. -/
namespace Go.Proofs.YtpijeomnplmakaaGreatDoor
open Go.RowKit

/-- A context of a short run. -/
abbrev InX (n i : Nat) (x : Cx) : Prop := x.1 ≤ i ∧ i ≤ x.2 ∧ x.2 < n ∧ n ≤ 1000000
theorem unE_bound {n i : Nat} {x : Cx} (h : InX n i x) : 0 ≤ unE i x ∧ unE i x ≤ 2000000 := by unfold unE; omega
theorem uneven_slip (ws : List ByteArray) (i : Nat) (x : Cx) (w : World) (hx : InX ws.length i x) : Ct Tryz.prog 221 [encX ws i x] w fun v _ => v = .int .i64 (unE i x) := by
  refine Ct.ofW (by simp) ?_
  (refine jjB ?_; refine jjC ?_)
  (refine jy rfl ?_; intro b1 w_b1 hb_b1 hs_b1 hS_b1 hk_b1; have hA_b1 := At.ofBlock hk_b1)
  (apply jJ; exact eI rfl; refine jz ?_; refine jjB ?_; refine jjC ?_; refine jm ?_; refine jn rfl ?_; refine jN rfl rfl rfl ?_; refine jm ?_; refine jn rfl ?_; refine jN rfl rfl rfl ?_; refine jZ rfl rfl (by omega) ?_; refine jm ?_; refine jn rfl ?_; refine jN rfl rfl rfl ?_; refine jm ?_; refine jn rfl ?_; refine jN rfl rfl rfl ?_; refine jZ rfl rfl (by omega) ?_; refine jZ rfl rfl (by omega) ?_; apply jJ; exact eI rfl; refine jz ?_; refine jjB ?_; refine jjC ?_; apply jI; exact eI rfl; apply jI; exact eI rfl)
  refine jjm rfl (by omega) ?_
  (refine jk rfl rfl ?_; apply jJ; exact eI rfl; refine jz ?_; refine jjF ?_; refine jB rfl rfl ⟨inferInstance, ?_⟩)
  exact rfl
theorem sides1_slip (ws : List ByteArray) (i : Nat) (a b : Cx) (w : World) (ha : InX ws.length i a) (hb : InX ws.length i b) : Ct Tryz.prog 231 [encX ws i a, encX ws i b] w fun v _ => v = .int .i64 ((a.1 : Int) - b.1) := by
  refine Ct.ofW (by simp) ?_
  (refine jjB ?_; refine jjC ?_)
  (refine jy rfl ?_; intro b1 w_b1 hb_b1 hs_b1 hS_b1 hk_b1; have hA_b1 := At.ofBlock hk_b1)
  skip
  (refine jy rfl ?_; intro b2 w_b2 hb_b2 hs_b2 hS_b2 hk_b2; have hA_b2 := At.ofBlock hk_b2)
  (apply jJ; exact eI rfl; refine jz ?_; refine jjB ?_; refine jjC ?_; refine jm ?_; refine jn rfl ?_; refine jN rfl rfl rfl ?_; refine jm ?_; refine jn rfl ?_; refine jN rfl rfl rfl ?_; refine jZ rfl rfl (by omega) ?_; apply jJ; exact eI rfl; refine jz ?_; refine jjF ?_; refine jB rfl rfl ⟨inferInstance, ?_⟩)
  exact rfl
theorem sides2_slip (ws : List ByteArray) (i : Nat) (a b : Cx) (w : World) (ha : InX ws.length i a) (hb : InX ws.length i b) : Ct Tryz.prog 232 [encX ws i a, encX ws i b] w fun v _ => v = .int .i64 ((b.1 : Int) - a.1) := by
  refine Ct.ofW (by simp) ?_
  (refine jjB ?_; refine jjC ?_)
  (refine jy rfl ?_; intro b1 w_b1 hb_b1 hs_b1 hS_b1 hk_b1; have hA_b1 := At.ofBlock hk_b1)
  skip
  (refine jy rfl ?_; intro b2 w_b2 hb_b2 hs_b2 hS_b2 hk_b2; have hA_b2 := At.ofBlock hk_b2)
  (apply jJ; exact eI rfl; refine jz ?_; refine jjB ?_; refine jjC ?_; refine jm ?_; refine jn rfl ?_; refine jN rfl rfl rfl ?_; refine jm ?_; refine jn rfl ?_; refine jN rfl rfl rfl ?_; refine jZ rfl rfl (by omega) ?_; apply jJ; exact eI rfl; refine jz ?_; refine jjF ?_; refine jB rfl rfl ⟨inferInstance, ?_⟩)
  exact rfl
theorem sides3_slip (ws : List ByteArray) (i : Nat) (a b : Cx) (w : World) (ha : InX ws.length i a) (hb : InX ws.length i b) : Ct Tryz.prog 233 [encX ws i a, encX ws i b] w fun v _ => v = .int .i64 (orF [unE i a - unE i b, (b.1 : Int) - a.1]) := by
  have u1 := unE_bound ha
  have u2 := unE_bound hb
  refine Ct.ofW (by simp) ?_
  (refine jjB ?_; refine jjC ?_)
  (refine jy rfl ?_; intro b1 w_b1 hb_b1 hs_b1 hS_b1 hk_b1; have hA_b1 := At.ofBlock hk_b1)
  skip
  (refine jy rfl ?_; intro b2 w_b2 hb_b2 hs_b2 hS_b2 hk_b2; have hA_b2 := At.ofBlock hk_b2)
  (apply jJ; exact eI rfl; refine jz ?_; refine jjB ?_)
  refine W.draw (fun w' => Ext w_b2 w') ?_
  intro w1 hS1
  (refine jjV [0, 2, 5, 6, 7, 8, 9] ?_ ?_ ?_; (decide +kernel); (exact hS1.ext); (((apply jjT; exact rfl; rintro w' hq; have := hq.toStep; refine jO rfl rfl rfl rfl ?_; refine jz ?_; exact ⟨rfl, rfl⟩; apply jjT; exact rfl; rintro w' hq; have := hq.toStep; refine jO rfl rfl rfl rfl ?_; refine jz ?_; exact ⟨rfl, rfl⟩; apply jjT; exact rfl; rintro w' hq; have := hq.toStep; refine jm ?_; refine jn rfl ?_; refine jz ?_; exact ⟨rfl, rfl⟩; apply jjT; exact rfl; rintro w' hq; have := hq.toStep; refine jN rfl rfl rfl ?_; refine jz ?_; exact ⟨rfl, rfl⟩; apply jjT; exact rfl; rintro w' hq; have := hq.toStep; refine jm ?_; refine jn rfl ?_; refine jz ?_; exact ⟨rfl, rfl⟩; apply jjT; exact rfl; rintro w' hq; have := hq.toStep; refine jN rfl rfl rfl ?_; refine jz ?_; exact ⟨rfl, rfl⟩; apply jjT; exact rfl; rintro w' hq; have := hq.toStep; refine jZ rfl rfl (by omega) ?_; refine jz ?_; exact ⟨rfl, rfl⟩; refine jjU ?_))))
  (apply jjW 1; (decide +kernel); exact rfl; (exact hS1.ext))
  refine jjQ (uneven_slip ws i a _ ha) rfl rfl ?_
  rintro _ w2 hS2 rfl
  refine jz ?_
  (apply jjW 3; (decide +kernel); exact rfl; (exact hS1.ext.trans hS2.ext))
  refine jjQ (uneven_slip ws i b _ hb) rfl rfl ?_
  rintro _ w3 hS3 rfl
  refine jz ?_
  have hE3 := (hS1.ext.trans hS2.ext).trans hS3.ext
  (refine jjV [4] ?_ ?_ ?_; (decide +kernel); (exact hE3); (((apply jjT; exact rfl; rintro w' hq; have := hq.toStep; refine jZ rfl rfl (by omega) ?_; refine jz ?_; exact ⟨rfl, rfl⟩; refine jjU ?_))))
  (apply jjW 10; (decide +kernel); exact rfl; (exact hE3))
  refine Ops.buildSlice2 (u := .int .i64 (unE i a - unE i b)) (v := .int .i64 ((b.1 : Int) - a.1)) rfl rfl rfl rfl rfl ?_
  intro b9 w4 hb4 hs4 hS4 hk4
  refine jz ?_
  have hE4 := hE3.trans hS4.ext
  have hr4 : RowV w4 false 1 (.slice (some ⟨b9, 0, none⟩) 2 2) ([unE i a - unE i b, (b.1 : Int) - a.1].map intV) := hk4.row (fun x hx => by simp at hx; rcases hx with rfl | rfl <;> rfl) (by simp)
  (apply jjW 11; (decide +kernel); exact rfl; (exact hE4))
  refine jjQ (Or_int _ _ _ [unE i a - unE i b, (b.1 : Int) - a.1] _ rfl hr4) rfl rfl ?_
  rintro _ w5 hS5 rfl
  refine jz ?_
  (apply jjW 12; (decide +kernel); exact rfl; (exact hE4.trans hS5.ext))
  (apply jJ; exact eI rfl; refine jz ?_)
  refine jjX (by decide +kernel) (hE4.trans hS5.ext) ?_
  (refine jjF ?_; refine jB rfl rfl ⟨inferInstance, ?_⟩)
  exact rfl

/-- The table of sides. -/
abbrev sidesC : List Value := [.nilFunc, .func (.func 231) #[] ([] : List Value).toArray, .func (.func 232) #[] ([] : List Value).toArray, .func (.func 233) #[] ([] : List Value).toArray]
set_option maxHeartbeats 2000000 in
theorem slip1_slip (br : Nat) (ws : List ByteArray) (wd side : Int) (i : Nat) (wv av : Value) (a b : Cx) (w : World) [hr : At w br 0 [.int .i64 wd, .int .u8 side, wv, av]] [hg : At w 1 0 sidesC] (hs : 1 ≤ side ∧ side ≤ 3) (ha : InX ws.length i a) (hb : InX ws.length i b)
    (la : 0 ≤ lenX ws a ∧ lenX ws a ≤ 1001000000) (lb : 0 ≤ lenX ws b ∧ lenX ws b ≤ 1001000000) : Ct Tryz.prog 162 [encX ws i a, encX ws i b, .pointer (some ⟨br, 0, none⟩)] w fun v _ => v = .int .i64 (ordI ws side i a b) := by
  have hsd : side = 1 ∨ side = 2 ∨ side = 3 := by omega
  rcases hsd with rfl | rfl | rfl
  · refine Ct.ofW (by simp) ?_
    (refine jjB ?_; refine jjC ?_)
    (refine jy rfl ?_; intro b3 w_b3 hb_b3 hs_b3 hS_b3 hk_b3; have hA_b3 := At.ofBlock hk_b3)
    skip
    (refine jy rfl ?_; intro b4 w_b4 hb_b4 hs_b4 hS_b4 hk_b4; have hA_b4 := At.ofBlock hk_b4)
    (apply jJ; exact eI rfl; refine jz ?_; refine jjB ?_)
    refine W.draw (fun w' => Ext w_b4 w') ?_
    intro w1 hS1
    (refine jjV [0, 1, 2, 3, 4, 5, 6, 7] ?_ ?_ ?_; (decide +kernel); (exact hS1.ext); (((apply jjT; exact rfl; rintro w' hq; have := hq.toStep; refine jm ?_; refine jn rfl ?_; refine jz ?_; exact ⟨rfl, rfl⟩; apply jjT; exact rfl; rintro w' hq; have := hq.toStep; refine jN rfl rfl rfl ?_; refine jz ?_; exact ⟨rfl, rfl⟩; apply jjT; exact rfl; rintro w' hq; have := hq.toStep; refine jm ?_; refine jn rfl ?_; refine jz ?_; exact ⟨rfl, rfl⟩; apply jjT; exact rfl; rintro w' hq; have := hq.toStep; refine jN rfl rfl rfl ?_; refine jz ?_; exact ⟨rfl, rfl⟩; apply jjT; exact rfl; rintro w' hq; have := hq.toStep; refine jZ rfl rfl (by omega) ?_; refine jz ?_; exact ⟨rfl, rfl⟩; apply jjT; exact rfl; rintro w' hq; have := hq.toStep; refine jm ?_; refine jn rfl ?_; refine jz ?_; exact ⟨rfl, rfl⟩; apply jjT; exact rfl; rintro w' hq; have := hq.toStep; refine jm ?_; refine jn rfl ?_; refine jz ?_; exact ⟨rfl, rfl⟩; apply jjT; exact rfl; rintro w' hq; have := hq.toStep; refine jN rfl rfl rfl ?_; refine jz ?_; exact ⟨rfl, rfl⟩; refine jjU ?_))))
    refine jjV [8] (by decide +kernel) hS1.ext (jjT (v := .pointer (some ⟨1, 0 + 1, none⟩)) rfl (fun w' q1 => ?_) (jjU ?_)); (refine Ops.indexAP (j := 1) rfl rfl rfl rfl ?_; refine jz ?_; exact ⟨rfl, rfl⟩)
    (refine jjV [9, 10, 11, 12] ?_ ?_ ?_; (decide +kernel); (exact hS1.ext); (((apply jjT; exact rfl; rintro w' hq; have := hq.toStep; refine jm ?_; refine jn rfl ?_; refine jz ?_; exact ⟨rfl, rfl⟩; apply jjT; exact rfl; rintro w' hq; have := hq.toStep; refine jN rfl rfl rfl ?_; refine jz ?_; exact ⟨rfl, rfl⟩; apply jjT; exact rfl; rintro w' hq; have := hq.toStep; refine jO rfl rfl rfl rfl ?_; refine jz ?_; exact ⟨rfl, rfl⟩; apply jjT; exact rfl; rintro w' hq; have := hq.toStep; refine jO rfl rfl rfl rfl ?_; refine jz ?_; exact ⟨rfl, rfl⟩; refine jjU ?_))))
    (apply jjW 13; (decide +kernel); exact rfl; (exact hS1.ext))
    refine jjQ (sides1_slip ws i a b _ ha hb) rfl rfl ?_
    rintro _ w2 hS2 rfl
    refine jz ?_
    (apply jjW 14; (decide +kernel); exact rfl; (exact hS1.ext.trans hS2.ext))
    refine Ops.buildSlice2 (u := .int .i64 (lenX ws b - lenX ws a)) (v := .int .i64 ((a.1 : Int) - b.1)) rfl rfl rfl rfl rfl ?_
    intro b9 w3 hb3 hs3 hS3 hk3
    refine jz ?_
    have hE3 := (hS1.ext.trans hS2.ext).trans hS3.ext
    have hr3 : RowV w3 false 1 (.slice (some ⟨b9, 0, none⟩) 2 2) ([lenX ws b - lenX ws a, (a.1 : Int) - b.1].map intV) := hk3.row (fun x hx => by simp at hx; rcases hx with rfl | rfl <;> rfl) (by simp)
    (apply jjW 15; (decide +kernel); exact rfl; (exact hE3))
    refine jjQ (Or_int _ _ _ [lenX ws b - lenX ws a, (a.1 : Int) - b.1] _ rfl hr3) rfl rfl ?_
    rintro _ w4 hS4 rfl
    refine jz ?_
    (apply jjW 16; (decide +kernel); exact rfl; (exact hE3.trans hS4.ext))
    (apply jJ; exact eI rfl; refine jz ?_)
    refine jjX (by decide +kernel) (hE3.trans hS4.ext) ?_
    (refine jjF ?_; refine jB rfl rfl ⟨inferInstance, ?_⟩)
    exact rfl
  · refine Ct.ofW (by simp) ?_
    (refine jjB ?_; refine jjC ?_)
    (refine jy rfl ?_; intro b3 w_b3 hb_b3 hs_b3 hS_b3 hk_b3; have hA_b3 := At.ofBlock hk_b3)
    skip
    (refine jy rfl ?_; intro b4 w_b4 hb_b4 hs_b4 hS_b4 hk_b4; have hA_b4 := At.ofBlock hk_b4)
    (apply jJ; exact eI rfl; refine jz ?_; refine jjB ?_)
    refine W.draw (fun w' => Ext w_b4 w') ?_
    intro w1 hS1
    (refine jjV [0, 1, 2, 3, 4, 5, 6, 7] ?_ ?_ ?_; (decide +kernel); (exact hS1.ext); (((apply jjT; exact rfl; rintro w' hq; have := hq.toStep; refine jm ?_; refine jn rfl ?_; refine jz ?_; exact ⟨rfl, rfl⟩; apply jjT; exact rfl; rintro w' hq; have := hq.toStep; refine jN rfl rfl rfl ?_; refine jz ?_; exact ⟨rfl, rfl⟩; apply jjT; exact rfl; rintro w' hq; have := hq.toStep; refine jm ?_; refine jn rfl ?_; refine jz ?_; exact ⟨rfl, rfl⟩; apply jjT; exact rfl; rintro w' hq; have := hq.toStep; refine jN rfl rfl rfl ?_; refine jz ?_; exact ⟨rfl, rfl⟩; apply jjT; exact rfl; rintro w' hq; have := hq.toStep; refine jZ rfl rfl (by omega) ?_; refine jz ?_; exact ⟨rfl, rfl⟩; apply jjT; exact rfl; rintro w' hq; have := hq.toStep; refine jm ?_; refine jn rfl ?_; refine jz ?_; exact ⟨rfl, rfl⟩; apply jjT; exact rfl; rintro w' hq; have := hq.toStep; refine jm ?_; refine jn rfl ?_; refine jz ?_; exact ⟨rfl, rfl⟩; apply jjT; exact rfl; rintro w' hq; have := hq.toStep; refine jN rfl rfl rfl ?_; refine jz ?_; exact ⟨rfl, rfl⟩; refine jjU ?_))))
    refine jjV [8] (by decide +kernel) hS1.ext (jjT (v := .pointer (some ⟨1, 0 + 2, none⟩)) rfl (fun w' q1 => ?_) (jjU ?_)); (refine Ops.indexAP (j := 2) rfl rfl rfl rfl ?_; refine jz ?_; exact ⟨rfl, rfl⟩)
    (refine jjV [9, 10, 11, 12] ?_ ?_ ?_; (decide +kernel); (exact hS1.ext); (((apply jjT; exact rfl; rintro w' hq; have := hq.toStep; refine jm ?_; refine jn rfl ?_; refine jz ?_; exact ⟨rfl, rfl⟩; apply jjT; exact rfl; rintro w' hq; have := hq.toStep; refine jN rfl rfl rfl ?_; refine jz ?_; exact ⟨rfl, rfl⟩; apply jjT; exact rfl; rintro w' hq; have := hq.toStep; refine jO rfl rfl rfl rfl ?_; refine jz ?_; exact ⟨rfl, rfl⟩; apply jjT; exact rfl; rintro w' hq; have := hq.toStep; refine jO rfl rfl rfl rfl ?_; refine jz ?_; exact ⟨rfl, rfl⟩; refine jjU ?_))))
    (apply jjW 13; (decide +kernel); exact rfl; (exact hS1.ext))
    refine jjQ (sides2_slip ws i a b _ ha hb) rfl rfl ?_
    rintro _ w2 hS2 rfl
    refine jz ?_
    (apply jjW 14; (decide +kernel); exact rfl; (exact hS1.ext.trans hS2.ext))
    refine Ops.buildSlice2 (u := .int .i64 (lenX ws b - lenX ws a)) (v := .int .i64 ((b.1 : Int) - a.1)) rfl rfl rfl rfl rfl ?_
    intro b9 w3 hb3 hs3 hS3 hk3
    refine jz ?_
    have hE3 := (hS1.ext.trans hS2.ext).trans hS3.ext
    have hr3 : RowV w3 false 1 (.slice (some ⟨b9, 0, none⟩) 2 2) ([lenX ws b - lenX ws a, (b.1 : Int) - a.1].map intV) := hk3.row (fun x hx => by simp at hx; rcases hx with rfl | rfl <;> rfl) (by simp)
    (apply jjW 15; (decide +kernel); exact rfl; (exact hE3))
    refine jjQ (Or_int _ _ _ [lenX ws b - lenX ws a, (b.1 : Int) - a.1] _ rfl hr3) rfl rfl ?_
    rintro _ w4 hS4 rfl
    refine jz ?_
    (apply jjW 16; (decide +kernel); exact rfl; (exact hE3.trans hS4.ext))
    (apply jJ; exact eI rfl; refine jz ?_)
    refine jjX (by decide +kernel) (hE3.trans hS4.ext) ?_
    (refine jjF ?_; refine jB rfl rfl ⟨inferInstance, ?_⟩)
    exact rfl
  · refine Ct.ofW (by simp) ?_
    (refine jjB ?_; refine jjC ?_)
    (refine jy rfl ?_; intro b3 w_b3 hb_b3 hs_b3 hS_b3 hk_b3; have hA_b3 := At.ofBlock hk_b3)
    skip
    (refine jy rfl ?_; intro b4 w_b4 hb_b4 hs_b4 hS_b4 hk_b4; have hA_b4 := At.ofBlock hk_b4)
    (apply jJ; exact eI rfl; refine jz ?_; refine jjB ?_)
    refine W.draw (fun w' => Ext w_b4 w') ?_
    intro w1 hS1
    (refine jjV [0, 1, 2, 3, 4, 5, 6, 7] ?_ ?_ ?_; (decide +kernel); (exact hS1.ext); (((apply jjT; exact rfl; rintro w' hq; have := hq.toStep; refine jm ?_; refine jn rfl ?_; refine jz ?_; exact ⟨rfl, rfl⟩; apply jjT; exact rfl; rintro w' hq; have := hq.toStep; refine jN rfl rfl rfl ?_; refine jz ?_; exact ⟨rfl, rfl⟩; apply jjT; exact rfl; rintro w' hq; have := hq.toStep; refine jm ?_; refine jn rfl ?_; refine jz ?_; exact ⟨rfl, rfl⟩; apply jjT; exact rfl; rintro w' hq; have := hq.toStep; refine jN rfl rfl rfl ?_; refine jz ?_; exact ⟨rfl, rfl⟩; apply jjT; exact rfl; rintro w' hq; have := hq.toStep; refine jZ rfl rfl (by omega) ?_; refine jz ?_; exact ⟨rfl, rfl⟩; apply jjT; exact rfl; rintro w' hq; have := hq.toStep; refine jm ?_; refine jn rfl ?_; refine jz ?_; exact ⟨rfl, rfl⟩; apply jjT; exact rfl; rintro w' hq; have := hq.toStep; refine jm ?_; refine jn rfl ?_; refine jz ?_; exact ⟨rfl, rfl⟩; apply jjT; exact rfl; rintro w' hq; have := hq.toStep; refine jN rfl rfl rfl ?_; refine jz ?_; exact ⟨rfl, rfl⟩; refine jjU ?_))))
    refine jjV [8] (by decide +kernel) hS1.ext (jjT (v := .pointer (some ⟨1, 0 + 3, none⟩)) rfl (fun w' q1 => ?_) (jjU ?_)); (refine Ops.indexAP (j := 3) rfl rfl rfl rfl ?_; refine jz ?_; exact ⟨rfl, rfl⟩)
    (refine jjV [9, 10, 11, 12] ?_ ?_ ?_; (decide +kernel); (exact hS1.ext); (((apply jjT; exact rfl; rintro w' hq; have := hq.toStep; refine jm ?_; refine jn rfl ?_; refine jz ?_; exact ⟨rfl, rfl⟩; apply jjT; exact rfl; rintro w' hq; have := hq.toStep; refine jN rfl rfl rfl ?_; refine jz ?_; exact ⟨rfl, rfl⟩; apply jjT; exact rfl; rintro w' hq; have := hq.toStep; refine jO rfl rfl rfl rfl ?_; refine jz ?_; exact ⟨rfl, rfl⟩; apply jjT; exact rfl; rintro w' hq; have := hq.toStep; refine jO rfl rfl rfl rfl ?_; refine jz ?_; exact ⟨rfl, rfl⟩; refine jjU ?_))))
    (apply jjW 13; (decide +kernel); exact rfl; (exact hS1.ext))
    refine jjQ (sides3_slip ws i a b _ ha hb) rfl rfl ?_
    rintro _ w2 hS2 rfl
    refine jz ?_
    (apply jjW 14; (decide +kernel); exact rfl; (exact hS1.ext.trans hS2.ext))
    refine Ops.buildSlice2 (u := .int .i64 (lenX ws b - lenX ws a)) (v := .int .i64 (orF [unE i a - unE i b, (b.1 : Int) - a.1])) rfl rfl rfl rfl rfl ?_
    intro b9 w3 hb3 hs3 hS3 hk3
    refine jz ?_
    have hE3 := (hS1.ext.trans hS2.ext).trans hS3.ext
    have hr3 : RowV w3 false 1 (.slice (some ⟨b9, 0, none⟩) 2 2) ([lenX ws b - lenX ws a, orF [unE i a - unE i b, (b.1 : Int) - a.1]].map intV) := hk3.row (fun x hx => by simp at hx; rcases hx with rfl | rfl <;> rfl) (by simp)
    (apply jjW 15; (decide +kernel); exact rfl; (exact hE3))
    refine jjQ (Or_int _ _ _ [lenX ws b - lenX ws a, orF [unE i a - unE i b, (b.1 : Int) - a.1]] _ rfl hr3) rfl rfl ?_
    rintro _ w4 hS4 rfl
    refine jz ?_
    (apply jjW 16; (decide +kernel); exact rfl; (exact hE3.trans hS4.ext))
    (apply jJ; exact eI rfl; refine jz ?_)
    refine jjX (by decide +kernel) (hE3.trans hS4.ext) ?_
    (refine jjF ?_; refine jB rfl rfl ⟨inferInstance, ?_⟩)
    exact rfl

/-- What the best context's variable holds. -/
abbrev cxC (ws : List ByteArray) (i : Nat) : Option Cx → List Value
  | none => [.int .i64 0, .int .i64 0, .int .i64 0, .int .i64 0]
  | some x => [.int .i64 (x.1 : Int), .int .i64 (i : Int), .int .i64 (x.2 : Int), .int .i64 (lenX ws x)]
set_option maxHeartbeats 2000000 in
theorem first_slip (bi br br2 : Nat) (ws : List ByteArray) (wd side : Int) (i : Nat) (wa : Option Addr) (wc : Nat) (aa : Option Addr) (al ac : Nat) (w : World) (hi : i < ws.length) (hsz : ∀ s ∈ ws, s.size ≤ 1000) (hn : ws.length ≤ 1000000) (hW : 0 ≤ wd ∧ wd ≤ 1000) (hs : 1 ≤ side ∧ side ≤ 3) (hwi : (ws[i].size : Int) ≤ wd)
    (hF : RunF bi br ws wd side i wa wc aa al ac w) (hr2 : At w br2 0 [.int .i64 wd, .int .u8 side, .slice wa ws.length wc, .slice aa al ac]) (hg : At w 1 0 sidesC) :
    Ct Tryz.prog 160 [.func (.func 171) #[] ([.pointer (some ⟨bi, 0, none⟩), .pointer (some ⟨br, 0, none⟩)] : List Value).toArray, .func (.func 162) #[] ([.pointer (some ⟨br2, 0, none⟩)] : List Value).toArray] w fun v _ => v = encX ws i (bestA ws side wd i) := by
  have hbest := fst_best (side := side) hi hwi
  have hmem : ∀ x ∈ ctxA ws i wd, InX ws.length i x ∧ 0 ≤ lenX ws x ∧ lenX ws x ≤ 1001000000 := fun x hx => by
    have h := (mem_ctxA hi).1 hx
    exact ⟨⟨h.1, h.2.1, h.2.2.1, hn⟩, lenX_bound hsz hn (by omega) h.2.2.1⟩
  have hst : ∀ k b, ((ctxA ws i wd).take k).foldl (bestS (ordI ws side i)) none = some b → b ∈ ctxA ws i wd := by
    intro k b
    induction k generalizing b with
    | zero => intro h; cases h
    | succ k ih =>
      intro h
      by_cases hk : k < (ctxA ws i wd).length
      · rw [take_snoc_get (List.getElem?_eq_getElem hk), List.foldl_append, List.foldl_cons, List.foldl_nil] at h
        cases hq : ((ctxA ws i wd).take k).foldl (bestS (ordI ws side i)) none with
        | none => rw [hq] at h; cases h; exact List.getElem_mem hk
        | some c =>
          rw [hq] at h
          simp only [bestS] at h
          split at h
          · cases h; exact List.getElem_mem hk
          · cases h; exact ih _ hq
      · rw [List.take_of_length_le (by omega)] at h
        rw [List.take_of_length_le (by omega)] at ih
        exact ih b h
  refine Ct.ofWM (by simp) ?_
  (refine jjB ?_; refine jjC ?_)
  (refine jy rfl ?_; intro b3 w_b3 hb_b3 hs_b3 hS_b3 hk_b3; have hA_b3 := At.ofBlock hk_b3)
  ((skip); refine jjY ?_; intro b4 w_b4 hb_b4 hs_b4 hS_b4 hk_b4; have hA_b4 := Bk.of hk_b4)
  (((refine jz ?_; refine jjB ?_; refine jjC ?_)); refine jjY ?_; intro b5 w_b5 hb_b5 hs_b5 hS_b5 hk_b5; have hA_b5 := Bk.of hk_b5)
  (refine jz ?_; refine jjB ?_; refine jjC ?_)
  (apply jjR rfl; (intro _; first|exact eI rfl|exact eB rfl|exact eP rfl|exact eS rfl|exact eT rfl|exact eA rfl|exact eU rfl|exact eF rfl|exact eM rfl|exact eN rfl|exact rfl); exact rfl; exact rfl; exact rfl; exact rfl; intro b6 w_b6 hb_b6 hs_b6 hS_b6 hk_b6; have hA_b6 := Bk.of hk_b6)
  (refine jz ?_; refine jjB ?_; refine jjB ?_; refine jjC ?_; apply jI; exact eF rfl; refine jz ?_; refine jjD ?_)
  have hE6 : Ext w w_b6 := inferInstance
  refine W.range w.heap.size (ctxA ws i wd) (encX1 ws i) (contexts1_slip bi br ws wd side i wa wc aa al ac hi hsz hn hW) rfl (fun _ => rfl) trivial inferInstance hE6.size
    (fun k V => Ext w V ∧ w_b6.heap.size ≤ V.heap.size ∧ At V b3 0 [.func (.func 162) #[] ([.pointer (some ⟨br2, 0, none⟩)] : List Value).toArray] ∧ Bk V b4 [.int .i64 0, .int .i64 0, .int .i64 0, .int .i64 0] 212 ∧ Bk V b5 (cxC ws i (((ctxA ws i wd).take k).foldl (bestS (ordI ws side i)) none)) 212 ∧ Bk V b6 [.bool (((ctxA ws i wd).take k).foldl (bestS (ordI ws side i)) none).isSome] 4)
    (fun _ _ _ => False) ?hJ (fun _ _ _ _ h _ => h) ?hF ?h0 (fun x s' V => ∃ b7, s' 3 = .pointer (some ⟨b3, 0, none⟩) ∧ s' 5 = .pointer (some ⟨b5, 0, none⟩) ∧ s' 6 = .pointer (some ⟨b6, 0, none⟩) ∧ s' 7 = .pointer (some ⟨b7, 0, none⟩) ∧ w_b6.heap.size ≤ b7 ∧ Bk V b7 (cxC ws i (some x)) 212) (fun x s V V' ⟨b7, h1, h2, h3, h4, h5, h6⟩ g => ⟨b7, h1, h2, h3, h4, h5, h6.grow g⟩) ?hassign ?hbody ?hdone (fun _ _ _ _ _ _ _ h => h.elim)
  case hJ =>
    rintro k V V' ⟨h1, h2, h3, h4, h5, h6⟩ g
    exact ⟨h1.ofGrow g hE6.size, Nat.le_trans h2 g.size, h3.grow g, h4.grow g, h5.grow g, h6.grow g⟩
  case hF =>
    rintro k V ⟨h1, h2, h3, h4, h5, h6⟩
    exact ⟨h2, hF.num.ext h1, hF.run.ext h1, hF.row.ext h1⟩
  case h0 =>
    exact ⟨hE6, Nat.le_refl _, inferInstance, inferInstance, inferInstance, inferInstance⟩
  case hassign =>
    rintro l k x V hx ⟨h1, h2, h3, h4, h5, h6⟩ hl hr
    (refine jjC ?_)
    (apply jjR rfl; (intro _; first|exact eI rfl|exact eB rfl|exact eP rfl|exact eS rfl|exact eT rfl|exact eA rfl|exact eU rfl|exact eF rfl|exact eM rfl|exact eN rfl|exact rfl); exact rfl; exact rfl; exact rfl; exact rfl; intro b7 w_b7 hb_b7 hs_b7 hS_b7 hk_b7; have hA_b7 := Bk.of hk_b7)
    (refine jz ?_)
    exact ⟨rfl, hS_b7.ext.tr, Fr.ext hS_b7.ext, ⟨h1.trans hS_b7.ext, by have := hS_b7.size; omega, h3.ext hS_b7.ext, h4.ext hS_b7.ext, h5.ext hS_b7.ext, h6.ext hS_b7.ext⟩, b7, rfl, rfl, rfl, rfl, by omega, inferInstance⟩
  case hbody =>
    rintro l k x s' V hx ⟨h1, h2, h3, h4, h5, h6⟩ ⟨b7, ha3, ha5, ha6, ha7, hlb, hb7⟩ hl hr
    have hxm := hmem x (List.mem_of_getElem? hx)
    have hnext : ((ctxA ws i wd).take (k + 1)).foldl (bestS (ordI ws side i)) none = bestS (ordI ws side i) (((ctxA ws i wd).take k).foldl (bestS (ordI ws side i)) none) x := by rw [take_snoc_get hx, List.foldl_append, List.foldl_cons, List.foldl_nil]
    have hstk := hst k
    refine W.fix (d := 3) ha3 (W.fix (d := 5) ha5 (W.fix (d := 6) ha6 (W.fix (d := 7) ha7 ?_)))
    clear ha3 ha5 ha6 ha7
    rw [hnext]
    generalize ((ctxA ws i wd).take k).foldl (bestS (ordI ws side i)) none = st at h5 h6 hstk hnext ⊢
    clear hnext
    have n56 : b5 ≠ b6 := by omega
    have n46 : b4 ≠ b6 := by omega
    have n45 : b4 ≠ b5 := by omega
    have n35 : b3 ≠ b5 := by omega
    have n36 : b3 ≠ b6 := by omega
    have hw5 : b5 < w_b6.heap.size := by omega
    have hw6 : b6 < w_b6.heap.size := by omega
    have hw5' : w.heap.size ≤ b5 := by omega
    have hw6' : w.heap.size ≤ b6 := by omega
    have := Bk.toAt (h := h5)
    have := Bk.toAt (h := h6)
    have := Bk.toAt (h := hb7)
    cases st with
    | none =>
      (refine jjD ?_; refine jjB ?_; refine jjC ?_; refine jN rfl rfl rfl ?_; refine jq rfl ?_; apply jI; exact eB rfl; refine jU rfl rfl rfl rfl ?_; refine jU rfl rfl rfl rfl ?_; refine jU rfl rfl rfl rfl ?_; refine jU rfl rfl rfl rfl ?_; refine jU rfl rfl rfl rfl ?_; apply jK rfl; exact eB rfl; refine jz ?_; refine jjJ rfl ?_; refine jjC ?_; refine jO rfl rfl rfl rfl ?_)
      refine Ops.store rfl rfl rfl rfl rfl ?_
      intro V2 hp2
      have k6 := hp2.bk (h6) (Ne.symm n56)
      have := Bk.toAt (h := k6)
      skip
      refine Ops.store rfl rfl rfl rfl rfl ?_
      intro V3 hp3
      (refine jz ?_)
      have z2 := hp2.size
      have z3 := hp3.size
      have k5 : Bk V3 b5 (cxC ws i (some x)) 212 := hp3.bk ⟨hp2.new⟩ n56
      exact ⟨(hp2.tr ⟨_, (h5).h, rfl⟩).trans (hp3.tr ⟨_, k6.h, rfl⟩), (hp2.frS (by omega)).trans (hp3.frS (by omega)), hp3.ext (hp2.ext (h1) hw5') hw6', by omega, hp3.at_ (hp2.at_ (h3) n35) n36, hp3.bk (hp2.bk (h4) n45) n46, k5, ⟨hp3.new⟩⟩
    | some b =>
      have hbm := hmem b (hstk b rfl)
      have := hr2.ext h1
      have := hg.ext h1
      by_cases ho : ordI ws side i x b < 0
      · have e : bestS (ordI ws side i) (some b) x = some x := if_pos ho
        rw [e]
        (refine jjD ?_; refine jjB ?_; refine jjC ?_; refine jN rfl rfl rfl ?_; refine jp rfl ?_; apply jI; exact eB rfl; refine jT rfl rfl rfl ?_; refine jN rfl rfl rfl ?_; refine jT rfl rfl rfl ?_; refine jO rfl rfl rfl rfl ?_; refine jT rfl rfl rfl ?_; refine jO rfl rfl rfl rfl ?_; refine jT rfl rfl rfl ?_)
        refine jjQ (slip1_slip br2 ws wd side i _ _ x b _ hs hxm.1 hbm.1 hxm.2 hbm.2) rfl rfl ?_
        rintro _ w2 hS2 rfl
        have f5 := h5.ext hS2.ext
        have := Bk.toAt (h := f5)
        have z9 := hS2.size
        (refine jT rfl rfl rfl ?_; refine jjZ rfl rfl (by omega) ?_; apply jL rfl; exact eB rfl; refine jz ?_; refine jjJ rfl ?_; refine jjC ?_; refine jO rfl rfl rfl rfl ?_)
        refine Ops.store rfl rfl rfl rfl rfl ?_
        intro V2 hp2
        have k6 := hp2.bk (h6.ext hS2.ext) (Ne.symm n56)
        have := Bk.toAt (h := k6)
        skip
        refine Ops.store rfl rfl rfl rfl rfl ?_
        intro V3 hp3
        (refine jz ?_)
        have z2 := hp2.size
        have z3 := hp3.size
        have k5 : Bk V3 b5 (cxC ws i (some x)) 212 := hp3.bk ⟨hp2.new⟩ n56
        exact ⟨hS2.ext.tr.trans ((hp2.tr ⟨_, (f5).h, rfl⟩).trans (hp3.tr ⟨_, k6.h, rfl⟩)), (Fr.ext hS2.ext).trans ((hp2.frS (by omega)).trans (hp3.frS (by omega))), hp3.ext (hp2.ext (h1.trans hS2.ext) hw5') hw6', by omega, hp3.at_ (hp2.at_ (h3.ext hS2.ext) n35) n36, hp3.bk (hp2.bk (h4.ext hS2.ext) n45) n46, k5, ⟨hp3.new⟩⟩
      · have e : bestS (ordI ws side i) (some b) x = some b := if_neg ho
        rw [e]
        (refine jjD ?_; refine jjB ?_; refine jjC ?_; refine jN rfl rfl rfl ?_; refine jp rfl ?_; apply jI; exact eB rfl; refine jT rfl rfl rfl ?_; refine jN rfl rfl rfl ?_; refine jT rfl rfl rfl ?_; refine jO rfl rfl rfl rfl ?_; refine jT rfl rfl rfl ?_; refine jO rfl rfl rfl rfl ?_; refine jT rfl rfl rfl ?_)
        refine jjQ (slip1_slip br2 ws wd side i _ _ x b _ hs hxm.1 hbm.1 hxm.2 hbm.2) rfl rfl ?_
        rintro _ w2 hS2 rfl
        (refine jT rfl rfl rfl ?_; refine jja rfl rfl (by omega) ?_; apply jL rfl; exact eB rfl; refine jz ?_; refine jjK rfl ?_; refine jjG ?_)
        have z9 := hS2.size
        exact ⟨hS2.ext.tr, Fr.ext hS2.ext, h1.trans hS2.ext, by omega, h3.ext hS2.ext, h4.ext hS2.ext, h5.ext hS2.ext, h6.ext hS2.ext⟩
  case hdone =>
    rintro ds' V hmk htr ⟨h1, h2, h3, h4, h5, h6⟩
    rw [List.take_length, ← fstF, hbest] at h5
    have := Bk.toAt (h := h5)
    (refine jjB ?_; refine jjC ?_; refine jO rfl rfl rfl rfl ?_)
    refine Ops.store rfl rfl rfl rfl rfl ?_
    intro V2 hp2
    have k4 : Bk V2 b4 (cxC ws i (some (bestA ws side wd i))) 212 := ⟨hp2.new⟩
    (refine jz ?_; refine jjF ?_)
    refine fin1CM rfl rfl rfl k4 rfl rfl (hmk.tr (hp2.tr ⟨_, h4.h, rfl⟩)) fun w' g => ⟨(hp2.ext h1 (by omega)).ofGrow g (Nat.le_refl _), rfl⟩

theorem joinB_fit {ws : List ByteArray} (hsz : ∀ s ∈ ws, s.size ≤ 1000) (hn : ws.length ≤ 1000000) (a b : Nat) : (joinB ((ws.take b).drop a)).size ≤ 140737488355328 := by
  have h1 := joinB_size ((ws.take b).drop a) (m := 1000) fun s h => hsz s (List.mem_of_mem_take (List.mem_of_mem_drop h))
  have h2 : ((ws.take b).drop a).length ≤ 1000000 := by rw [List.length_drop, List.length_take]; omega
  have := Nat.mul_le_mul_right (1000 + 1) h2
  omega
theorem bestA_in {ws : List ByteArray} {side W : Int} {i : Nat} (hi : i < ws.length) : (bestA ws side W i).1 ≤ i ∧ i ≤ (bestA ws side W i).2 ∧ (bestA ws side W i).2 < ws.length := by
  have := stB_in (side := side) (W := W) (a := i + 1) (m := 0) hi (Nat.le_refl _) (by omega) (.inr rfl)
  rwa [stB_zero, stA_end] at this
set_option maxHeartbeats 4000000 in
theorem slip_slip (ws : List ByteArray) (ps : List Pl) (wd side : Int) (i : Nat) (p : Pl) (wa : Option Addr) (wc : Nat) (aa : Option Addr) (ac : Nat) (w : World) (hp : ps[i]? = some p) (hl : ps.length = ws.length) (hsz : ∀ s ∈ ws, s.size ≤ 1000) (hn : ws.length ≤ 1000000) (hW : 0 ≤ wd ∧ wd ≤ 1000) (hs : 1 ≤ side ∧ side ≤ 3) (hwi : ∀ s ∈ ws, (s.size : Int) ≤ wd)
    (hRw : RowV w false 1 (.slice wa ws.length wc) (ws.map strV)) (hRa : RowV w true 3 (.slice aa ps.length ac) (ps.map encPl)) (hg : At w 1 0 sidesC) :
    Ct Tryz.prog 142 [.agg #[.int .i64 wd, .int .u8 side, .slice wa ws.length wc, .slice aa ps.length ac], .int .i64 (i : Int)] w fun v _ => v = encSl (slipX ws side wd i p) := by
  have hi : i < ws.length := by have := (List.getElem?_eq_some_iff.1 hp).1; omega
  have hip : i < ps.length := by omega
  obtain ⟨bw, ow, rfl, hAw⟩ := hRw.place' (map_get hi)
  rw [Nat.mul_one] at hAw
  obtain ⟨ba, oa, rfl, hAp⟩ := hRa.place' (by rw [List.getElem?_map, hp]; rfl)
  have hcw := hRw.cap.2
  rw [List.length_map] at hcw
  have hlw := hAw.lt
  have hla := hAp.lt
  refine Ct.ofW (by simp) ?_
  (refine jjB ?_; refine jjC ?_)
  (refine jy rfl ?_; intro b2 w_b2 hb_b2 hs_b2 hS_b2 hk_b2; have hA_b2 := At.ofBlock hk_b2)
  ((skip); refine jjY ?_; intro b4 w_b4 hb_b4 hs_b4 hS_b4 hk_b4; have hA_b4 := Bk.of hk_b4)
  (refine jz ?_; refine jjB ?_; refine jjC ?_; refine jO rfl rfl rfl rfl ?_; apply jI; exact eI rfl)
  refine jjQ (contexts_slip ws wd side i _ wc _ ps.length ac _) rfl rfl ?_
  rintro _ w2 hS2 ⟨bi, br, rfl, hAi, hAr⟩
  have hE2 : Ext w w2 := inferInstance
  (refine jv ?_)
  refine jjQ (first_slip bi br b2 ws wd side i _ wc _ ps.length ac _ hi hsz hn hW hs (hwi _ (List.getElem_mem hi)) ⟨hAi, hAr, hRw.ext hE2⟩ inferInstance (hg.ext hE2)) rfl rfl ?_
  rintro _ w3 hS3 rfl
  obtain ⟨hin1, hin2, hin3⟩ := bestA_in (side := side) (W := wd) hi
  rw [slipX]
  generalize bestA ws side wd i = st at *
  skip
  (apply jjR rfl; (intro _; first|exact eI rfl|exact eB rfl|exact eP rfl|exact eS rfl|exact eT rfl|exact eA rfl|exact eU rfl|exact eF rfl|exact eM rfl|exact eN rfl|exact rfl); exact rfl; exact rfl; exact rfl; exact rfl; intro b5 w_b5 hb_b5 hs_b5 hS_b5 hk_b5; have hA_b5 := Bk.of hk_b5)
  (refine jz ?_; refine jjB ?_)
  have hE5 : Ext w w_b5 := inferInstance
  have z5 := hE5.size
  have hc1 := hRw.cut (lo := st.1) (hi := i) hin1 (by rw [List.length_map]; omega)
  have hc2 := hRw.cut (lo := i + 1) (hi := st.2 + 1) (by omega) (by rw [List.length_map]; omega)
  rw [← List.map_take, ← List.map_drop] at hc1 hc2
  have hd : ws.getD i ⟨#[]⟩ = ws[i] := by rw [List.getD_eq_getElem?_getD, List.getElem?_eq_getElem hi, Option.getD_some]
  rw [hd]
  have hb4 : Bk w_b5 b4 [.int .i64 0, .int .i64 0, .int .i64 0, .string ⟨#[]⟩, .string ⟨#[]⟩, .string ⟨#[]⟩] 49 := inferInstance
  have hb2 : At w_b5 b2 0 [.int .i64 wd, .int .u8 side, .slice (some ⟨bw, ow, none⟩) ws.length wc, .slice (some ⟨ba, oa, none⟩) ps.length ac] := inferInstance
  have hb5 : At w_b5 b5 0 [.int .i64 (st.1 : Int), .int .i64 (i : Int), .int .i64 (st.2 : Int), .int .i64 (lenX ws st)] := inferInstance
  have hAw5 := hAw.ext hE5
  have hAp5 := hAp.ext hE5
  have z2 := hS2.size
  have z3 := hS3.size
  have n2 : b2 ≠ b4 := by omega
  have n5 : b5 ≠ b4 := by omega
  have nw : bw ≠ b4 := by omega
  have na : ba ≠ b4 := by omega
  refine W.draw (fun w' => Only b4 w_b5 w') ?_
  intro wC hSC
  have hC : Ext w_b5 wC := hSC.ext
  (refine jjV [0, 1, 2, 3, 4, 5, 6, 7, 8, 9, 10, 11, 12, 13, 14] ?_ ?_ ?_; (decide +kernel); (exact .ofExt hC); (((apply jjT; exact rfl; rintro w' hq; have := hq.at_ hb2 n2; have := hq.at_ hb5 n5; have := hq.at_ hAw5 nw; have := hq.at_ hAp5 na; refine jm ?_; refine jn rfl ?_; refine jz ?_; exact ⟨rfl, rfl⟩; apply jjT; exact rfl; rintro w' hq; have := hq.at_ hb2 n2; have := hq.at_ hb5 n5; have := hq.at_ hAw5 nw; have := hq.at_ hAp5 na; refine jN rfl rfl rfl ?_; refine jz ?_; exact ⟨rfl, rfl⟩; apply jjT; exact rfl; rintro w' hq; have := hq.at_ hb2 n2; have := hq.at_ hb5 n5; have := hq.at_ hAw5 nw; have := hq.at_ hAp5 na; apply jI; exact eI rfl; refine jz ?_; exact ⟨rfl, rfl⟩; apply jjT; exact rfl; rintro w' hq; have := hq.at_ hb2 n2; have := hq.at_ hb5 n5; have := hq.at_ hAw5 nw; have := hq.at_ hAp5 na; refine jH _ rfl rfl rfl (by omega) ?_; refine jz ?_; exact ⟨rfl, rfl⟩; apply jjT; exact rfl; rintro w' hq; have := hq.at_ hb2 n2; have := hq.at_ hb5 n5; have := hq.at_ hAw5 nw; have := hq.at_ hAp5 na; refine jQ rfl rfl ?_; refine jz ?_; exact ⟨rfl, rfl⟩; apply jjT; exact rfl; rintro w' hq; have := hq.at_ hb2 n2; have := hq.at_ hb5 n5; have := hq.at_ hAw5 nw; have := hq.at_ hAp5 na; refine jm ?_; refine jn rfl ?_; refine jz ?_; exact ⟨rfl, rfl⟩; apply jjT; exact rfl; rintro w' hq; have := hq.at_ hb2 n2; have := hq.at_ hb5 n5; have := hq.at_ hAw5 nw; have := hq.at_ hAp5 na; refine jN rfl rfl rfl ?_; refine jz ?_; exact ⟨rfl, rfl⟩; apply jjT; exact rfl; rintro w' hq; have := hq.at_ hb2 n2; have := hq.at_ hb5 n5; have := hq.at_ hAw5 nw; have := hq.at_ hAp5 na; apply jI; exact eI rfl; refine jz ?_; exact ⟨rfl, rfl⟩; apply jjT; exact rfl; rintro w' hq; have := hq.at_ hb2 n2; have := hq.at_ hb5 n5; have := hq.at_ hAw5 nw; have := hq.at_ hAp5 na; refine jG rfl rfl rfl (by omega) ?_; refine jz ?_; exact ⟨rfl, rfl⟩; apply jjT; exact rfl; rintro w' hq; have := hq.at_ hb2 n2; have := hq.at_ hb5 n5; have := hq.at_ hAw5 nw; have := hq.at_ hAp5 na; refine jQ rfl rfl ?_; refine jz ?_; exact ⟨rfl, rfl⟩; apply jjT; exact rfl; rintro w' hq; have := hq.at_ hb2 n2; have := hq.at_ hb5 n5; have := hq.at_ hAw5 nw; have := hq.at_ hAp5 na; refine jm ?_; refine jn rfl ?_; refine jz ?_; exact ⟨rfl, rfl⟩; apply jjT; exact rfl; rintro w' hq; have := hq.at_ hb2 n2; have := hq.at_ hb5 n5; have := hq.at_ hAw5 nw; have := hq.at_ hAp5 na; refine jN rfl rfl rfl ?_; refine jz ?_; exact ⟨rfl, rfl⟩; apply jjT; exact rfl; rintro w' hq; have := hq.at_ hb2 n2; have := hq.at_ hb5 n5; have := hq.at_ hAw5 nw; have := hq.at_ hAp5 na; refine jm ?_; refine jn rfl ?_; refine jz ?_; exact ⟨rfl, rfl⟩; apply jjT; exact rfl; rintro w' hq; have := hq.at_ hb2 n2; have := hq.at_ hb5 n5; have := hq.at_ hAw5 nw; have := hq.at_ hAp5 na; refine jN rfl rfl rfl ?_; refine jz ?_; exact ⟨rfl, rfl⟩; apply jjT; exact rfl; rintro w' hq; have := hq.at_ hb2 n2; have := hq.at_ hb5 n5; have := hq.at_ hAw5 nw; have := hq.at_ hAp5 na; apply jI; exact eI rfl; refine jz ?_; exact ⟨rfl, rfl⟩; refine jjU ?_))))
  refine jjV [15] (by decide +kernel) (.ofExt hC) (jjT (v := cutV (some ⟨bw, ow, none⟩) wc 1 st.1 i) rfl (fun w' q1 => ?_) (jjU ?_)); (refine Ops.sliceLHv (lo := st.1) (hi := i) rfl rfl rfl rfl rfl (by omega) (by omega) ?_; refine jz ?_; exact ⟨rfl, rfl⟩)
  (refine jjV [17, 18, 19, 20, 21, 22, 23] ?_ ?_ ?_; (decide +kernel); (exact .ofExt hC); (((apply jjT; exact rfl; rintro w' hq; have := hq.at_ hb2 n2; have := hq.at_ hb5 n5; refine jm ?_; refine jn rfl ?_; refine jz ?_; exact ⟨rfl, rfl⟩; apply jjT; exact rfl; rintro w' hq; have := hq.at_ hb2 n2; have := hq.at_ hb5 n5; refine jN rfl rfl rfl ?_; refine jz ?_; exact ⟨rfl, rfl⟩; apply jjT; exact rfl; rintro w' hq; have := hq.at_ hb2 n2; have := hq.at_ hb5 n5; apply jI; exact eI rfl; refine jz ?_; exact ⟨rfl, rfl⟩; apply jjT; exact rfl; rintro w' hq; have := hq.at_ hb2 n2; have := hq.at_ hb5 n5; refine jY rfl rfl (by omega) ?_; refine jz ?_; exact ⟨rfl, rfl⟩; apply jjT; exact rfl; rintro w' hq; have := hq.at_ hb2 n2; have := hq.at_ hb5 n5; refine jm ?_; refine jn rfl ?_; refine jz ?_; exact ⟨rfl, rfl⟩; apply jjT; exact rfl; rintro w' hq; have := hq.at_ hb2 n2; have := hq.at_ hb5 n5; refine jN rfl rfl rfl ?_; refine jz ?_; exact ⟨rfl, rfl⟩; apply jjT; exact rfl; rintro w' hq; have := hq.at_ hb2 n2; have := hq.at_ hb5 n5; refine jY rfl rfl (by omega) ?_; refine jz ?_; exact ⟨rfl, rfl⟩; refine jjU ?_))))
  refine jjV [24] (by decide +kernel) (.ofExt hC) (jjT (v := cutV (some ⟨bw, ow, none⟩) wc 1 (i + 1) (st.2 + 1)) rfl (fun w' q1 => ?_) (jjU ?_)); (refine Ops.sliceLHv (lo := i + 1) (hi := st.2 + 1) rfl rfl rfl rfl rfl (by omega) (by omega) ?_; refine jz ?_; exact ⟨rfl, rfl⟩)
  (apply jjW 16; (decide +kernel); exact rfl; (exact .ofExt hC))
  refine jjQ (Join_str _ _ _ ((ws.take i).drop st.1) _ (by rw [List.length_drop, List.length_take]; omega) (hc1.ext (hE5.trans hC)) (joinB_fit hsz hn _ _)) rfl rfl ?_
  rintro _ wD hSD rfl
  refine jz ?_
  have hD : Ext w_b5 wD := hC.trans hSD.ext
  (apply jjW 25; (decide +kernel); exact rfl; (exact .ofExt hD))
  refine jjQ (Join_str _ _ _ ((ws.take (st.2 + 1)).drop (i + 1)) _ (by rw [List.length_drop, List.length_take]; omega) (hc2.ext (hE5.trans hD)) (joinB_fit hsz hn _ _)) rfl rfl ?_
  rintro _ wE hSE rfl
  refine jz ?_
  have hE : Ext w_b5 wE := hD.trans hSE.ext
  (apply jjW 26; (decide +kernel); exact rfl; (exact .ofExt hE))
  (refine jjS (cells := [.int .i64 p.1, .int .i64 p.2.1, .int .i64 p.2.2, .string ws[i], .string (joinB ((ws.take i).drop st.1)), .string (joinB ((ws.take (st.2 + 1)).drop (i + 1)))]) ?_ ?_; exact rfl)
  refine jz ?_
  (apply jjW 27; (decide +kernel); exact rfl; (exact .ofExt hE))
  have h4E := hb4.ext hE
  refine Ops.store rfl rfl rfl rfl rfl ?_
  intro wF hpF
  refine jz ?_
  refine jjX (by decide +kernel) ((Only.ofExt hE).trans (.ofPut hpF)) ?_
  have k4 : At wF b4 0 [.int .i64 p.1, .int .i64 p.2.1, .int .i64 p.2.2, .string ws[i], .string (joinB ((ws.take i).drop st.1)), .string (joinB ((ws.take (st.2 + 1)).drop (i + 1)))] := Bk.toAt (h := ⟨hpF.new⟩)
  (refine jjF ?_)
  refine fin1C rfl rfl rfl rfl rfl ⟨hpF.ext (hE5.trans hE) (by omega), rfl⟩

/-- A text in the variable bt, a cut in the variable bc, and the table of sides. -/
structure SlF (bt bc : Nat) (a : Option Addr) (c : Nat) (cs : List Ch) (wd side : Int) (w : World) : Prop where
  txt : At w bt 0 [.slice a cs.length c]
  cut : At w bc 0 [.int .i64 wd, .int .u8 side]
  row : RowV w true 2 (.slice a cs.length c) (cs.map encCh)
  tx : TextI w cs
  sd : At w 1 0 sidesC
abbrev encSl1 (s : Slp) : List Value := [encSl s]
theorem cutB_in {wd side : Int} (h : cutB wd side = true) : 12 ≤ wd ∧ wd ≤ 80 ∧ 1 ≤ side ∧ side ≤ 3 := cutB_width h
theorem rnW_fit {cs : List Ch} {wd side : Int} (ht : textB (txF cs) = true) (hc : cutB wd side = true) {k : Nat} (hk : k < cs.length) : ∀ s ∈ rnW cs[k], (s.size : Int) ≤ wd := fun s h => by
  have := word_short ht (k := k) (by rw [txF_len]; exact hk) (s := s) (by rw [wsT_get hk]; exact h)
  have := cutB_in hc
  omega
set_option maxHeartbeats 2000000 in
theorem slips1_slip (bt bc : Nat) (a : Option Addr) (c : Nat) (cs : List Ch) (wd side : Int) (hs : SmallT cs) (ht : textB (txF cs) = true) (hc : cutB wd side = true) :
    Iter Tryz.prog 140 [.pointer (some ⟨bt, 0, none⟩), .pointer (some ⟨bc, 0, none⟩)] (allS (txF cs) side wd) encSl1 (SlF bt bc a c cs wd side) := by
  intro l J Jx M w hJ hJx hF hM1 hM2 hY h0
  have hs1 := hs.1
  have hcb := cutB_in hc
  have hF0 := hF 0 w h0
  have := hF0.txt
  refine Calls.ofW (by simp) ?_
  (refine jjB ?_; refine jjC ?_; refine jm ?_; refine jn rfl ?_; refine jN rfl rfl rfl ?_; refine jh rfl ?_; apply jI; exact eI rfl; refine jz ?_; refine jjD ?_)
  refine W.keep0 [(0, .func (.yield l) #[] #[]), (1, .pointer (some ⟨bt, 0, none⟩)), (2, .pointer (some ⟨bc, 0, none⟩)), (9, .int .i64 (cs.length : Int)), (10, .int .i64 ((0 : Nat) : Int))] ⟨eF rfl, eP rfl, eP rfl, eI rfl, eI rfl, trivial⟩ fun s0 => ?_
  refine W.loopG (11 :: 12 :: 4 :: 13 :: 14 :: 15 :: 16 :: 5 :: 17 :: 18 :: 19 :: 20 :: 21 :: 22 :: 6 :: 23 :: 24 :: 25 :: 26 :: 27 :: 28 :: 29 :: 30 :: 10 :: []) (fun g s' w' => ∃ k : Nat, s' 10 = .int .i64 ((k : Nat) : Int) ∧ k ≤ cs.length ∧ g = cs.length - k ∧ J (slA (txF cs) side wd k).length w') cs.length ⟨0, rfl, by omega, rfl, h0⟩ ?_
  rintro _ sd w' ⟨k, h10, hk, rfl, hJk⟩
  refine W.fix h10 ?_
  clear h10
  have hFk := hF _ _ hJk
  have := hFk.txt
  have := hFk.cut
  by_cases hkc : k < cs.length
  rotate_left
  · obtain rfl : k = cs.length := by omega
    (refine jjB ?_; refine jjC ?_; refine jja rfl rfl (by omega) ?_; refine jz ?_; refine jjB ?_; refine jjK rfl ?_; refine jjE ?_; refine jA rfl ⟨⟨_, rfl⟩, ?_⟩)
    refine .inl ?_
    rw [← slA_end, txF_len]; exact hJk
  have i1 : RowI w' (.slice a cs.length c) true 2 (cs.map encCh) := ⟨hFk.row⟩
  have i2 : TextI w' cs := hFk.tx
  (refine jjB ?_; refine jjC ?_; refine jjZ rfl rfl (by omega) ?_; refine jz ?_; refine jjB ?_; refine jjJ rfl ?_; refine jjG ?_; refine jjB ?_; refine jjD ?_; refine jjB ?_; refine jjC ?_; apply jI; exact eI rfl; apply jJ; exact eI rfl; refine jz ?_; refine jjB ?_; refine jjC ?_; refine jO rfl rfl rfl rfl ?_; refine jO rfl rfl rfl rfl ?_; apply jI; exact eI rfl)
  have hget : ∀ i (_ : i < (rnW cs[k]).length), ∃ p, (runA k (chW cs[k]))[i]? = some p ∧ (allS (txF cs) side wd)[(slA (txF cs) side wd k).length + i]? = some (slipX (rnW cs[k]) side wd i p) := fun i hi => by
    have hi2 : i < (runA k (chW cs[k])).length := by rw [runA_len]; exact hi
    obtain ⟨p, hp0⟩ : ∃ p, (runA k (chW cs[k]))[i]? = some p := ⟨_, List.getElem?_eq_getElem hi2⟩
    have hp := hp0
    rw [← wsT_get hkc] at hp
    have h1 := slA_get (side := side) (W := wd) (n := (txF cs).length) (by rw [txF_len]; exact hkc) hp
    rw [slA_end, slP_eq (by rw [txF_len]; exact hkc) hp, wsT_get hkc] at h1
    exact ⟨p, hp0, h1⟩
  have hnext : (slA (txF cs) side wd k).length + (rnW cs[k]).length = (slA (txF cs) side wd (k + 1)).length := by
    rw [slA_succ, List.length_append, slsN_len (Nat.le_refl _), wsT_get hkc]
  obtain ⟨hn, hsz⟩ := rnW_small hs hkc
  have hwi := rnW_fit ht hc hkc
  have hlen : (runA k (chW cs[k])).length = (rnW cs[k]).length := runA_len _ _
  refine jjQ (runs_slip a c cs _ hs wd side k hkc) rfl rfl ?_
  rintro _ w2 hS2 ⟨wv, av, rfl, hOw, hOa⟩
  generalize rnW cs[k] = ws at *
  generalize runA k (chW cs[k]) = ps at *
  generalize (slA (txF cs) side wd k).length = L at *
  obtain ⟨wa, wc, rfl⟩ := hOw.slice
  obtain ⟨aa, ac, rfl⟩ := hOa.slice
  rw [List.length_map] at hOw hOa ⊢
  rw [List.length_map]
  skip
  (apply jjR rfl; (intro _; first|exact eI rfl|exact eB rfl|exact eP rfl|exact eS rfl|exact eT rfl|exact eA rfl|exact eU rfl|exact eF rfl|exact eM rfl|exact eN rfl|exact rfl); exact rfl; exact rfl; exact rfl; exact rfl; intro b5 w_b5 hb_b5 hs_b5 hS_b5 hk_b5; have hA_b5 := Bk.of hk_b5)
  (refine jz ?_; refine jjB ?_; refine jjC ?_; refine jm ?_; refine jn rfl ?_; refine jN rfl rfl rfl ?_; refine jh rfl ?_; apply jI; exact eI rfl; refine jz ?_; refine jjD ?_)
  have hE5 : Ext w' w_b5 := hS2.ext.trans hS_b5.ext
  have hJ5 := hJ _ _ _ hJk hE5
  have hMx : ∀ g, w'.heap.size ≤ g → ¬ M w_b5 g := fun g hg hm => by
    have := hM1 _ _ _ hJk (hM2 _ _ _ _ hJk hE5 hm)
    omega
  have z2 := hS2.size
  have hOw0 := hOw
  have hOa0 := hOa
  refine W.keep [(0, .func (.yield l) #[] #[]), (1, .pointer (some ⟨bt, 0, none⟩)), (2, .pointer (some ⟨bc, 0, none⟩)), (9, .int .i64 (cs.length : Int)), (10, .int .i64 ((k : Nat) : Int)), (5, .pointer (some ⟨b5, 0, none⟩)), (19, .int .i64 (ws.length : Int)), (20, .int .i64 ((0 : Nat) : Int))] (D := (11 :: 12 :: 4 :: 13 :: 14 :: 15 :: 16 :: 5 :: 17 :: 18 :: 19 :: 20 :: 21 :: 22 :: 6 :: 23 :: 24 :: 25 :: 26 :: 27 :: 28 :: 29 :: 30 :: 10 :: [])) (sO := upds s0 _) (by (((iterate 13 refine Same.upd rfl ?_); exact Same.ovN))) ⟨eF rfl, eP rfl, eP rfl, eI rfl, eI rfl, eP rfl, eI rfl, eI rfl, trivial⟩ fun s1 hs1' => ?_
  refine W.loopG (21 :: 22 :: 6 :: 23 :: 24 :: 25 :: 26 :: 27 :: 28 :: 29 :: 20 :: []) (fun g s' V => ∃ i : Nat, s' 20 = .int .i64 ((i : Nat) : Int) ∧ i ≤ ws.length ∧ g = ws.length - i ∧ J (L + i) V ∧ Bk V b5 [.int .i64 wd, .int .u8 side, .slice wa ws.length wc, .slice aa ps.length ac] 196 ∧ (∀ g, w'.heap.size ≤ g → g < w_b5.heap.size → ¬ M V g) ∧ w_b5.heap.size ≤ V.heap.size ∧ OwnL V w'.heap.size 9 false 1 (.slice wa ws.length wc) (ws.map strV) ∧ OwnL V w'.heap.size 47 true 3 (.slice aa ps.length ac) (ps.map encPl)) ws.length ⟨0, rfl, by omega, rfl, hJ5, inferInstance, fun g hg _ => hMx g hg, Nat.le_refl _, hOw.ext hS_b5.ext, hOa.ext hS_b5.ext⟩ ?_
  rintro _ sd2 V ⟨i, h20, hi, rfl, hJi, hB5, hMV, hzV, hOw, hOa⟩
  refine W.fix h20 ?_
  clear h20
  by_cases hil : i < ws.length
  rotate_left
  · obtain rfl : i = ws.length := by omega
    (refine jjB ?_; refine jjC ?_; refine jja rfl rfl (by omega) ?_; refine jz ?_; refine jjB ?_; refine jjK rfl ?_; refine jjE ?_; refine jjC ?_; refine jY rfl rfl (by omega) ?_; apply jI; exact eI rfl; refine jz ?_)
    exact ⟨rfl, by (((iterate 4 refine Same.upd rfl ?_); refine Same.ovN' rfl ?_; assumption)), cs.length - (k + 1), by omega, k + 1, congrArg (Value.int .i64) (by omega), by omega, rfl, hnext ▸ hJi⟩
  obtain ⟨p, hp, hall⟩ := hget i hil
  have := Bk.toAt (h := hB5)
  have hRw := hOw.row
  have hRa := hOa.row
  have hgs := (hF _ _ hJi).sd
  (refine jjB ?_; refine jjC ?_; refine jjZ rfl rfl (by omega) ?_; refine jz ?_; refine jjB ?_; refine jjJ rfl ?_; refine jjG ?_; refine jjB ?_; refine jjD ?_; refine jjB ?_; refine jjC ?_; apply jI; exact eI rfl; apply jJ; exact eI rfl; refine jz ?_; refine jjB ?_; refine jjC ?_; apply jI; exact eF rfl; refine jO rfl rfl rfl rfl ?_; apply jI; exact eI rfl)
  refine jjQ (slip_slip ws ps wd side i p wa wc aa ac _ hp hlen hsz hn (by omega) (by omega) hwi hRw hRa hgs) rfl rfl ?_
  rintro _ V2 hSV rfl
  have hJ2 := hJ _ _ _ hJi hSV.ext
  have hB52 := hB5.ext hSV.ext
  have hM2' : ∀ g, w'.heap.size ≤ g → g < w_b5.heap.size → ¬ M V2 g := fun g h1 h2 hm => hMV g h1 h2 (hM2 _ _ _ _ hJi hSV.ext hm)
  have hOw2 := hOw.ext hSV.ext
  have hOa2 := hOa.ext hSV.ext
  have zV2 := hSV.size
  skip
  refine Ops.yield (hY _ _ _ hall hJ2) rfl rfl ?_
  rintro e V3 (⟨rfl, hJ3, hFr⟩ | ⟨rfl, hJx3⟩)
  · refine ⟨_, rfl, ?_⟩
    (refine jp rfl ?_; refine jz ?_; refine jjK rfl ?_; refine jjG ?_; refine jjC ?_; refine jY rfl rfl (by omega) ?_; apply jI; exact eI rfl; refine jz ?_)
    have zF := hFr.size
    exact ⟨rfl, by (((iterate 12 refine Same.upd rfl ?_); exact Same.ovN)), ws.length - (i + 1), by omega, i + 1, congrArg (Value.int .i64) (by omega), by omega, rfl, hJ3, ⟨hFr.keep _ _ hB52.h rfl (hM2' b5 (by omega) (by omega))⟩, fun g h1 h2 hm => (hFr.own g hm).elim (hM2' g h1 h2) (fun h => by omega), by omega, hOw2.fr hFr (fun g hg => hM2' g (hOw0.block g hg).1 (by have := (hOw0.block g hg).2; omega)), hOa2.fr hFr (fun g hg => hM2' g (hOa0.block g hg).1 (by have := (hOa0.block g hg).2; omega))⟩
  · refine ⟨_, rfl, ?_⟩
    (refine jq rfl ?_; refine jz ?_; refine jjJ rfl ?_; refine jjF ?_; refine jA rfl ⟨⟨_, rfl⟩, ?_⟩)
    exact .inr ⟨_, (List.getElem?_eq_some_iff.1 hall).1, hJx3⟩
theorem slips_slip (a : Option Addr) (c : Nat) (cs : List Ch) (wd side : Int) (w : World) : Ct Tryz.prog 112 [.agg #[.slice a cs.length c], encCut wd side] w fun v w' => ∃ bt bc, v = .func (.func 140) #[] ([.pointer (some ⟨bt, 0, none⟩), .pointer (some ⟨bc, 0, none⟩)] : List Value).toArray ∧ (w.heap.size ≤ bt ∧ w.heap.size ≤ bc) ∧ At w' bt 0 [.slice a cs.length c] ∧ At w' bc 0 [.int .i64 wd, .int .u8 side] := by
  refine Ct.ofW (by simp) ?_
  (refine jjB ?_; refine jjC ?_)
  (refine jy rfl ?_; intro bt w_bt hb_bt hs_bt hS_bt hk_bt; have hA_bt := At.ofBlock hk_bt)
  skip
  (refine jy rfl ?_; intro bc w_bc hb_bc hs_bc hS_bc hk_bc; have hA_bc := At.ofBlock hk_bc)
  (apply jJ; exact rfl; refine jz ?_; refine jjB ?_; refine jjC ?_; refine jv ?_; apply jJ; exact eF rfl; refine jz ?_; refine jjF ?_; refine jB rfl rfl ⟨inferInstance, ?_⟩)
  exact ⟨bt, bc, rfl, ⟨by omega, by omega⟩, inferInstance, inferInstance⟩

noncomputable def allR (t : Tx) (wd side : Int) : List Slp := if askE t wd side = 0 then allS t side wd else []
theorem askE_zero {t : Tx} {wd side : Int} (h : askE t wd side = 0) : textB t = true ∧ cutB wd side = true := by
  unfold askE at h
  split at h
  · split at h
    · exact ⟨by assumption, by assumption⟩
    · omega
  · omega
theorem askE_in (t : Tx) (wd side : Int) : askE t wd side = 0 ∨ askE t wd side = 10 ∨ askE t wd side = 30 := by
  unfold askE
  split
  · split
    · exact .inl rfl
    · exact .inr (.inr rfl)
  · exact .inr (.inl rfl)
theorem chap_len {t : Tx} (h : textB t = true) {k : Nat} (hk : k < t.length) : (wsT t k).flatten.length ≤ 100 := by
  simp only [textB, Bool.and_eq_true, List.all_eq_true] at h
  have hm : t.getD k (0, []) ∈ t := by rw [List.getD_eq_getElem?_getD, List.getElem?_eq_getElem hk, Option.getD_some]; exact List.getElem_mem hk
  have h1 := h.1.2 _ hm
  simp only [chapB, Bool.and_eq_true, List.all_eq_true] at h1
  have h3 := flatW_len (x := wsT t k) (m := 10) fun y hy => by
    have h2 := h1.2 y hy
    simp only [lineB, inB, Bool.and_eq_true, decide_eq_true_eq] at h2
    omega
  have h4 : (wsT t k).length ≤ 10 := by
    have := h1.1.2
    simp only [inB, decide_eq_true_eq] at this
    show (t.getD k (0, [])).2.length ≤ 10
    omega
  have := Nat.mul_le_mul_right 10 h4
  omega
theorem allP_len {t : Tx} (h : textB t = true) : ∀ {n : Nat}, n ≤ t.length → (allP t n).length ≤ n * 100
  | 0, _ => by simp [allP]
  | n + 1, hn => by
    rw [allP_succ, List.length_append, runA_len]
    have h1 := allP_len h (n := n) (by omega)
    have h2 := chap_len h (k := n) (by omega)
    omega
theorem textB_six {t : Tx} (h : textB t = true) : t.length ≤ 6 := by
  simp only [textB, Bool.and_eq_true] at h
  have := h.1.1
  simp only [inB, decide_eq_true_eq] at this
  omega
theorem allS_len {t : Tx} {side wd : Int} (h : textB t = true) : (allS t side wd).length ≤ 600 := by
  rw [allS, List.length_map]
  have h1 := allP_len h (Nat.le_refl t.length)
  have h2 := textB_six h
  have := Nat.mul_le_mul_right 100 h2
  omega

section
variable (a : Option Addr) (c : Nat) (cs : List Ch) (wd side : Int) (w : World) [hrow : RowI w (.slice a cs.length c) true 2 (cs.map encCh)] [hT : TextI w cs] [hgs : At w 1 0 sidesC]
end

theorem App.fr {M : World → Nat → Prop} {B : Nat} {w w' : World} {v : Value} (a : App B w w' v) (hM : ∀ k, v.ownBlock = some k → M w k) (ho : ∀ k, M w' k → M w k ∨ w.heap.size ≤ k) : Fr M w w' :=
  ⟨a.g.size, fun k _ hk _ hm => a.other hk (fun e => hm (hM k e)), ho⟩
theorem one_sl (x : Slp) : [encSl x].all (fun v => v.cells.toList.all (·.oneCell')) = true := rfl
theorem AppendSeq_sl (xs : List Slp) (gf : Nat) (lb : List Value) (Fct : World → Prop) (w : World) (hit : Iter Tryz.prog gf lb xs (fun s => [encSl s]) Fct) [he : Enters Tryz.prog gf] (hF : ∀ w', Ext w w' → Fct w') (hlen : xs.length ≤ 1000000) :
    Ct Tryz.prog 139 [.slice none 0 0, .func (.func gf) #[] lb.toArray] w fun v w' => OwnL w' w.heap.size 49 true 6 v (xs.map encSl) := by
  refine Ct.ofWM (by simp) ?_
  (refine jjB ?_; refine jjC ?_)
  (refine jy rfl ?_; intro b2 w_b2 hb_b2 hs_b2 hS_b2 hk_b2; have hA_b2 := At.ofBlock hk_b2)
  have hBk := Bk.of (cs := [.slice none 0 0]) hk_b2
  (apply jJ; exact eS rfl; refine jz ?_; refine jjB ?_; refine jjB ?_; refine jjC ?_; apply jI; exact eF rfl; refine jz ?_; refine jjD ?_)
  have hsz := hS_b2.size
  refine W.rangeM w.heap.size xs (fun s => [encSl s]) hit rfl (fun _ => rfl) trivial inferInstance hsz
    (fun i V => Ext w V ∧ w_b2.heap.size ≤ V.heap.size ∧ ∃ v, Bk V b2 [v] 44 ∧ OwnL V w_b2.heap.size 49 true 6 v ((xs.take i).map encSl))
    (fun _ _ _ => False) ?hJ (fun _ _ _ _ h _ => h) (fun i V h => hF V h.1) ⟨inferInstance, Nat.le_refl _, _, hBk, OwnL.nil _ _ _ _ _⟩
    (MB w_b2.heap.size b2) ?hW1 ?hW2 ?hW3 (fun x s' V => ∃ b5, s' 2 = .pointer (some ⟨b2, 0, none⟩) ∧ s' 5 = .pointer (some ⟨b5, 0, none⟩) ∧ Bk V b5 (encSl x).cells.toList 49) (fun x s V V' ⟨b5, h1, h2, h3⟩ g => ⟨b5, h1, h2, h3.grow g⟩) ?hassign ?hbody ?hdone (fun _ _ _ _ _ _ _ h => h.elim)
  case hJ =>
    rintro i V V' ⟨h1, h2, v, h3, h4⟩ g
    exact ⟨h1.ofGrow g hsz, Nat.le_trans h2 g.size, v, h3.grow g, h4.grow g⟩
  case hW1 => exact fun i V k ⟨h1, h2, v, h3, h4⟩ h => MB.lt h2 h3 h4 h
  case hW2 => exact fun i V V' k ⟨h1, h2, v, h3, h4⟩ g h => MB.back h3 g h
  case hW3 => exact fun V V' k g h => .inl (MB.grow (by omega) g h)
  case hassign =>
    rintro l i x V hx ⟨h1, h2, v, h3, h4⟩ hl hr
    (refine jjC ?_)
    (apply jjR rfl; (intro _; first|exact eI rfl|exact eB rfl|exact eP rfl|exact eS rfl|exact eT rfl|exact eA rfl|exact eU rfl|exact eF rfl|exact eM rfl|exact eN rfl|exact rfl); exact rfl; exact rfl; exact rfl; exact rfl; intro b5 w_b5 hb_b5 hs_b5 hS_b5 hk_b5; have hA_b5 := Bk.of hk_b5)
    (refine jz ?_)
    exact ⟨rfl, hS_b5.ext.tr, Fr.ofExt hS_b5.ext fun k hk => .inl (MB.same h3 (h3.ext hS_b5.ext) hk), ⟨h1.trans hS_b5.ext, by have := hS_b5.size; omega, v, h3.ext hS_b5.ext, h4.ext hS_b5.ext⟩, b5, rfl, rfl, inferInstance⟩
  case hbody =>
    rintro l i x s' V hx ⟨h1, h2, v, h3, h4⟩ ⟨b5, ha2, ha5, hb5⟩ hl hr
    have hlt := (List.getElem?_eq_some_iff.1 hx).1
    refine W.fix (d := 2) ha2 (W.fix (d := 5) ha5 ?_)
    have hb5' : Bk V b5 [.int .i64 x.1.1, .int .i64 x.1.2.1, .int .i64 x.1.2.2, .string x.2.1, .string x.2.2.1, .string x.2.2.2] 49 := hb5
    (refine jjD ?_; refine jjC ?_; refine jN rfl rfl rfl ?_; refine jO rfl rfl rfl rfl ?_)
    (refine jjP (v := .agg _) rfl (by exact rfl) (by exact rfl) (by exact rfl) (by exact rfl) ?_; intro b10 w_b10 hb_b10 hs_b10 hS_b10 hk_b10; have hR_b10 := RowV.one (agg := true) (k := 6) rfl hk_b10)
    have hown := h4.ext hS_b10.ext
    have hz10 := hS_b10.size
    have hR1 : RowV w_b10 true 6 (.slice (some ⟨b10, 0, none⟩) 1 1) [encSl x] := hR_b10
    refine Ops.appendL hown (by omega) hR1 rfl rfl rfl rfl (one_sl x) ?_ ?_ ?_
    · simp; omega
    · simp; omega
    intro v2 V2 hA hO _ hown2
    obtain ⟨a2, c2, rfl⟩ := hO.slice
    have hb2 : ∀ g, v.ownBlock = some g → w_b2.heap.size ≤ g := fun g hg => (h4.block g hg).1
    have hne : v.ownBlock ≠ some b2 := fun e => by have := hb2 b2 e; omega
    have hB2 : Bk V2 b2 [v] 44 := hA.bk (h3.ext hS_b10.ext) hne
    skip
    refine Ops.store rfl rfl rfl rfl rfl ?_
    intro V3 hp3
    (refine jz ?_)
    have hB3 : Bk V3 b2 [.slice a2 (List.map encSl (xs.take i) ++ [encSl x]).length c2] 44 := ⟨hp3.new⟩
    have hne2 : (Value.slice a2 (List.map encSl (xs.take i) ++ [encSl x]).length c2).ownBlock ≠ some b2 := fun e => by rcases hown2 with h | h <;> rw [h] at e; exact hne e; cases e; omega
    refine ⟨(hS_b10.ext.tr.trans hA.tr).trans (hp3.tr ⟨_, hB2.h, rfl⟩), ?_, hp3.ext (hA.ext (h1.trans hS_b10.ext) hsz) (by omega), ?_, _, hB3, ?_⟩
    · exact (Fr.ofExt hS_b10.ext fun k hk => .inl (MB.same h3 (h3.ext hS_b10.ext) hk)).trans (MB.append (by omega) (h3.ext hS_b10.ext) hA hp3 hB3 hown2)
    · have := hA.g.size; rw [hp3.size]; omega
    · rw [take_snoc_get hx, List.map_append]
      exact hO.put hp3 hne2
  case hdone =>
    rintro ds' V hmk htr ⟨h1, h2, v, h3, h4⟩
    have := h3
    (refine jjB ?_; refine jjC ?_; refine jN rfl rfl rfl ?_; apply jJ; exact rfl; refine jz ?_; refine jjF ?_)
    refine fin1M rfl rfl hmk fun w' g => ⟨h1.ofGrow g (Nat.le_refl _), ?_⟩
    rw [List.take_length] at h4
    exact (h4.grow g).mono hsz
theorem Collect_sl (xs : List Slp) (gf : Nat) (lb : List Value) (Fct : World → Prop) (w : World) (hit : Iter Tryz.prog gf lb xs (fun s => [encSl s]) Fct) [he : Enters Tryz.prog gf] (hF : ∀ w', Ext w w' → Fct w') (hlen : xs.length ≤ 1000000) :
    Ct Tryz.prog 111 [.func (.func gf) #[] lb.toArray] w fun v w' => OwnL w' w.heap.size 49 true 6 v (xs.map encSl) := by
  refine Ct.ofW (by simp) ?_
  (((refine jjB ?_; refine jjC ?_; apply jJ; exact eS rfl; refine jz ?_; refine jjB ?_; refine jjC ?_; apply jI; exact eF rfl)); refine jjQ (AppendSeq_sl xs gf lb Fct w hit hF hlen) rfl rfl ?_)
  rintro v w2 hS2 hO
  (apply jJ; exact rfl; refine jz ?_; refine jjF ?_; refine jB rfl rfl ⟨inferInstance, ?_⟩)
  exact hO

section
variable (a : Option Addr) (c : Nat) (cs : List Ch) (wd side : Int) (w : World) [hrow : RowI w (.slice a cs.length c) true 2 (cs.map encCh)] [hT : TextI w cs] [hgs : At w 1 0 sidesC]
theorem All_slip (hs : SmallT cs) (hd : 0 ≤ side ∧ side ≤ 255) : Ct Tryz.prog 78 [.agg #[.slice a cs.length c], encCut wd side] w fun v w' => ∃ sv, v = .tuple #[sv, .int .i64 (askE (txF cs) wd side)] ∧ OwnL w' w.heap.size 49 true 6 sv ((allR (txF cs) wd side).map encSl) := by
  refine Ct.ofW (by simp) ?_
  (refine jjB ?_; refine jjC ?_)
  (refine jy rfl ?_; intro b2 w_b2 hb_b2 hs_b2 hS_b2 hk_b2; have hA_b2 := At.ofBlock hk_b2)
  skip
  (refine jy rfl ?_; intro b3 w_b3 hb_b3 hs_b3 hS_b3 hk_b3; have hA_b3 := At.ofBlock hk_b3)
  (apply jJ; exact eS rfl; apply jJ; exact eI rfl; refine jz ?_; refine jjB ?_; refine jjB ?_; refine jjC ?_; refine jO rfl rfl rfl rfl ?_; refine jO rfl rfl rfl rfl ?_)
  obtain ⟨e, he⟩ : ∃ e, askE (txF cs) wd side = e := ⟨_, rfl⟩
  have h3 := askE_in (txF cs) wd side
  rw [he] at h3
  refine jjQ ((open_slip a c cs wd side _ hs hd).mono fun v _ _ h => h.trans (by rw [he])) rfl rfl ?_
  rintro _ w8 hS8 rfl
  by_cases h0 : e = 0
  rotate_left
  · (apply jJ; exact eI rfl; refine jz ?_; refine jjB ?_; refine jjC ?_; apply jI; exact eI rfl; refine jjj rfl rfl (by omega) ?_; refine jz ?_; refine jjJ rfl ?_; refine jjB ?_; refine jjC ?_; apply jI; exact eI rfl; apply jJ; exact eS rfl; apply jJ; exact eI rfl; refine jz ?_; refine jjF ?_; refine jC rfl rfl rfl ⟨inferInstance, ?_⟩)
    rw [he, allR, if_neg (by rw [he]; exact h0)]
    exact ⟨_, rfl, OwnL.nil _ _ _ _ _⟩
  subst h0
  obtain ⟨ht, hc⟩ := askE_zero he
  (apply jJ; exact eI rfl; refine jz ?_; refine jjB ?_; refine jjC ?_; apply jI; exact eI rfl; refine jjk rfl rfl (by omega) ?_; refine jz ?_; refine jjK rfl ?_; refine jjG ?_; refine jjB ?_; refine jjC ?_; refine jO rfl rfl rfl rfl ?_; refine jO rfl rfl rfl rfl ?_)
  refine jjQ (slips_slip a c cs wd side _) rfl rfl ?_
  rintro _ w9 hS9 ⟨bt, bc, rfl, _, hA1, hA2⟩
  have hE9 : Ext w w9 := inferInstance
  skip
  refine jjQ (Collect_sl (allS (txF cs) side wd) _ _ _ _ (slips1_slip bt bc a c cs wd side hs ht hc) (fun w' h => ⟨hA1.ext h, hA2.ext h, hrow.h.ext (hE9.trans h), hT.ext (hE9.trans h), hgs.ext (hE9.trans h)⟩) (by have := allS_len (side := side) (wd := wd) ht; omega)) rfl rfl ?_
  rintro sv wA hSA hO
  (apply jJ; exact rfl; apply jJ; exact eI rfl; refine jz ?_; refine jjF ?_; refine jC rfl rfl rfl ⟨inferInstance, ?_⟩)
  rw [he, allR, if_pos he]
  exact ⟨sv, rfl, hO.mono hE9.size⟩
end

section
variable (a : Option Addr) (c : Nat) (cs : List Ch) (wd side : Int) (w : World) [hrow : RowI w (.slice a cs.length c) true 2 (cs.map encCh)] [hT : TextI w cs] [hgs : At w 1 0 sidesC]
end

section
variable (a : Option Addr) (c : Nat) (cs : List Ch) (w : World) [hrow : RowI w (.slice a cs.length c) true 2 (cs.map encCh)] [hT : TextI w cs]
end



section
variable (a : Option Addr) (c : Nat) (cs : List Ch) (w : World) [hrow : RowI w (.slice a cs.length c) true 2 (cs.map encCh)] [hT : TextI w cs]
end

section
variable (a : Option Addr) (c : Nat) (cs : List Ch) (w : World) [hrow : RowI w (.slice a cs.length c) true 2 (cs.map encCh)] [hT : TextI w cs]
end

theorem makeF_mem {t : Tx} {side wd : Int} {p : Pl} {n : Nat} (h : p ∈ allP t n) (hn : n ≤ t.length) : makeF t side wd p = some (slP t side wd p) := by
  obtain ⟨k, hk, hm⟩ := mem_allP.1 h
  obtain ⟨i, hi, e⟩ := List.mem_iff_getElem.1 hm
  have hg : (runA k (wsT t k))[i]? = some p := by rw [List.getElem?_eq_getElem hi, e]
  rw [makeF_yes (by omega) hg, slP_eq (by omega) hg]
section
variable (a : Option Addr) (c : Nat) (cs : List Ch) (wd side : Int) (w : World) [hrow : RowI w (.slice a cs.length c) true 2 (cs.map encCh)] [hT : TextI w cs]
end

theorem lnP_sorted (k n q : Nat) : (lnP k n q).Pairwise fun a b => befP a b = true := by
  unfold lnP
  rw [List.pairwise_map]
  refine List.Pairwise.imp (R := (· < ·)) ?_ List.pairwise_lt_range
  intro a b h
  rw [befP_iff]; simp; omega
theorem runA_sorted (k : Nat) (x : List (List ByteArray)) : (runA k x).Pairwise fun a b => befP a b = true := by
  unfold runA runAn
  rw [List.pairwise_flatMap]
  refine ⟨fun i _ => lnP_sorted _ _ _, ?_⟩
  refine List.Pairwise.imp (R := (· < ·)) ?_ List.pairwise_lt_range
  intro a b h p hp q hq
  simp only [lnP, List.mem_map] at hp hq
  obtain ⟨_, _, rfl⟩ := hp
  obtain ⟨_, _, rfl⟩ := hq
  rw [befP_iff]; simp; omega
theorem allP_sorted (t : Tx) (n : Nat) : (allP t n).Pairwise fun a b => befP a b = true := by
  unfold allP
  rw [List.pairwise_flatMap]
  refine ⟨fun i _ => runA_sorted _ _, ?_⟩
  refine List.Pairwise.imp (R := (· < ·)) ?_ List.pairwise_lt_range
  intro a b h p hp q hq
  have h1 := runA_fst hp
  have h2 := runA_fst hq
  rw [befP_iff]; omega
theorem sorted_nodup {l : List Pl} (h : l.Pairwise fun a b => befP a b = true) : l.Nodup := by
  refine List.Pairwise.imp ?_ h
  intro a b hab e
  subst e; rw [befP_irr] at hab; cases hab

/-! ### Twice -/


section
variable {κ : Type} [DecidableEq κ]
abbrev NdG (m : List (κ × Value)) : Prop := (m.map (·.1)).Nodup
theorem mset_keysG (m : List (κ × Value)) (k : κ) (v : Value) : ∀ x, x ∈ (mset m k v).map (·.1) → x = k ∨ x ∈ m.map (·.1) := by
  induction m with
  | nil => intro x hx; simp [mset] at hx; exact .inl hx
  | cons p m ih =>
    obtain ⟨y, u⟩ := p
    intro x hx
    rw [mset] at hx
    split at hx
    · subst_vars; exact .inr hx
    · simp only [List.map_cons, List.mem_cons] at hx ⊢
      rcases hx with hx | hx
      · exact .inr (.inl hx)
      · rcases ih x hx with h | h
        · exact .inl h
        · exact .inr (.inr h)
theorem NdG.set {m : List (κ × Value)} (h : NdG m) (k : κ) (v : Value) : NdG (mset m k v) := by
  induction m with
  | nil => simp [NdG, mset]
  | cons p m ih =>
    obtain ⟨y, u⟩ := p
    simp only [NdG, List.map_cons, List.nodup_cons] at h
    rw [mset]
    split
    · subst_vars; simp only [NdG, List.map_cons, List.nodup_cons]; exact h
    · simp only [NdG, List.map_cons, List.nodup_cons]
      refine ⟨fun hc => ?_, ih h.2⟩
      rcases mset_keysG m k v y hc with e | e
      · rename_i hne; exact hne e.symm
      · exact h.1 e
theorem mget_noG {m : List (κ × Value)} {k : κ} (h : k ∉ m.map (·.1)) : mget m k = none := by
  induction m with
  | nil => rfl
  | cons p m ih =>
    obtain ⟨y, u⟩ := p
    simp only [List.map_cons, List.mem_cons, not_or] at h
    rw [mget, if_neg h.1, ih h.2]
theorem NdG.del {m : List (κ × Value)} (h : NdG m) (k : κ) : NdG (mdel m k) ∧ (∀ x, x ∈ (mdel m k).map (·.1) → x ∈ m.map (·.1)) ∧ ∀ x, mget (mdel m k) x = if x = k then none else mget m x := by
  induction m with
  | nil => simp [NdG, mdel, mget]
  | cons p m ih =>
    obtain ⟨y, u⟩ := p
    simp only [NdG, List.map_cons, List.nodup_cons] at h
    obtain ⟨i1, i2, i3⟩ := ih h.2
    rw [mdel]
    split
    · subst_vars
      refine ⟨h.2, fun x hx => by simp only [List.map_cons, List.mem_cons]; exact .inr hx, fun x => ?_⟩
      rw [mget]
      by_cases e : x = y
      · subst e; rw [if_pos rfl, mget_noG h.1]
      · rw [if_neg e, if_neg e]
    · rename_i hne
      refine ⟨?_, fun x hx => ?_, fun x => ?_⟩
      · simp only [NdG, List.map_cons, List.nodup_cons]
        exact ⟨fun hc => h.1 (i2 y hc), i1⟩
      · simp only [List.map_cons, List.mem_cons] at hx ⊢
        exact hx.imp id (i2 x)
      · rw [mget, mget, i3]
        by_cases e : x = y
        · subst e; rw [if_pos rfl, if_pos rfl, if_neg (fun h => hne h.symm)]
        · rw [if_neg e, if_neg e]
/-- A map that is a set: true for what is in it. -/
structure SetM (S : κ → Bool) (m : List (κ × Value)) : Prop where
  nd : NdG m
  get : ∀ x, mget m x = if S x then some (.bool true) else none
theorem SetM.nil : SetM (fun _ : κ => false) [] := ⟨by simp [NdG], fun x => rfl⟩
theorem SetM.congr {S S' : κ → Bool} {m : List (κ × Value)} (h : SetM S m) (e : ∀ x, S' x = S x) : SetM S' m := ⟨h.nd, fun x => by rw [h.get, e]⟩
theorem SetM.set {S : κ → Bool} {m : List (κ × Value)} (h : SetM S m) (k : κ) : SetM (fun x => decide (x = k) || S x) (mset m k (.bool true)) := ⟨h.nd.set k _, fun x => by
  by_cases e : x = k
  · subst e; rw [mget_set_same]; simp
  · rw [mget_set_other _ _ e, h.get]; simp [e]⟩
theorem SetM.del {S : κ → Bool} {m : List (κ × Value)} (h : SetM S m) (k : κ) : SetM (fun x => !decide (x = k) && S x) (mdel m k) := ⟨(h.nd.del k).1, fun x => by
  rw [(h.nd.del k).2.2]
  by_cases e : x = k
  · simp [e]
  · rw [if_neg e, h.get]; simp [e]⟩
theorem SetM.look {S : κ → Bool} {m : List (κ × Value)} (h : SetM S m) (k : κ) : (mget m k).getD (.bool false) = .bool (S k) := by
  rw [h.get]; cases S k <;> rfl
end

section
variable {P : Program} {κ : Type} [DecidableEq κ] {enc : κ → Value} {kt : Nat}
theorem findAsking_of [he : EqT P kt enc] (w : World) (k : κ) : ∀ (es : List MapEntry) (ks : List κ) (i : Nat), es.map (·.key) = ks.map enc →
    (Instr.findAsking kt (enc k) es i).run P w = .ok ((ks.findIdx? (fun x => decide (k = x))).map fun j => (i + j, ((es[j]?).map (·.val)).getD undef)) w
  | [], [], i, _ => rfl
  | [], _ :: _, i, h => by simp at h
  | _ :: _, [], i, h => by simp at h
  | e :: es, x :: ks, i, h => by
    simp only [List.map_cons, List.cons.injEq] at h
    have ih := findAsking_of w k es ks (i + 1) h.2
    have hq := he.eq w k x
    simp only [Instr.findAsking, Sem.run_bind, h.1, hq, Result.andThen]
    by_cases hk : k = x
    · simp [hk, List.findIdx?_cons]
    · simp only [hk, decide_false, ih, List.findIdx?_cons, Bool.false_eq_true, if_false, Option.map_map]
      congr 2
      funext j
      simp; omega
theorem keyL_struct {fs : Array Field} (hu : P.underlying kt = some (.struct fs)) [he : EqT P kt enc] (hag : ∀ k, ∃ cs, enc k = .agg cs) (hc : ∀ (em : Bool) (w : World) (k : κ), (Instr.checkKey em 10000 kt (enc k)).run P w = .ok () w) (hb : ∀ k, Instr.sameBits 10000 (enc k) (enc k) = true) : KeyL P kt enc where
  chk := hc
  find w k es ks hk := by
    have h1 := findAsking_of (P := P) (enc := enc) (kt := kt) w k es ks 0 hk
    simp only [Instr.findKey, Sem.run_bind, run_underlying hu, Result.andThen]
    cases es with
    | nil =>
      cases ks with
      | nil => rfl
      | cons x ks => simp at hk
    | cons e es =>
      have : Instr.findNow (.struct fs) (enc k) (e :: es) 0 = none := by
        obtain ⟨cs, h⟩ := hag k
        simp [Instr.findNow, Instr.sameNow]
      rw [this]
      simpa using h1
  bits := hb
end
theorem chk_place (em : Bool) (w : World) (n : Nat) (p : Pl) : (Instr.checkKey em (n + 2) 47 (encPl p)).run Tryz.prog w = .ok () w := by
  have h := Tryz.underlying47
  have hi := Tryz.underlying3
  simp [Instr.checkKey, run_underlying h, run_underlying hi, part, run_isAgg w tu3, TypeDesc.isAgg]
theorem chk_slip (em : Bool) (w : World) (n : Nat) (x : Slp) : (Instr.checkKey em (n + 3) 49 (encSl x)).run Tryz.prog w = .ok () w := by
  have h := Tryz.underlying49
  have hs := Tryz.underlying9
  have hp := chk_place em w n x.1
  have e1 : (part 47 #[.int .i64 x.1.1, .int .i64 x.1.2.1, .int .i64 x.1.2.2, .string x.2.1, .string x.2.2.1, .string x.2.2.2] 0).run Tryz.prog w = .ok (encPl x.1) w := part_agg tu47 rfl ts47 rfl
  rw [Instr.checkKey]
  simp [run_underlying h, e1, hp, part, run_isAgg w tu9, TypeDesc.isAgg, Instr.checkKey, run_underlying hs]
instance : KeyL Tryz.prog 49 encSl := keyL_struct Tryz.underlying49 (fun k => ⟨_, rfl⟩) (fun em w k => chk_slip em w 9997 k) (fun k => by simp [Instr.sameBits, byteArray_beq])

theorem MapN.app {κ : Type} [DecidableEq κ] {encK : κ → Value} {w w' : World} {b B st : Nat} {m : List (κ × Value)} {k : κ} {v : Value} (h : MapN encK w b m k st) (a : App B w w' v) (hne : v.ownBlock ≠ some b) : MapN encK w' b m k st := by
  obtain ⟨es, cl, i, h1, h2⟩ := h.h
  exact ⟨es, cl, i, a.other h1 hne, h2⟩
section rules
variable {P : Program} {ro : Option Nat} {n : Nat} {all rest : List Oper} {K : Sl → World → Prop} {s : Sl} {w : World} {d : Nat} {ty : Nat} {pos : String} {af : Array Edge}
variable {x y : Operand} {t : Nat}
theorem Ops.lookupV {κ : Type} [DecidableEq κ] {encK : κ → Value} {b kt et : Nat} {m : List (κ × Value)} {k : κ} {z v : Value} {size bytes : Nat} (hv : (mget m k).getD z = v) (hm : MapE encK w b m) (hx : ev n s x = .map (some b)) (hy : ev n s y = encK k) [hk : KeyL P kt encK] [ht : TMap P t kt et] [hz : TS P et z size bytes]
    (h : Ops P ro n all rest K (upd s d v) w) : Ops P ro n all (⟨some d, .lookup t x y false, ty, pos, af, none⟩ :: rest) K s w := by
  subst hv
  exact Ops.lookup hm hx hy h
end rules

section
variable (a : Option Addr) (c : Nat) (cs : List Ch) (wd side : Int) (la : Option Addr) (lc : Nat) (ls : List Slp) (w : World) [hrow : RowI w (.slice a cs.length c) true 2 (cs.map encCh)] [hT : TextI w cs] [hgs : At w 1 0 sidesC] [hmx : MxI w] [hl : RowI w (.slice la ls.length lc) true 6 (ls.map encSl)]
end

section
variable (a : Option Addr) (c : Nat) (cs : List Ch) (wd side : Int) (w : World) [hrow : RowI w (.slice a cs.length c) true 2 (cs.map encCh)] [hT : TextI w cs]
end

section
variable {t : Tx} {wd side : Int}
theorem allS_mem {s : Slp} (h : s ∈ allS t side wd) : makeF t side wd s.1 = some s ∧ s.1 ∈ allP t t.length := by
  obtain ⟨p, hp, rfl⟩ := List.mem_map.1 h
  rw [slP_at]
  exact ⟨makeF_mem hp (Nat.le_refl _), hp⟩
theorem allS_right (ht : textB t = true) (hc : cutB wd side = true) {s : Slp} (h : s ∈ allS t side wd) : slipB s = true := (make_right ht hc (allS_mem h).1).1
theorem allS_fst : (allS t side wd).map (·.1) = allP t t.length := by
  rw [allS, List.map_map]
  exact (List.map_congr_left fun p _ => slP_at t side wd p).trans (List.map_id _)
theorem allS_nodup : (allS t side wd).Nodup := by
  have h := sorted_nodup (allP_sorted t t.length)
  rw [← allS_fst (side := side) (wd := wd)] at h
  exact List.Pairwise.imp (fun hne e => hne (by rw [e])) (List.pairwise_map.1 h)
theorem allS_get {i : Nat} (hi : i < (allS t side wd).length) : (allS t side wd)[i].1 = (allP t t.length)[i]'(by rw [allS, List.length_map] at hi; exact hi) := by
  simp [allS, slP_at]
end

section
variable {α : Type} {f : α → α → Int} (hf : Pre3 f)
include hf
theorem srt_ex (l : List α) : ∃ r : List α, r.Perm l ∧ r.Pairwise (fun a b => f b a ≠ -1) := by
  refine ⟨l.mergeSort (fun a b => decide (f b a ≠ -1)), List.mergeSort_perm _ _, ?_⟩
  have h := List.pairwise_mergeSort (le := fun a b => decide (f b a ≠ -1)) (fun a b c h1 h2 => by
    simp only [decide_eq_true_eq] at *
    intro h3
    have r1 := hf.r a b
    have a1 := hf.anti a b
    by_cases e : f a b = 0
    · have := hf.eql a b c e
      have := hf.anti a c
      have := hf.anti b c
      omega
    · have := hf.tr c a b h3 (by omega)
      omega) (fun a b => by
    have r1 := hf.r a b
    have a1 := hf.anti a b
    rw [Bool.or_eq_true, decide_eq_true_eq, decide_eq_true_eq]
    omega) l
  exact h.imp fun h => of_decide_eq_true h
theorem rk_ex (l : List α) : ∃ C : List α, (∀ c ∈ C, c ∈ l) ∧ C.Pairwise (fun a b => f a b = -1) ∧ (∀ x ∈ l, ∃ c ∈ C, f c x = 0) ∧ ∀ s, rankF f l s = (C.filter fun c => decide (f c s < 0)).length := by
  obtain ⟨r, hp, hs⟩ := srt_ex hf l
  obtain ⟨h1, h2, h3⟩ := cpt_facts hf hs
  exact ⟨cptL f r, fun c hc => hp.mem_iff.1 (h1 c hc), h2, fun x hx => h3 x (hp.mem_iff.2 hx), fun s => rank_cpt hf hp hs⟩
theorem rank_eq {l : List α} {a b : α} (h : f a b = 0) : rankF f l a = rankF f l b := by
  obtain ⟨C, -, -, -, e⟩ := rk_ex hf l
  rw [e, e]
  congr 1
  refine List.filter_congr fun c _ => ?_
  have h1 := hf.eql a b c h
  have h2 := hf.anti c a
  have h3 := hf.anti c b
  rw [show f c a = f c b by omega]
theorem rank_lt {l : List α} {a b : α} (ha : a ∈ l) (h : f a b < 0) : rankF f l a < rankF f l b := by
  obtain ⟨C, -, -, hr, e⟩ := rk_ex hf l
  rw [e, e]
  have hab : f a b = -1 := by have := hf.r a b; omega
  have hs : C.filter (fun c => decide (f c a < 0)) = (C.filter fun c => decide (f c b < 0)).filter fun c => decide (f c a < 0) := by
    rw [List.filter_filter]
    refine List.filter_congr fun c _ => ?_
    by_cases hc : f c a < 0
    · have h1 := hf.r c a
      have := hf.tr c a b (by omega) hab
      have h2 : f c b < 0 := by omega
      simp [hc, h2]
    · simp [hc]
  rw [hs, List.length_filter_lt_length_iff_exists]
  obtain ⟨c, hc, e0⟩ := hr a ha
  refine ⟨c, List.mem_filter.2 ⟨hc, ?_⟩, ?_⟩
  · rw [hf.eql c a b e0]; exact decide_eq_true h
  · simp [e0]
theorem rank_perm {l m : List α} (hp : m.Perm l) (s : α) : rankF f m s = rankF f l s := by
  obtain ⟨C, h1, h2, h3, e⟩ := rk_ex hf l
  rw [e]
  exact rank_reps hf (h2.imp fun h => by omega) (fun x hx => h3 x (hp.mem_iff.1 hx)) fun c hc => ⟨c, hp.mem_iff.2 (h1 c hc), hf.refl c⟩
/-- What the law asks of ranks. -/
theorem rank_law {l : List α} {a b : α} (ha : a ∈ l) (hb : b ∈ l) : (f a b = 0 → rankF f l a = rankF f l b) ∧ (f a b < 0 → rankF f l a < rankF f l b) ∧ (0 < f a b → rankF f l b < rankF f l a) :=
  ⟨rank_eq hf, rank_lt hf ha, fun h => rank_lt hf hb (by have := hf.anti a b; omega)⟩
end

abbrev dS : Slp := ((0, 0, 0), ⟨#[]⟩, ⟨#[]⟩, ⟨#[]⟩)
def rkD (n : Int) (l : List Slp) : List Int := l.map fun s => (rankF (cmpBy n) l s : Int)
def filF (d : List Int) (l : List Slp) : List Slp := (ordF d).map fun i => l.getD i.toNat dS
theorem rkD_len (n : Int) (l : List Slp) : (rkD n l).length = l.length := List.length_map _
theorem upN_get' (l : List Slp) : ((upN l.length).map fun i => l.getD i.toNat dS) = l := by
  refine List.ext_getElem (by simp [upN]) fun i h1 h2 => ?_
  simp [upN, h2]
theorem fil_perm {d : List Int} {l : List Slp} (h : d.length = l.length) : (filF d l).Perm l := by
  have := (ordF_perm d).map fun i : Int => l.getD i.toNat dS
  rwa [h, upN_get'] at this
theorem rkD_key {n : Int} {l : List Slp} {x : Int} (h : 0 ≤ x ∧ x < l.length) : keyD (rkD n l) x = (rankF (cmpBy n) l (l.getD x.toNat dS) : Int) := by
  have hx : x.toNat < l.length := by omega
  rw [key_nat h.1, gd_lt (by rw [rkD_len]; exact hx)]
  simp [rkD, hx]
theorem fil_keys (n : Int) (l : List Slp) : ((filF (rkD n l) l).map fun s => (rankF (cmpBy n) l s : Int)) = (ordF (rkD n l)).map (keyD (rkD n l)) := by
  rw [filF, List.map_map]
  refine List.map_congr_left fun x hx => ?_
  have := ordF_in.1 hx
  rw [rkD_len] at this
  exact (rkD_key this).symm
theorem fil_srt (n : Int) (l : List Slp) : ((filF (rkD n l) l).map fun s => (rankF (cmpBy n) l s : Int)).Pairwise (· ≤ ·) := by
  rw [fil_keys, List.pairwise_map]
  exact (ordF_pair _).imp fun h => by unfold bfD at h; omega
theorem fil_rk (n : Int) (l : List Slp) : rkD n (filF (rkD n l) l) = (filF (rkD n l) l).map fun s => (rankF (cmpBy n) l s : Int) := by
  rw [rkD]
  refine List.map_congr_left fun s _ => ?_
  rw [rank_perm (pre_by n) (fil_perm (rkD_len n l))]
theorem fil_ord (n : Int) (l : List Slp) : (filF (rkD n l) l).Pairwise fun x y => cmpBy n x y ≤ 0 := by
  have h := fil_srt n l
  rw [List.pairwise_map] at h
  refine List.Pairwise.imp_of_mem (fun {a b} ha hb hab => ?_) h
  have ha' := (fil_perm (rkD_len n l)).mem_iff.1 ha
  have hb' := (fil_perm (rkD_len n l)).mem_iff.1 hb
  refine Int.not_lt.1 fun h0 => ?_
  have := (rank_law (pre_by n) ha' hb').2.2 h0
  omega
/-! A deck that is sorted lies as it lay, in one run. -/
theorem ord_sorted {d : List Int} (h : d.Pairwise (· ≤ ·)) : ordF d = upN d.length := by
  rw [ordF]
  refine ssort_of_srt ?_
  refine List.Pairwise.imp_of_mem (fun {a b} ha hb hab => ?_) (upN_up d.length)
  have h1 := upN_mem.1 ha
  have h2 := upN_mem.1 hb
  rw [key_nat h1.1, key_nat h2.1]
  exact pair_gd h (by omega) (by omega)
theorem end_sorted {d : List Int} (h : d.Pairwise (· ≤ ·)) : endF d = [] := by
  rw [end_eq, ord_sorted h]
  refine List.eq_nil_iff_forall_not_mem.2 fun x hx => ?_
  obtain ⟨i, hi, hlt, -⟩ := prs_mem _ hx
  have := pair_gd (upN_up d.length) (i := i) (j := i + 1) (by omega) (by rw [upN_len]; omega)
  omega
theorem ranks_rkD {n : Int} {l : List Slp} (h1 : l.length ≤ 60) (h2 : l.all slipB = true) (h3 : 1 ≤ n ∧ n ≤ 4) : ranksR l n = (rkD n l, 0) := ranksR_ok h1 h2 h3
theorem rkD_deck {n : Int} {l : List Slp} (h1 : l.length ≤ 60) : deckB (rkD n l) = true := by
  rw [deckB, Bool.and_eq_true, decide_eq_true_eq, List.all_eq_true, rkD_len]
  exact ⟨h1, fun x hx => by have := ranks_deck (l := l) (n := n) x hx; rw [inB, decide_eq_true_eq]; omega⟩
theorem rkD_open {n boxes : Int} {l : List Slp} (h1 : l.length ≤ 60) (hb : 2 ≤ boxes ∧ boxes ≤ 20) : opE (rkD n l) boxes = 0 := by
  rw [opE, rkD_deck h1, if_pos rfl, if_pos (by rw [inB, decide_eq_true_eq]; exact hb)]
section
variable {n boxes : Int} {l : List Slp} (h1 : l.length ≤ 60) (h2 : l.all slipB = true) (h3 : 1 ≤ n ∧ n ≤ 4) (hb : 2 ≤ boxes ∧ boxes ≤ 20)
include h1 h2 h3 hb
theorem file_ok : fileE l n boxes = 0 := by rw [fileE, ranks_rkD h1 h2 h3, if_pos rfl]; exact rkD_open h1 hb
theorem file_fil : fileL l n boxes = filF (rkD n l) l := by rw [fileL, if_pos (file_ok h1 h2 h3 hb), ranks_rkD h1 h2 h3]; rfl
theorem file_perm : (fileL l n boxes).Perm l := by rw [file_fil h1 h2 h3 hb]; exact fil_perm (rkD_len n l)
theorem file_ord : (fileL l n boxes).Pairwise fun x y => cmpBy n x y ≤ 0 := by rw [file_fil h1 h2 h3 hb]; exact fil_ord n l
theorem file_again : fileE (fileL l n boxes) n boxes = 0 ∧ fileL (fileL l n boxes) n boxes = fileL l n boxes ∧ endF (ranksR (fileL l n boxes) n).1 = [] := by
  have hp := file_perm h1 h2 h3 hb
  have hl := hp.length_eq
  have g1 : (fileL l n boxes).length ≤ 60 := by omega
  have g2 : (fileL l n boxes).all slipB = true := by
    rw [List.all_eq_true] at h2 ⊢
    exact fun x hx => h2 x (hp.mem_iff.1 hx)
  have hs : (rkD n (fileL l n boxes)).Pairwise (· ≤ ·) := by
    rw [file_fil h1 h2 h3 hb, fil_rk]; exact fil_srt n l
  refine ⟨file_ok g1 g2 h3 hb, ?_, ?_⟩
  · rw [file_fil g1 g2 h3 hb, filF, ord_sorted hs, rkD_len, upN_get']
  · rw [ranks_rkD g1 g2 h3]; exact end_sorted hs
end
/-! Filed by words: each word's slips as they came. -/


section rules
variable {P : Program} {ro : Option Nat} {n : Nat} {all rest : List Oper} {K : Sl → World → Prop} {s : Sl} {w : World} {d : Nat} {ty : Nat} {pos : String} {af : Array Edge} {x y : Operand} {t t' : Nat} {a b : Int}
theorem Ops.rem (hx : ev n s x = .int .i64 a) (hy : ev n s y = .int .i64 b) (h0 : 0 ≤ a) (h1 : 0 < b) (h : Ops P ro n all rest K (upd s d (.int .i64 (a % b))) w) :
    Ops P ro n all (⟨some d, .binOp .rem t x y t', ty, pos, af, none⟩ :: rest) K s w :=
  Ops.ofRun rfl (by
    have e1 : Int.tmod a b = a % b := Int.tmod_eq_emod_of_nonneg h0
    have e3 : ¬ b = 0 := by omega
    simp [execOp, hx, hy, go_sem, Op.intDiv, e1, e3]) h
theorem Ops.quo (hx : ev n s x = .int .i64 a) (hy : ev n s y = .int .i64 b) (h0 : 0 ≤ a) (h0' : a ≤ 9223372036854775807) (h1 : 0 < b) (h : Ops P ro n all rest K (upd s d (.int .i64 (a / b))) w) :
    Ops P ro n all (⟨some d, .binOp .quo t x y t', ty, pos, af, none⟩ :: rest) K s w :=
  Ops.ofRun rfl (by
    have e1 : Int.tdiv a b = a / b := Int.tdiv_eq_ediv_of_nonneg h0
    have e2 : IntKind.i64.wrap (a / b) = a / b := by
      have := Int.ediv_nonneg h0 (Int.le_of_lt h1)
      have := Int.ediv_le_self b h0
      rw [IntKind.wrap_i64]; omega
    have e3 : ¬ b = 0 := by omega
    simp [execOp, hx, hy, go_sem, Op.intDiv, e1, e2, e3]) h
theorem Ops.neqTN {α : Type} [DecidableEq α] {enc : α → Value} (u : α) [he : EqT P t enc] (hx : ev n s x = enc u) (hy : ev n s y = enc u) (h : Ops P ro n all rest K (upd s d (.bool false)) w) :
    Ops P ro n all (⟨some d, .binOp .neq t x y t', ty, pos, af, none⟩ :: rest) K s w :=
  Ops.neqT u u hx hy (by rw [decide_eq_false (by simp)]; exact h)
end rules

theorem eqT_arr2 {P : Program} {t e bytes : Nat} {z : Value} (hu : P.underlying t = some (.array 2 e)) (u0 : TU P e (.int .i64)) (hz : TS P e z 1 bytes) (hg : P.eqGuardType P.depth t = false) : EqT P t encII where
  eq w a b := by
    obtain ⟨i, hi, _, hs, _⟩ := hz.info
    have hc : P.cellsOf e = 1 := by simp [Program.cellsOf, hi, hs]
    simp only [encII, Op.equal, Op.maxDepth]
    rw [run_equalIn_array w 9999 _ _ hu hi, hc]
    have e0 : (Op.equalIn 9999 e (.int .i64 a.1) (.int .i64 b.1)).run P w = .ok (a.1 == b.1) w := run_equalIn_int (P := P) w 9998 e .i64 .i64 a.1 b.1 u0.h
    have e1 : (Op.equalIn 9999 e (.int .i64 a.2) (.int .i64 b.2)).run P w = .ok (a.2 == b.2) w := run_equalIn_int (P := P) w 9998 e .i64 .i64 a.2 b.2 u0.h
    obtain ⟨a1, a2⟩ := a
    obtain ⟨b1, b2⟩ := b
    simp only at e0 e1
    have p0 : ∀ c1 c2 : Int, (part e #[Value.int .i64 c1, Value.int .i64 c2] 0).run P w = .ok (.int .i64 c1) w := fun c1 c2 => by simp [part, run_isAgg w u0, TypeDesc.isAgg]
    have p1 : ∀ c1 c2 : Int, (part e #[Value.int .i64 c1, Value.int .i64 c2] 1).run P w = .ok (.int .i64 c2) w := fun c1 c2 => by simp [part, run_isAgg w u0, TypeDesc.isAgg]
    have hr : List.range 2 = [0, 1] := by decide
    rw [hr]
    simp only [Op.eqItems, Nat.zero_mul, Nat.one_mul, Sem.run_bind, p0, Result.andThen_ok, e0]
    by_cases c0 : a1 = b1
    · subst c0
      by_cases c1 : a2 = b2
      · subst c1; simp [p1, e1]
      · have c1' : (a2 == b2) = false := by simpa using c1
        simp [c1, p1, e1, c1']
    · simp [c0]
  guard op x y w a b := by
    cases op <;> simp [encII, eqGuard, hg]
  kind a b := ⟨fun w => by simp [encII, binOp], fun w => by simp [encII, binOp]⟩
section rules
variable {P : Program} {ro : Option Nat} {n : Nat} {all rest : List Oper} {K : Sl → World → Prop} {s : Sl} {w : World} {d : Nat} {ty : Nat} {pos : String} {af : Array Edge}
variable {x y : Operand} {t t' : Nat}
end rules
section rules
variable {P : Program} {ro : Option Nat} {n : Nat} {all rest : List Oper} {K : Sl → World → Prop} {s : Sl} {w : World} {d : Nat} {ty : Nat} {pos : String} {af : Array Edge}
variable {x y z : Operand} {at_ : Array Nat}
end rules

theorem choose_law6 (ba : Option Addr) (bc : Nat) (by_ : List Int) (i : Nat) (hu : U32s by_) (hi : i ≤ 100000000) (w : World) [hb : RowI w (.slice ba by_.length bc) false 1 (by_.map u32V)] :
    Ct Tryz.prog 39 [.slice ba by_.length bc, .int .i64 (i : Int)] w fun v _ => ∃ x : Int, v = .int .i64 x ∧ 0 ≤ x ∧ x ≤ 4294967295 := by
  refine Ct.ofW (by simp) ?_
  by_cases h0 : by_.length = 0
  · (refine jjB ?_; refine jjC ?_; apply jJ; exact eI rfl; refine jz ?_; refine jjB ?_; refine jjB ?_; refine jjC ?_; apply jI; exact eS rfl; refine jh rfl ?_; refine jjh rfl rfl (by omega) ?_; refine jz ?_; refine jjJ rfl ?_; refine jjB ?_; refine jjC ?_; apply jJ; exact eI rfl; refine jz ?_; refine jjF ?_; refine jB rfl rfl ⟨inferInstance, ?_⟩)
    exact ⟨0, rfl, by omega, by omega⟩
  (refine jjB ?_; refine jjC ?_; apply jJ; exact eI rfl; refine jz ?_; refine jjB ?_; refine jjB ?_; refine jjC ?_; apply jI; exact eS rfl; refine jh rfl ?_; refine jji rfl rfl (by omega) ?_; refine jz ?_; refine jjK rfl ?_; refine jjG ?_; refine jjB ?_; refine jjC ?_; apply jI; exact eS rfl; apply jI; exact eI rfl; apply jI; exact eS rfl; refine jh rfl ?_)
  refine Ops.rem rfl rfl (by omega) (by omega) ?_
  have hr1 : (i : Int) % (by_.length : Int) = ((i % by_.length : Nat) : Int) := by omega
  have hX := Nat.mod_lt i (show 0 < by_.length by omega)
  rw [hr1]
  generalize i % by_.length = X at *
  have hv := hu by_[X] (List.getElem_mem hX)
  (refine jF rfl rfl rfl (map_get (by omega)) ?_; intro _ _ _; refine jQ rfl rfl ?_)
  refine Ops.convI rfl rfl (wrapi (by omega) (by omega)) ?_
  (apply jJ; exact eI rfl; refine jz ?_; refine jjF ?_; refine jB rfl rfl ⟨inferInstance, ?_⟩)
  exact ⟨_, rfl, hv.1, hv.2⟩
section
variable (a1 a2 : Option Addr) (c1 c2 : Nat) (d l : List Int) (w : World) (hll : l.length ≤ 1000000) [h1 : RowI w (.slice a1 d.length c1) false 1 (d.map intV)] [h2 : RowI w (.slice a2 l.length c2) false 1 (l.map intV)]
include hll
end
section
variable (a1 a2 : Option Addr) (c1 c2 : Nat) (d l : List Int) (w : World) (hll : l.length ≤ 1000000) [h1 : RowI w (.slice a1 d.length c1) false 1 (d.map intV)] [h2 : RowI w (.slice a2 l.length c2) false 1 (l.map intV)]
include hll
end

theorem App.row {B : Nat} {w w' : World} {u v : Value} {agg : Bool} {k : Nat} {xs : List Value} (a : App B w w' u) (h : RowV w agg k v xs) (hne : ∀ g, u.ownBlock = some g → v.ownBlock ≠ some g) : RowV w' agg k v xs :=
  ⟨h.len, h.fit, h.at_.imp id fun ⟨b, o, c, hv, hl, hc⟩ => ⟨b, o, c, hv, hl, fun j x hx => a.at_ (hc j x hx) (fun e => hne b e (by rw [hv]; rfl))⟩⟩
section rules
variable {P : Program} {ro : Option Nat} {n : Nat} {all rest : List Oper} {K : Sl → World → Prop} {s : Sl} {w : World} {d t e ty : Nat} {pos : String} {af : Array Edge} {x : Operand}
theorem Ops.sliceXLv {k bytes l c lo : Nat} {z : Value} {a : Option Addr} {i : Int} {k1 : IntKind} {xl : Operand} (hx : ev n s x = .slice a l c) (hl : ev n s xl = .int k1 i)
    (hi' : i = (lo : Int)) (h1 : lo ≤ l) [ht : TSl P t e] [hz : TS P e z k bytes]
    (h : Ops P ro n all rest K (upd s d (cutV a c k lo l)) w) : Ops P ro n all (⟨some d, .slice t x (some xl) none none, ty, pos, af, none⟩ :: rest) K s w := by
  subst hi'
  refine Ops.ofRun (v := cutV a c k lo l) (w' := w) rfl ?_ h
  simp [cutV, execOp, Instr.sliceAt, Instr.slice, Instr.sliceBounds, Instr.sliceBound, hx, hl, run_underlying ht.h, asIntOf, h1, run_sizeOf' w hz]
end rules
section rules
variable {P : Program} {ro : Option Nat} {n : Nat} {all rest : List Oper} {K : Sl → World → Prop} {s : Sl} {w : World} {d : Nat} {ty : Nat} {pos : String} {af : Array Edge}
variable {x : Operand} {t : Nat}
theorem Ops.loadOA {b o off : Nat} {cs cs' : List Value} {dd : TypeDesc} {z : Value} {size bytes : Nat} (hc : At w b o cs) (hx : ev n s x = .pointer (some ⟨b, o + off, none⟩)) [ht : TU P t dd] (hs : TypeDesc.isAgg dd = true) [hz : TS P t z size bytes]
    (hl : (cs.drop off).take size = cs') (hn : cs'.length = size) (h : Ops P ro n all rest K (upd s d (.agg cs'.toArray)) w) : Ops P ro n all (⟨some d, .load t x, ty, pos, af, none⟩ :: rest) K s w :=
  Ops.loadA (cs := cs') ⟨fun i v hv => by
    refine (hc.drop off).h i v ?_
    rw [← hl, List.getElem?_take] at hv
    split at hv
    · exact hv
    · cases hv⟩ hx hs hn h
end rules
end Go.Proofs.YtpijeomnplmakaaGreatDoor

/- slices at slips: Clone, BinarySearchFunc. -/
namespace Go.Proofs.YtpijeomnplmakaaGreatDoor
open Go.RowKit Go.Sort

theorem all_encSl (l : List Slp) : (l.map encSl).all (fun v => v.cells.toList.all (·.oneCell')) = true := by
  rw [List.all_eq_true]
  intro x hx
  obtain ⟨b, _, rfl⟩ := List.mem_map.1 hx
  rfl
theorem Clone_Slip (a : Option Addr) (c : Nat) (l : List Slp) (w : World) (hl : l.length ≤ 1000000) [hrow : RowI w (.slice a l.length c) true 6 (l.map encSl)] :
    Ct Tryz.prog 64 [.slice a l.length c] w fun v w' => ∃ a' c', v = .slice a' l.length c' ∧ OwnL w' w.heap.size 49 true 6 (.slice a' l.length c') (l.map encSl) := by
  refine Ct.ofW (by simp) ?_
  (refine jjB ?_; refine jjC ?_; apply jJ; exact eS rfl; refine jz ?_; refine jjB ?_; refine jjB ?_; refine jjC ?_; apply jI; exact eS rfl)
  refine Ops.eqlNil rfl rfl ?_
  repeat' (first|(apply jJ; exact eS rfl)|refine jz ?_|(refine jjA ?_; (first|refine jjB ?_|refine jjC ?_|refine jjF ?_|refine jjG ?_))|(refine jjA ?_; (refine jjO rfl ?_ ?_ <;> intro _))|refine jB rfl rfl ⟨inferInstance, ?_⟩)
  · obtain rfl : a = none := by cases a with
      | none => rfl
      | some x => cases ‹(some x).isNone = true›
    have e : l = [] := by have := row_none hrow.h; simpa using this
    subst e
    exact ⟨none, 0, rfl, OwnL.nil _ _ _ _ _⟩
  · refine Ops.buildSlice0 ?_
    intro b3 w4 hb3 hs4 hS4 hk4
    have hO4 := OwnL.empty (agg := true) (k := 6) (B := w.heap.size) (by omega) hk4
    (apply jI; exact eS rfl)
    refine Ops.appendL hO4 (by omega) (hrow.h.ext inferInstance) rfl rfl rfl rfl (all_encSl l) ?_ ?_ ?_
    · simp only [List.length_map, List.length_nil]; omega
    · simp only [List.length_map, List.length_nil]; omega
    intro v5 w5 hA hO5 _ _
    rw [List.nil_append] at hO5
    obtain ⟨a5, c5, rfl⟩ := hO5.slice
    rw [List.length_map] at hO5 ⊢
    have hE5 : Ext w w5 := hA.ext inferInstance (Nat.le_refl _)
    have hS5 := hE5.toStep
    (apply jJ; exact eS rfl; refine jz ?_; refine jjF ?_; refine jB rfl rfl ⟨inferInstance, ?_⟩)
    exact ⟨a5, c5, rfl, hO5⟩
theorem place_k {w : World} {agg : Bool} {k l c j b o : Nat} {xs : List Value} {x : Value} (h : RowV w agg k (.slice (some ⟨b, o, none⟩) l c) xs) (hj : xs[j]? = some x) : At w b (o + j * k) x.cells.toList := by
  obtain ⟨b', o', e, hA⟩ := h.place' hj
  cases e
  exact hA
set_option maxHeartbeats 4000000 in
theorem Search_slip (q : Nat) [he : Enters Tryz.prog q] (cf : Slp → Slp → Int) (hf : Pre3 cf) (hc : CmpQ q cf)
    (a : Option Addr) (c : Nat) (C : List Slp) (x : Slp) (hgd : ∀ y ∈ C, GdS y) (hgx : GdS x) (w : World) (hl : C.length ≤ 1000000) (hC : C.Pairwise (fun a b => cf a b = -1)) [hmx : MxI w] [hrow : RowI w (.slice a C.length c) true 6 (C.map encSl)] :
    Ct Tryz.prog 68 [.slice a C.length c, encSl x, .func (.func q) #[] #[]] w fun v w' => ∃ b : Bool, v = .tuple #[.int .i64 (((C.filter fun y => decide (cf y x < 0)).length : Nat) : Int), .bool b] := by
  refine Ct.ofW (by simp) ?_
  (refine jjB ?_; refine jjC ?_)
  (refine jy rfl ?_; intro b4 w_b4 hb_b4 hs_b4 hS_b4 hk_b4; have hA_b4 := At.ofBlock hk_b4)
  (apply jJ; exact eI rfl; apply jJ; exact eB rfl; refine jz ?_; refine jjB ?_; refine jjC ?_; apply jI; exact eS rfl; refine jh rfl ?_; apply jJ; exact eI rfl; refine jz ?_; refine jjB ?_; refine jjC ?_; apply jI; exact eI rfl; apply jJ; exact eI rfl; apply jJ; exact eI rfl; refine jz ?_; refine jjB ?_; refine jjD ?_)
  refine W.keep0 [(0, .slice a C.length c), (2, .func (.func q) #[] #[]), (4, .pointer (some ⟨b4, 0, none⟩)), (8, .int .i64 (C.length : Int)), (9, .int .i64 ((0 : Nat) : Int)), (10, .int .i64 ((C.length : Nat) : Int))] ⟨eS rfl, rfl, eP rfl, eI rfl, eI rfl, eI rfl, trivial⟩ fun s0 => ?_
  refine W.loop (15 :: 16 :: 17 :: 18 :: 19 :: 20 :: 21 :: 22 :: 23 :: 11 :: 24 :: 25 :: 26 :: 27 :: 28 :: 29 :: 30 :: 31 :: 32 :: 33 :: 9 :: 34 :: 10 :: []) (fun g s' V => ∃ i j : Nat, s' 9 = .int .i64 (i : Int) ∧ s' 10 = .int .i64 (j : Int) ∧ g = j - i ∧ i ≤ j ∧ j ≤ C.length ∧ (∀ t (h : t < C.length), t < i → cf C[t] x < 0) ∧ (∀ t (h : t < C.length), j ≤ t → ¬ cf C[t] x < 0)) C.length ⟨0, C.length, rfl, rfl, rfl, Nat.zero_le _, Nat.le_refl _, fun t h1 h2 => absurd h2 (Nat.not_lt_zero _), fun t h1 h2 => by omega⟩ ?_
  rintro _ sd V hSV ⟨i, j, h9, h10, rfl, hij, hj, hlo, hhi⟩
  refine W.fix (d := 9) h9 (W.fix (d := 10) h10 ?_)
  clear h9 h10
  by_cases hlt : i < j
  rotate_left
  · obtain rfl : i = j := by omega
    have hcnt := filt_upto (fun y => decide (cf y x < 0)) C i hj (fun t h1 h2 => decide_eq_true (hlo t h1 h2)) (fun t h1 h2 => decide_eq_false (hhi t h1 h2))
    rw [hcnt]
    (refine jjB ?_; refine jjB ?_; refine jjC ?_; apply jI; exact eI rfl; apply jI; exact eI rfl; refine jja rfl rfl (by omega) ?_; refine jz ?_; refine jjK rfl ?_; refine jjE ?_; refine jjB ?_)
    refine W.draw (fun w' => Ext V w') ?_
    intro w5 hS5
    rcases Nat.lt_or_ge i C.length with hi | hi
    · have hg : (C.map encSl)[i]? = some (encSl C[i]) := by rw [List.getElem?_map, List.getElem?_eq_getElem hi]; rfl
      obtain ⟨pb, po, rfl, -⟩ := hrow.h.place' hg
      have hAi : At V pb (po + i * 6) (encSl C[i]).cells.toList := place_k (hrow.h.ext inferInstance) hg
      refine jjV [0, 1, 2, 3, 4, 5, 6, 7] (by decide +kernel) hS5.ext ?_
      (((apply jjT; exact rfl; rintro w' hq; have := hq.toStep; apply jI; exact eI rfl; refine jz ?_; exact ⟨rfl, rfl⟩; apply jjT; exact rfl; rintro w' hq; have := hq.toStep; apply jI; exact eI rfl; refine jz ?_; exact ⟨rfl, rfl⟩; apply jjT; exact rfl; rintro w' hq; have := hq.toStep; apply jI; exact eI rfl; refine jz ?_; exact ⟨rfl, rfl⟩; apply jjT; exact rfl; rintro w' hq; have := hq.toStep; refine jjZ rfl rfl (by omega) ?_; refine jz ?_; exact ⟨rfl, rfl⟩; apply jjT; exact rfl; rintro w' hq; have := hq.toStep; apply jI; exact eB rfl; refine jz ?_; exact ⟨rfl, rfl⟩; apply jjT; exact rfl; rintro w' hq; have := hq.toStep; refine jT rfl rfl rfl ?_; apply jI; exact eF rfl; refine jz ?_; exact ⟨rfl, rfl⟩; apply jjT; exact rfl; rintro w' hq; have := hq.toStep; refine jT rfl rfl rfl ?_; apply jI; exact eS rfl; refine jz ?_; exact ⟨rfl, rfl⟩; apply jjT; exact rfl; rintro w' hq; have := hq.toStep; refine jT rfl rfl rfl ?_; apply jI; exact eI rfl; refine jz ?_; exact ⟨rfl, rfl⟩; refine jjU ?_)))
      refine jjV [8] (by decide +kernel) hS5.ext (jjT (v := .pointer (some ⟨pb, po + i * 6, none⟩)) rfl (fun w' q1 => ?_) (jjU ?_)); (refine jT rfl rfl rfl ?_; refine jH i rfl rfl rfl (by omega) ?_; refine jz ?_; exact ⟨rfl, rfl⟩)
      refine jjV [9] (by decide +kernel) hS5.ext (jjT (v := encSl C[i]) rfl (fun w' q1 => ?_) (jjU ?_)); (refine jT rfl rfl rfl ?_; refine Ops.loadOA (off := 0) (hAi.ext q1) rfl rfl rfl rfl ?_; refine jz ?_; exact ⟨rfl, rfl⟩)
      refine jjV [10] (by decide +kernel) hS5.ext (jjT (v := encSl x) rfl (fun w' q1 => ?_) (jjU ?_)); (have := q1.toStep; refine jT rfl rfl rfl ?_; refine jO rfl rfl rfl rfl ?_; refine jz ?_; exact ⟨rfl, rfl⟩)
      (apply jjW 11; (decide +kernel); exact rfl; (exact inferInstance))
      (refine jT rfl rfl rfl ?_)
      refine Ops.callR rfl (Enters.h (P := Tryz.prog) (g := q)) rfl (hc C[i] x _ inferInstance (hgd _ (List.getElem_mem _)) hgx) ?_
      rintro e w6 ⟨rfl, x6, -⟩
      refine ⟨_, rfl, ?_⟩
      have s6 := x6.toStep
      refine jz ?_
      generalize cf C[i] x = z at *
      refine jjV [12, 13, 14, 15] (by decide +kernel) inferInstance ?_
      (((apply jjT; exact rfl; rintro w' hq; have := hq.toStep; refine jT rfl rfl rfl ?_; refine jb rfl rfl ?_; refine jz ?_; exact ⟨rfl, rfl⟩; apply jjT; exact rfl; rintro w' hq; have := hq.toStep; apply jK rfl; exact eB rfl; refine jz ?_; exact ⟨rfl, rfl⟩; apply jjT; exact rfl; rintro w' hq; have := hq.toStep; apply jJ; exact eI rfl; refine jz ?_; exact ⟨rfl, rfl⟩; apply jjT; exact rfl; rintro w' hq; have := hq.toStep; apply jJ; exact eB rfl; refine jz ?_; exact ⟨rfl, rfl⟩; refine jjU ?_)))
      refine jjX (by decide +kernel) inferInstance ?_
      (refine jjF ?_; refine jC rfl rfl rfl ⟨inferInstance, ?_⟩)
      exact ⟨_, rfl⟩
    · refine jjV [0, 1, 2, 3, 4, 5, 6, 7, 8, 9, 10, 11, 12, 13, 14, 15] (by decide +kernel) hS5.ext ?_
      (((apply jjT; exact rfl; rintro w' hq; have := hq.toStep; apply jI; exact eI rfl; refine jz ?_; exact ⟨rfl, rfl⟩; apply jjT; exact rfl; rintro w' hq; have := hq.toStep; apply jI; exact eI rfl; refine jz ?_; exact ⟨rfl, rfl⟩; apply jjT; exact rfl; rintro w' hq; have := hq.toStep; apply jI; exact eI rfl; refine jz ?_; exact ⟨rfl, rfl⟩; apply jjT; exact rfl; rintro w' hq; have := hq.toStep; refine jja rfl rfl (by omega) ?_; refine jz ?_; exact ⟨rfl, rfl⟩; apply jjT; exact rfl; rintro w' hq; have := hq.toStep; apply jI; exact eB rfl; refine jz ?_; exact ⟨rfl, rfl⟩; apply jjT; exact rfl; rintro w' hq; have := hq.toStep; refine jU rfl rfl rfl rfl ?_; refine jz ?_; exact ⟨rfl, rfl⟩; apply jjT; exact rfl; rintro w' hq; have := hq.toStep; refine jU rfl rfl rfl rfl ?_; refine jz ?_; exact ⟨rfl, rfl⟩; apply jjT; exact rfl; rintro w' hq; have := hq.toStep; refine jU rfl rfl rfl rfl ?_; refine jz ?_; exact ⟨rfl, rfl⟩; apply jjT; exact rfl; rintro w' hq; have := hq.toStep; refine jU rfl rfl rfl rfl ?_; refine jz ?_; exact ⟨rfl, rfl⟩; apply jjT; exact rfl; rintro w' hq; have := hq.toStep; refine jU rfl rfl rfl rfl ?_; refine jz ?_; exact ⟨rfl, rfl⟩; apply jjT; exact rfl; rintro w' hq; have := hq.toStep; refine jU rfl rfl rfl rfl ?_; refine jz ?_; exact ⟨rfl, rfl⟩; apply jjT; exact rfl; rintro w' hq; have := hq.toStep; refine jU rfl rfl rfl rfl ?_; refine jz ?_; exact ⟨rfl, rfl⟩; apply jjT; exact rfl; rintro w' hq; have := hq.toStep; refine jU rfl rfl rfl rfl ?_; refine jz ?_; exact ⟨rfl, rfl⟩; apply jjT; exact rfl; rintro w' hq; have := hq.toStep; apply jL rfl; exact eB rfl; refine jz ?_; exact ⟨rfl, rfl⟩; apply jjT; exact rfl; rintro w' hq; have := hq.toStep; apply jJ; exact eI rfl; refine jz ?_; exact ⟨rfl, rfl⟩; apply jjT; exact rfl; rintro w' hq; have := hq.toStep; apply jJ; exact eB rfl; refine jz ?_; exact ⟨rfl, rfl⟩; refine jjU ?_)))
      refine jjX (by decide +kernel) inferInstance ?_
      (refine jjF ?_; refine jC rfl rfl rfl ⟨inferInstance, ?_⟩)
      exact ⟨_, rfl⟩
  obtain ⟨h, hh⟩ : ∃ h, h = (i + j) / 2 := ⟨_, rfl⟩
  have hhl : h < C.length := by omega
  (refine jjB ?_; refine jjB ?_; refine jjC ?_; apply jI; exact eI rfl; apply jI; exact eI rfl; refine jjZ rfl rfl (by omega) ?_; refine jz ?_; refine jjJ rfl ?_; refine jjG ?_; refine jjD ?_; refine jjB ?_; refine jjC ?_; apply jI; exact eI rfl; apply jI; exact eI rfl; refine jY rfl rfl (by omega) ?_)
  refine Ops.convI rfl rfl (wrap64 (by omega) (by omega)) ?_
  skip
  refine Ops.half (a := i + j) rfl (by omega) rfl ?_
  skip
  refine Ops.convI rfl rfl (wrapi (by omega) (by omega)) ?_
  (apply jJ; exact eI rfl; refine jz ?_; refine jjB ?_)
  rw [← hh]
  have hg : (C.map encSl)[h]? = some (encSl C[h]) := by rw [List.getElem?_map, List.getElem?_eq_getElem hhl]; rfl
  obtain ⟨pb, po, rfl, -⟩ := hrow.h.place' hg
  have hAh : At V pb (po + h * 6) (encSl C[h]).cells.toList := place_k (hrow.h.ext inferInstance) hg
  refine W.draw (fun w' => Ext V w') ?_
  intro w5 hS5
  refine jjV [0, 1, 2] (by decide +kernel) hS5.ext ?_
  (((apply jjT; exact rfl; rintro w' hq; have := hq.toStep; apply jI; exact eF rfl; refine jz ?_; exact ⟨rfl, rfl⟩; apply jjT; exact rfl; rintro w' hq; have := hq.toStep; apply jI; exact eS rfl; refine jz ?_; exact ⟨rfl, rfl⟩; apply jjT; exact rfl; rintro w' hq; have := hq.toStep; apply jI; exact eI rfl; refine jz ?_; exact ⟨rfl, rfl⟩; refine jjU ?_)))
  refine jjV [3] (by decide +kernel) hS5.ext (jjT (v := .pointer (some ⟨pb, po + h * 6, none⟩)) rfl (fun w' q1 => ?_) (jjU ?_)); (refine jH h rfl rfl rfl (by omega) ?_; refine jz ?_; exact ⟨rfl, rfl⟩)
  refine jjV [4] (by decide +kernel) hS5.ext (jjT (v := encSl C[h]) rfl (fun w' q1 => ?_) (jjU ?_)); (refine Ops.loadOA (off := 0) (hAh.ext q1) rfl rfl rfl rfl ?_; refine jz ?_; exact ⟨rfl, rfl⟩)
  refine jjV [5] (by decide +kernel) hS5.ext (jjT (v := encSl x) rfl (fun w' q1 => ?_) (jjU ?_)); (have := q1.toStep; refine jO rfl rfl rfl rfl ?_; refine jz ?_; exact ⟨rfl, rfl⟩)
  (apply jjW 6; (decide +kernel); exact rfl; (exact inferInstance))
  refine Ops.callR rfl (Enters.h (P := Tryz.prog) (g := q)) rfl (hc C[h] x _ inferInstance (hgd _ (List.getElem_mem _)) hgx) ?_
  rintro e w6 ⟨rfl, x6, -⟩
  refine ⟨_, rfl, ?_⟩
  have s6 := x6.toStep
  refine jz ?_
  have hmn := fun t (ht : t < h) => less_mono hf hC (s := x) ht hhl
  have hup := fun t (ht : t < C.length) (hht : h < t) => less_mono hf hC (s := x) hht ht
  generalize hz : cf C[h] x = z at *
  by_cases hz0 : z < 0
  · refine jjV [7] (by decide +kernel) inferInstance ?_
    (((apply jjT; exact rfl; rintro w' hq; have := hq.toStep; refine jjZ rfl rfl (by omega) ?_; refine jz ?_; exact ⟨rfl, rfl⟩; refine jjU ?_)))
    refine jjX (by decide +kernel) inferInstance ?_
    (refine jjJ rfl ?_; refine jjC ?_; apply jI; exact eI rfl; refine jY rfl rfl (by omega) ?_; apply jJ; exact eI rfl; refine jz ?_)
    refine ⟨rfl, by (((iterate 23 refine Same.upd rfl ?_); exact Same.ovN)), j - (h + 1), by omega, inferInstance, h + 1, j, congrArg (Value.int .i64) (by omega), rfl, rfl, by omega, hj, fun t h1 h2 => ?_, hhi⟩
    rcases Nat.lt_or_ge t h with c1 | c1
    · exact hmn t c1 hz0
    · obtain rfl : t = h := by omega
      rw [hz]; exact hz0
  · refine jjV [7] (by decide +kernel) inferInstance ?_
    (((apply jjT; exact rfl; rintro w' hq; have := hq.toStep; refine jja rfl rfl (by omega) ?_; refine jz ?_; exact ⟨rfl, rfl⟩; refine jjU ?_)))
    refine jjX (by decide +kernel) inferInstance ?_
    (refine jjK rfl ?_; refine jjC ?_; apply jI; exact eI rfl; apply jJ; exact eI rfl; refine jz ?_)
    refine ⟨rfl, by (((iterate 22 refine Same.upd rfl ?_); exact Same.ovN)), h - i, by omega, inferInstance, i, h, rfl, rfl, rfl, by omega, by omega, hlo, fun t h1 h2 h3 => ?_⟩
    rcases Nat.lt_or_ge h t with c1 | c1
    · exact hz0 (hz ▸ hup t h1 c1 h3)
    · obtain rfl : t = h := by omega
      exact hz0 (hz ▸ h3)
end Go.Proofs.YtpijeomnplmakaaGreatDoor
namespace Go.Proofs.YtpijeomnplmakaaGreatDoor
open Go.RowKit

section
variable {ws : List ByteArray} {side : Int} {i : Nat} (hi : i < ws.length)
include hi
end

section rules
variable {P : Program} {ro : Option Nat} {n : Nat} {all rest : List Oper} {K : Sl → World → Prop} {s : Sl} {w : World} {d : Nat} {ty : Nat} {pos : String} {af : Array Edge}
variable {x y : Operand} {t tn e : Nat}
end rules

section
variable (a : Option Addr) (c : Nat) (cs : List Ch) (w : World) [hrow : RowI w (.slice a cs.length c) true 2 (cs.map encCh)] [hT : TextI w cs]
end

/-- All places of a word. -/
def allW (t : Tx) (n : Nat) : List (Pl × ByteArray) := (List.range n).flatMap fun k => (runA k (wsT t k)).zip (wsT t k).flatten

theorem flat_get3 {α : Type} {f : Nat → List α} {q m r : Nat} {x : α} (hq : q < m) (h : (f q)[r]? = some x) : ((List.range m).flatMap f)[((List.range q).flatMap f).length + r]? = some x := by
  obtain ⟨s, hs⟩ := range_split hq
  rw [hs, List.flatMap_append, List.flatMap_cons, List.getElem?_append_right (by omega), Nat.add_sub_cancel_left, List.getElem?_append_left (List.getElem?_eq_some_iff.1 h).1, h]
theorem flat_at {α : Type} {x : List (List α)} {n w : Nat} (hn : n < x.length) (hw : w < x[n].length) : x.flatten[(x.take n).flatten.length + w]? = some x[n][w] := by
  have e : x = x.take n ++ (x[n] :: x.drop (n + 1)) := by rw [← List.drop_eq_getElem_cons hn, List.take_append_drop]
  conv => lhs; rw [e]
  rw [List.flatten_append, List.flatten_cons]
  have hl : ((x.take n ++ (x[n] :: x.drop (n + 1))).take n).flatten.length = (x.take n).flatten.length := by rw [← e]
  rw [hl, List.getElem?_append_right (by omega), Nat.add_sub_cancel_left, List.getElem?_append_left hw, List.getElem?_eq_getElem hw]
theorem lnPs_len (k : Nat) (x : List (List ByteArray)) : ∀ n, n ≤ x.length → ((List.range n).flatMap fun i => lnP k i (x.getD i []).length).length = (x.take n).flatten.length
  | 0, _ => by simp
  | n + 1, h => by
    have hg : x.getD n [] = x[n] := by rw [List.getD_eq_getElem?_getD, List.getElem?_eq_getElem (by omega), Option.getD_some]
    rw [List.range_succ, List.flatMap_append, List.length_append, lnPs_len k x n (by omega), take_snoc_get (List.getElem?_eq_getElem (show n < x.length by omega)), List.flatten_append, List.length_append]
    simp [lnP, List.getElem?_eq_getElem (show n < x.length by omega)]
theorem runA_at {k : Nat} {x : List (List ByteArray)} {n w : Nat} (hn : n < x.length) (hw : w < x[n].length) : (runA k x)[(x.take n).flatten.length + w]? = some ((k : Int), (n : Int), (w : Int)) := by
  have hg : x.getD n [] = x[n] := by rw [List.getD_eq_getElem?_getD, List.getElem?_eq_getElem hn, Option.getD_some]
  rw [← lnPs_len k x n (by omega), runA, runAn]
  refine flat_get3 hn ?_
  rw [hg, lnP, List.getElem?_map, List.getElem?_range hw]; rfl
/-- The words of places. -/
theorem allW_word {t : Tx} {i : Nat} {p : Pl} {s : ByteArray} (h : (allW t t.length)[i]? = some (p, s)) : ∃ k n w : Nat, ∃ (hk : k < t.length) (hn : n < t[k].2.length) (hw : w < t[k].2[n].length), p = ((k : Int), (n : Int), (w : Int)) ∧ s = t[k].2[n][w] := by
  have hm := List.mem_of_getElem? h
  obtain ⟨k, hk, hz⟩ := List.mem_flatMap.1 hm
  rw [List.mem_range] at hk
  have hws : wsT t k = t[k].2 := by rw [wsT, List.getD_eq_getElem?_getD, List.getElem?_eq_getElem hk, Option.getD_some]
  obtain ⟨j, hj, e⟩ := List.mem_iff_getElem.1 hz
  have e' : ((runA k (wsT t k)).zip (wsT t k).flatten)[j]? = some (p, s) := by rw [List.getElem?_eq_getElem hj, e]
  rw [List.getElem?_zip_eq_some] at e'
  obtain ⟨n, w, hn, hw, hp⟩ := mem_runA.1 (List.mem_of_getElem? e'.1)
  have h1 := runA_at (k := k) hn hw
  subst hp
  have hji : j = ((wsT t k).take n).flatten.length + w := nodup_inj (runA_nodup k (wsT t k)) e'.1 h1
  have h2 := flat_at hn hw
  rw [← hji, e'.2] at h2
  simp only [hws] at hn hw h2
  exact ⟨k, n, w, hk, hn, hw, rfl, by simpa using h2⟩


/-- Lines of the call's own. -/
structure OwnLn (w : World) (B : Nat) (v : Value) (ys : List Ln) : Prop where
  out : OwnL w B 90 false 1 v (ys.map encLn)
  ins : ∀ y ∈ ys, OwnL w B 9 false 1 (encLn y) (y.2.2.map strV)
theorem OwnLn.ext {w w' : World} {B : Nat} {v : Value} {ys : List Ln} (h : OwnLn w B v ys) (hs : Ext w w') : OwnLn w' B v ys := ⟨h.out.ext hs, fun y hy => (h.ins y hy).ext hs⟩
theorem OwnLn.put {w w' : World} {B b : Nat} {o : Obj} {v : Value} {ys : List Ln} (h : OwnLn w B v ys) (p : PutO w w' b o) (hb : b < B) : OwnLn w' B v ys :=
  ⟨h.out.put p fun e => by have := (h.out.block _ e).1; omega, fun y hy => (h.ins y hy).put p fun e => by have := ((h.ins y hy).block _ e).1; omega⟩
theorem OwnLn.mono {w : World} {B B' : Nat} {v : Value} {ys : List Ln} (h : OwnLn w B v ys) (hB : B' ≤ B) : OwnLn w B' v ys := ⟨h.out.mono hB, fun y hy => (h.ins y hy).mono hB⟩
/-- Chapters of the call's own. -/
structure OwnCh (w : World) (B : Nat) (v : Value) (cs : List Ch) : Prop where
  out : OwnL w B 133 true 2 v (cs.map encCh)
  ins : ∀ x ∈ cs, OwnLn w B (.slice x.2.1 x.2.2.2.length x.2.2.1) x.2.2.2
theorem OwnCh.ext {w w' : World} {B : Nat} {v : Value} {cs : List Ch} (h : OwnCh w B v cs) (hs : Ext w w') : OwnCh w' B v cs := ⟨h.out.ext hs, fun y hy => (h.ins y hy).ext hs⟩
theorem OwnCh.put {w w' : World} {B b : Nat} {o : Obj} {v : Value} {cs : List Ch} (h : OwnCh w B v cs) (p : PutO w w' b o) (hb : b < B) : OwnCh w' B v cs :=
  ⟨h.out.put p fun e => by have := (h.out.block _ e).1; omega, fun y hy => (h.ins y hy).put p hb⟩
theorem OwnCh.mono {w : World} {B B' : Nat} {v : Value} {cs : List Ch} (h : OwnCh w B v cs) (hB : B' ≤ B) : OwnCh w B' v cs := ⟨h.out.mono hB, fun y hy => (h.ins y hy).mono hB⟩
theorem OwnCh.text {w : World} {B : Nat} {v : Value} {cs : List Ch} (h : OwnCh w B v cs) : TextI w cs := ⟨fun x hx => (h.ins x hx).out.row, fun x hx y hy => ((h.ins x hx).ins y hy).row⟩
theorem OwnLn.only {kb : Nat} {w w' : World} {B : Nat} {v : Value} {ys : List Ln} (h : OwnLn w B v ys) (o : Only kb w w') (hB : kb < B) : OwnLn w' B v ys := ⟨o.own h.out hB, fun y hy => o.own (h.ins y hy) hB⟩
/-- A row lies in no block of another type. -/
theorem OwnL.neB {w : World} {B e e' k b : Nat} {agg : Bool} {v : Value} {xs : List Value} {cs : List Value} (h : OwnL w B e agg k v xs) (hb : Bk w b cs e') (he : e ≠ e') : v.ownBlock ≠ some b := fun hv => by
  rcases h.own.2 with ⟨rfl, _⟩ | ⟨g, cap, cur, rfl, _, hg, _⟩
  · simp [Value.ownBlock] at hv
  · simp only [Value.ownBlock, Option.some.injEq] at hv
    subst hv
    rw [hb.h] at hg
    cases hg
    exact he rfl
/-- Chapters of the call's own, none of which lies in the block b, nor behind it. -/
theorem OwnCh.only {kb : Nat} {w w' : World} {B : Nat} {v : Value} {cs : List Ch} (h : OwnCh w B v cs) (o : Only kb w w') (hout : v.ownBlock ≠ some kb) (hb : ∃ vs, Bk w kb vs 133) : OwnCh w' B v cs := by
  obtain ⟨vs, hb⟩ := hb
  exact ⟨o.own' h.out hout, fun x hx => ⟨o.own' (h.ins x hx).out ((h.ins x hx).out.neB hb (by decide)), fun y hy => o.own' ((h.ins x hx).ins y hy) (((h.ins x hx).ins y hy).neB hb (by decide))⟩⟩
section
variable (a : Option Addr) (c : Nat) (cs : List Ch) (w : World) [hrow : RowI w (.slice a cs.length c) true 2 (cs.map encCh)] [hT : TextI w cs]
end



theorem placeB_line {t : Tx} {p : Pl} (h : placeB t p = true) : ∃ l, lineT t p = some l ∧ ∃ q : Nat, q < l.length ∧ p.2.2 = (q : Int) := by
  unfold placeB at h
  split at h
  · cases h
  · refine ⟨_, ‹_›, p.2.2.toNat, ?_, ?_⟩ <;> (simp [inB] at h; omega)

theorem wsT_at {t : Tx} {k : Nat} (hk : k < t.length) : wsT t k = t[k].2 := by rw [wsT, List.getD_eq_getElem?_getD, List.getElem?_eq_getElem hk, Option.getD_some]
theorem lineT_at {t : Tx} {k n : Nat} {q : Int} (hk : k < t.length) (hn : n < t[k].2.length) : lineT t ((k : Int), (n : Int), q) = some t[k].2[n] := by
  rw [lineT, if_pos ⟨by simp, by simp⟩]
  simp only [Int.toNat_natCast]
  rw [List.getElem?_eq_getElem hk, Option.bind_some, List.getElem?_eq_getElem hn]
theorem placeB_get {t : Tx} {p : Pl} (h : placeB t p = true) : ∃ (k n w : Nat) (hk : k < t.length) (hn : n < t[k].2.length) (hw : w < t[k].2[n].length), p = ((k : Int), (n : Int), (w : Int)) := by
  obtain ⟨l, hl, q, hq, hp⟩ := placeB_line h
  rw [lineT] at hl
  split at hl
  · rename_i hc
    obtain ⟨x, hx, hl⟩ := Option.bind_eq_some_iff.1 hl
    obtain ⟨hk, rfl⟩ := List.getElem?_eq_some_iff.1 hx
    obtain ⟨hn, rfl⟩ := List.getElem?_eq_some_iff.1 hl
    exact ⟨_, _, q, hk, hn, hq, by ext <;> simp <;> omega⟩
  · cases hl
theorem placeB_yes {t : Tx} {k n w : Nat} (hk : k < t.length) (hn : n < t[k].2.length) (hw : w < t[k].2[n].length) : placeB t ((k : Int), (n : Int), (w : Int)) = true := by
  rw [placeB, lineT_at hk hn]
  simp only [inB, Bool.and_eq_true, decide_eq_true_eq]
  omega
theorem wordT_at {t : Tx} {k n w : Nat} (hk : k < t.length) (hn : n < t[k].2.length) (hw : w < t[k].2[n].length) : wordT t ((k : Int), (n : Int), (w : Int)) = t[k].2[n][w] := by
  rw [wordT, lineT_at hk hn, Option.getD_some, Int.toNat_natCast, List.getD_eq_getElem?_getD, List.getElem?_eq_getElem hw, Option.getD_some]
theorem placeB_mem {t : Tx} {p : Pl} : placeB t p = true ↔ p ∈ allP t t.length := by
  constructor
  · intro h
    obtain ⟨k, n, w, hk, hn, hw, rfl⟩ := placeB_get h
    refine mem_allP.2 ⟨k, hk, mem_runA.2 ⟨n, w, ?_, ?_, rfl⟩⟩
    · rw [wsT_at hk]; exact hn
    · simp only [wsT_at hk]; exact hw
  · intro h
    obtain ⟨k, hk, hm⟩ := mem_allP.1 h
    obtain ⟨n, w, hn, hw, rfl⟩ := mem_runA.1 hm
    simp only [wsT_at hk] at hn hw
    exact placeB_yes hk hn hw
theorem askE_yes {t : Tx} {wd side : Int} (h1 : textB t = true) (h2 : cutB wd side = true) : askE t wd side = 0 := by rw [askE, h1, h2]; rfl

theorem allP_pos {t : Tx} (h : textB t = true) : 0 < (allP t t.length).length := by
  simp only [textB, Bool.and_eq_true, List.all_eq_true] at h
  obtain ⟨⟨h1, h2⟩, _⟩ := h
  have ht : 0 < t.length := by simp only [inB, Bool.and_eq_true, decide_eq_true_eq] at h1; omega
  have hc := h2 t[0] (List.getElem_mem ht)
  simp only [chapB, Bool.and_eq_true, List.all_eq_true] at hc
  obtain ⟨⟨_, h3⟩, h4⟩ := hc
  have hl : 0 < t[0].2.length := by simp only [inB, Bool.and_eq_true, decide_eq_true_eq] at h3; omega
  have hy := h4 t[0].2[0] (List.getElem_mem hl)
  simp only [lineB, Bool.and_eq_true] at hy
  have hw : 0 < t[0].2[0].length := by have := hy.1; simp only [inB, Bool.and_eq_true, decide_eq_true_eq] at this; omega
  exact List.length_pos_of_mem (placeB_mem.1 (placeB_yes ht hl hw))
theorem allS_lenP (t : Tx) (side wd : Int) : (allS t side wd).length = (allP t t.length).length := by rw [allS, List.length_map]

theorem make_word {t : Tx} {side W : Int} {p : Pl} {s : Slp} (h : makeF t side W p = some s) : wordT t p = s.2.1 := by
  obtain ⟨k, i, hk, hi, rfl⟩ := makeF_some h
  have hil : i < (wsT t k).flatten.length := by
    have := (List.getElem?_eq_some_iff.1 hi).1
    rwa [runA_len] at this
  have hz : ((runA k (wsT t k)).zip (wsT t k).flatten)[i]? = some (p, (wsT t k).flatten[i]) := by
    rw [List.getElem?_zip_eq_some]
    exact ⟨hi, List.getElem?_eq_getElem hil⟩
  have hm : (p, (wsT t k).flatten[i]) ∈ allW t t.length := List.mem_flatMap.2 ⟨k, List.mem_range.2 hk, List.mem_of_getElem? hz⟩
  obtain ⟨j, hj⟩ := List.mem_iff_getElem?.1 hm
  obtain ⟨k', n, w, hk', hn, hw, hp, hs⟩ := allW_word hj
  show wordT t p = (wsT t k).flatten.getD i ⟨#[]⟩
  rw [hp, wordT_at hk' hn hw, List.getD_eq_getElem?_getD, List.getElem?_eq_getElem hil, Option.getD_some, hs]
/-- The slips of a text, said once. -/
structure AllF (t : Tx) (wd side : Int) (l : List Slp) : Prop where
  eq : allS t side wd = l
  len : l.length ≤ 600
  pos : 0 < l.length
  nd : l.Nodup
  at_ : ∀ (i : Nat) (hi : i < l.length), (allP t t.length)[i]? = some l[i].1
  wd_ : ∀ (i : Nat) (hi : i < l.length), placeB t l[i].1 = true ∧ wordT t l[i].1 = l[i].2.1
  mk_ : ∀ (i : Nat) (hi : i < l.length), makeF t side wd l[i].1 = some l[i]
  rt : ∀ x ∈ l, slipB x = true
theorem allF {t : Tx} {wd side : Int} (ht : textB t = true) (hc : cutB wd side = true) : AllF t wd side (allS t side wd) where
  eq := rfl
  len := allS_len ht
  pos := by rw [allS_lenP]; exact allP_pos ht
  nd := allS_nodup
  at_ i hi := by
    have hi' : i < (allP t t.length).length := by rwa [allS_lenP] at hi
    rw [List.getElem?_eq_getElem hi', allS_get hi]
  wd_ i hi := by
    have h := allS_mem (List.getElem_mem hi)
    exact ⟨placeB_mem.2 h.2, make_word h.1⟩
  mk_ i hi := (allS_mem (List.getElem_mem hi)).1
  rt x hx := allS_right ht hc hx

theorem flat_put {k : Nat} {x' : Value} (hx' : x'.cells.size = k) : ∀ {xs : List Value} {j : Nat}, (∀ x ∈ xs, x.cells.size = k) → j < xs.length →
    ((xs.set j x').flatMap (·.cells.toList)) = (xs.flatMap (·.cells.toList)).take (j * k) ++ x'.cells.toList ++ (xs.flatMap (·.cells.toList)).drop (j * k + k)
  | [], j, _, hj => absurd hj (Nat.not_lt_zero _)
  | y :: xs, j, hk, hj => by
    have hy : y.cells.toList.length = k := by simpa using hk y List.mem_cons_self
    cases j with
    | zero =>
      rw [List.set_cons_zero, List.flatMap_cons, List.flatMap_cons, Nat.zero_mul, List.take_zero, List.nil_append, Nat.zero_add, List.drop_append_of_le_length (by omega), List.drop_of_length_le (by omega), List.nil_append]
    | succ j =>
      have := flat_put hx' (xs := xs) (j := j) (fun z hz => hk z (List.mem_cons_of_mem _ hz)) (by simpa using hj)
      have e1 : (j + 1) * k = y.cells.toList.length + j * k := by rw [hy, Nat.add_mul]; omega
      have ht : ∀ F : List Value, (y.cells.toList ++ F).take (y.cells.toList.length + j * k) = y.cells.toList ++ F.take (j * k) := fun F => List.take_length_add_append _
      have hd : ∀ F : List Value, (y.cells.toList ++ F).drop (y.cells.toList.length + (j * k + k)) = F.drop (j * k + k) := fun F => List.drop_length_add_append _
      rw [List.set_cons_succ, List.flatMap_cons, List.flatMap_cons, this, e1, Nat.add_assoc, ht, hd]
      simp only [List.append_assoc]
section rules
variable {P : Program} {ro : Option Nat} {n : Nat} {all rest : List Oper} {K : Sl → World → Prop} {s : Sl} {w : World} {d : Nat} {ty : Nat} {pos : String} {af : Array Edge}
variable {x y : Operand}
theorem Ops.storeW {B e k g j bytes t : Nat} {agg : Bool} {v z : Value} {xs : List Value} {X' : Value} (hown : OwnL w B e agg k v xs) (hg : v.ownBlock = some g) (hj : j < xs.length) (hX' : fitsV agg k X' = true)
    (hx : ev n s x = .pointer (some ⟨g, j * k, none⟩)) (hy : ev n s y = X') (hu1 : X'.cells.toList.all (·.oneCell') = true) [hz : TS P t z k bytes]
    (h : ∀ w' o, PutO w w' g o → OwnL w' B e agg k v (xs.set j X') → Ops P ro n all rest K s w') : Ops P ro n all (⟨none, .store t x y, ty, pos, af, none⟩ :: rest) K s w := by
  have hxk : X'.cells.size = k := fitsV_cells hX'
  rcases hown.own.2 with ⟨rfl, _⟩ | ⟨g', cap, cur, rfl, hB, hh, hn, hm, hs, ht⟩
  · simp [Value.ownBlock] at hg
  · have hgg : g' = g := by simpa [Value.ownBlock] using hg
    subst hgg
    have hfl := flat_len (k := k) (xs := xs) fun y hy => fitsV_cells (hown.fit y hy)
    have hjk : j * k + k ≤ xs.length * k := by
      have : (j + 1) * k ≤ xs.length * k := Nat.mul_le_mul_right k hj
      rw [Nat.add_mul] at this; omega
    have hcl : xs.length * k ≤ cap * k := Nat.mul_le_mul_right k hn
    have hbk : Bk w g' cur.toList e := ⟨by simpa using hh⟩
    have hcs : cur.toList.length = cap * k := by simpa using hs
    have hput := flat_put (x' := X') hxk (xs := xs) (j := j) (fun y hy => fitsV_cells (hown.fit y hy)) hj
    have hfl' := flat_len (k := k) (xs := xs.set j X') fun y hy => by
      rcases List.mem_or_eq_of_mem_set hy with h1 | h1
      · exact fitsV_cells (hown.fit y h1)
      · subst h1; exact hxk
    rw [List.length_set] at hfl'
    have e0 : cur.toList = xs.flatMap (·.cells.toList) ++ cur.toList.drop (xs.length * k) := by rw [← ht, List.take_append_drop]
    refine Ops.store hx hy hxk (Nat.ble_eq_true_of_le (by omega)) hu1 ?_
    intro w' hp
    have e1 : cur.toList.take (j * k) ++ X'.cells.toList ++ cur.toList.drop (j * k + k) = (xs.set j X').flatMap (·.cells.toList) ++ cur.toList.drop (xs.length * k) := by
      rw [hput]
      conv => lhs; rw [e0]
      rw [List.take_append_of_le_length (by omega), List.drop_append_of_le_length (by omega)]
      simp only [List.append_assoc]
    rw [e1] at hp
    refine h w' _ hp ⟨⟨?_, .inr ⟨g', cap, ((xs.set j X').flatMap (·.cells.toList) ++ cur.toList.drop (xs.length * k)).toArray, by rw [List.length_set], hB, hp.new, by rw [List.length_set]; exact hn, hm, ?_, ?_⟩⟩, ?_, by rw [List.length_set]; exact hown.len⟩
    · rw [List.length_set]; exact hfl'
    · simp only [List.size_toArray, List.length_append, List.length_drop]
      omega
    · rw [List.length_set]
      show List.take (xs.length * k) (_ ++ _) = _
      rw [List.take_append_of_le_length (by omega), List.take_of_length_le (by omega)]
    · intro y hy
      rcases List.mem_or_eq_of_mem_set hy with h1 | h1
      · exact hown.fit y h1
      · subst h1; exact hX'
end rules
theorem own_addr {w : World} {B e : Nat} {agg : Bool} {k n c : Nat} {a : Option Addr} {xs : List Value} (h : OwnL w B e agg k (.slice a n c) xs) (hn : 0 < n) : ∃ g, a = some ⟨g, 0, none⟩ := by
  rcases h.own.2 with ⟨e, _⟩ | ⟨g, cap, cur, e, _⟩
  · simp only [Value.slice.injEq] at e; omega
  · simp only [Value.slice.injEq] at e; exact ⟨g, e.1⟩

theorem OwnL.cellsK {w : World} {B e k n c g : Nat} {agg : Bool} {l : List Value} (h : OwnL w B e agg k (.slice (some ⟨g, 0, none⟩) n c) l) : ∃ cs, Bk w g cs e ∧ cs.length = c * k ∧ n ≤ c ∧ c ≤ maxLen ∧ l.length = n ∧ cs.take (n * k) = l.flatMap (·.cells.toList) ∧ B ≤ g := by
  rcases h.own.2 with ⟨e0, _⟩ | ⟨g', cap, cur, e0, hB, hg, hn, hm, hs, ht⟩
  · simp at e0
  · simp only [Value.slice.injEq, Option.some.injEq, Addr.mk.injEq] at e0
    obtain ⟨⟨rfl, _⟩, rfl, rfl⟩ := e0
    exact ⟨cur.toList, ⟨by simpa using hg⟩, by simpa using hs, hn, hm, rfl, ht, hB⟩
theorem OwnL.ofCellsK {w : World} {B e k n c g : Nat} {agg : Bool} {l cs : List Value} (hB : Bk w g cs e) (hc : cs.length = c * k) (hn : n ≤ c) (hm : c ≤ maxLen) (hl : l.length = n) (ht : cs.take (n * k) = l.flatMap (·.cells.toList)) (hn' : n ≤ 140737488355328) (hg : B ≤ g) (hf : ∀ x ∈ l, fitsV agg k x = true) : OwnL w B e agg k (.slice (some ⟨g, 0, none⟩) n c) l := by
  have hfl := flat_len (k := k) (xs := l) fun y hy => fitsV_cells (hf y hy)
  refine ⟨⟨hfl, .inr ⟨g, c, cs.toArray, by rw [hl], hg, hB.h, by omega, hm, by simp [hc], ?_⟩⟩, hf, by rw [hl]; exact hn'⟩
  rw [hl]; exact ht

theorem lset_perm {L : List Slp} {i k : Nat} (hi : i < L.length) (hk : k < L.length) : ((L.set i L[k]).set k L[i]).Perm L := @List.set_set_perm _ L i k hi hk
section
variable (a : Option Addr) (c : Nat) (cs : List Ch) (wd side : Int) (ba : Option Addr) (bc : Nat) (by_ : List Int) (w : World) [hrow : RowI w (.slice a cs.length c) true 2 (cs.map encCh)] [hT : TextI w cs] [hgs : At w 1 0 sidesC] [hby : RowI w (.slice ba by_.length bc) false 1 (by_.map u32V)]
set_option maxHeartbeats 8000000 in
theorem mixed_law6 (hs : SmallT cs) (hd : 0 ≤ side ∧ side ≤ 255) (ht : textB (txF cs) = true) (hc : cutB wd side = true) (hu : U32s by_) : Ct Tryz.prog 44 [.agg #[.slice a cs.length c], encCut wd side, .slice ba by_.length bc] w fun v w' =>
    ∃ (L : List Slp) (va : Option Addr) (vc : Nat), v = .slice va (L.take 60).length vc ∧ L.Perm (allS (txF cs) side wd) ∧ OwnL w' w.heap.size 49 true 6 (.slice va (L.take 60).length vc) ((L.take 60).map encSl) := by
  refine Ct.ofW (by simp) ?_
  have F := allF (wd := wd) (side := side) ht hc
  have ha : askE (txF cs) wd side = 0 := askE_yes ht hc
  (refine jjB ?_; refine jjC ?_)
  (refine jy rfl ?_; intro b3 w_b3 hb_b3 hs_b3 hS_b3 hk_b3; have hA_b3 := At.ofBlock hk_b3)
  skip
  (refine jy rfl ?_; intro b4 w_b4 hb_b4 hs_b4 hS_b4 hk_b4; have hA_b4 := At.ofBlock hk_b4)
  have z4 := hS_b4.size
  have z3 := hS_b3.size
  (apply jJ; exact eS rfl; refine jz ?_; refine jjB ?_; refine jjC ?_; refine jO rfl rfl rfl rfl ?_; refine jO rfl rfl rfl rfl ?_)
  refine jjQ ((All_slip a c cs wd side _ hs hd).mono fun v _ _ h => by rw [ha, allR, if_pos ha] at h; exact h) rfl rfl ?_
  rintro _ w8 hS8 ⟨sv, rfl, hO⟩
  obtain ⟨S, hS⟩ : ∃ l, allS (txF cs) side wd = l := ⟨_, rfl⟩
  rw [hS] at hO F ⊢
  have hn6 := F.len
  have hn0 := F.pos
  obtain ⟨la, lc, rfl⟩ := hO.slice
  have hO := hO.mono (B' := w.heap.size) (by omega)
  rw [List.length_map] at hO ⊢
  obtain ⟨g, rfl⟩ := own_addr hO hn0
  have hE8 : Ext w w8 := inferInstance
  (apply jI; exact eU rfl; refine ju rfl rfl ?_; refine ju rfl rfl ?_; apply jJ; exact eS rfl; apply jJ; exact eI rfl; refine jz ?_; refine jjB ?_; refine jjB ?_; refine jjC ?_; apply jI; exact eS rfl; refine jh rfl ?_; apply jI; exact eI rfl; refine jz ?_; refine jjD ?_)
  refine W.keep0 [(2, .slice ba by_.length bc), (7, .slice (some ⟨g, 0, none⟩) S.length lc), (19, .int .i64 (S.length : Int)), (20, .int .i64 ((0 : Nat) : Int))] ⟨eS rfl, eS rfl, eI rfl, eI rfl, trivial⟩ fun s0 => ?_
  refine W.loopG (21 :: 22 :: 9 :: 23 :: 24 :: 25 :: 26 :: 27 :: 28 :: 10 :: 29 :: 30 :: 31 :: 32 :: 11 :: 33 :: 34 :: 35 :: 36 :: 37 :: 38 :: 39 :: 40 :: 41 :: 42 :: 43 :: 44 :: 20 :: []) (fun g' s' V => ∃ (i : Nat) (L : List Slp), s' 20 = .int .i64 (i : Int) ∧ g' = S.length - i ∧ i ≤ S.length ∧ L.Perm S ∧ Ext w V ∧ OwnL V w.heap.size 49 true 6 (.slice (some ⟨g, 0, none⟩) S.length lc) (L.map encSl)) S.length ⟨0, S, rfl, rfl, Nat.zero_le _, .refl _, hE8, hO⟩ ?_
  rintro _ sd V ⟨i, L, h20, rfl, hi, hp, hEV, hOV⟩
  refine W.fix h20 ?_
  clear h20
  have hl := hp.length_eq
  have hgV := hOV.block g rfl
  have := hEV.toStep
  by_cases hi1 : i < S.length
  rotate_left
  · obtain ⟨m, hm⟩ : ∃ m : Nat, min (S.length : Int) 60 = (m : Int) := ⟨(min (S.length : Int) 60).toNat, by omega⟩
    have hlt : L.take 60 = L.take m := by
      rcases Nat.le_total L.length 60 with h | h
      · rw [List.take_of_length_le h, List.take_of_length_le (by omega)]
      · rw [show m = 60 by omega]
    have hlm : (L.take 60).length = m := by rw [hlt, List.length_take]; omega
    have hc0 : 0 < lc ∧ m ≤ lc := by obtain ⟨_, _, _, h1, _⟩ := hOV.cellsK; omega
    have hcut := hOV.cut (m := m) (by rw [List.length_map]; omega) hc0.1
    (refine jjB ?_; refine jjC ?_; refine jja rfl rfl (by omega) ?_; refine jz ?_; refine jjB ?_; refine jjK rfl ?_; refine jjE ?_; refine jjB ?_; refine jjC ?_; apply jI; exact eS rfl; apply jI; exact eS rfl; refine jh rfl ?_; refine jj rfl rfl ?_)
    rw [hm]
    refine Ops.sliceXHv (k := 6) (hi := m) rfl rfl rfl (by omega) (by omega) ?_
    (apply jJ; exact eS rfl; refine jz ?_; refine jjF ?_; refine jB rfl rfl ⟨inferInstance, ?_⟩)
    refine ⟨L, some ⟨g, 0, none⟩, lc, by rw [hlm]; exact rfl, hp, ?_⟩
    rw [hlm, hlt, List.map_take]
    exact hcut
  have hryV : RowI V (.slice ba by_.length bc) false 1 (by_.map u32V) := inferInstance
  (refine jjB ?_; refine jjC ?_; refine jjZ rfl rfl (by omega) ?_; refine jz ?_; refine jjB ?_; refine jjJ rfl ?_; refine jjG ?_; refine jjB ?_; refine jjD ?_; refine jjB ?_; refine jjC ?_; apply jI; exact eI rfl; apply jJ; exact eI rfl; refine jz ?_; refine jjB ?_; refine jjC ?_; apply jI; exact eS rfl; apply jI; exact eI rfl)
  refine jjQ (choose_law6 ba bc by_ i hu (by omega) _) rfl rfl ?_
  rintro _ w9 hS9 ⟨x, rfl, hx0, hx1⟩
  (apply jI; exact eI rfl; refine jY rfl rfl (by omega) ?_)
  refine Ops.rem rfl rfl (by omega) (by omega) ?_
  have r1 := Int.emod_nonneg x (show (i : Int) + 1 ≠ 0 by omega)
  have r2 := Int.emod_lt_of_pos x (show 0 < (i : Int) + 1 by omega)
  generalize x % ((i : Int) + 1) = R at *
  obtain ⟨K, rfl⟩ : ∃ K : Nat, R = (K : Int) := ⟨R.toNat, by omega⟩
  have hK : K < L.length := by omega
  have hiL : i < L.length := by omega
  have hO9 := hOV.ext hS9.ext
  have gi : (L.map encSl)[i]? = some (encSl L[i]) := by rw [List.getElem?_map, List.getElem?_eq_getElem hiL]; rfl
  have gk : (L.map encSl)[K]? = some (encSl L[K]) := by rw [List.getElem?_map, List.getElem?_eq_getElem hK]; rfl
  (apply jJ; exact eI rfl; refine jz ?_; refine jjB ?_; refine jjC ?_; apply jI; exact eS rfl; apply jI; exact eI rfl)
  refine jH i rfl rfl rfl (by omega) ?_
  skip
  refine Ops.loadOA (off := 0) (place_k hO9.row gi) rfl rfl rfl rfl ?_
  skip
  (apply jjR rfl; (intro _; first|exact eI rfl|exact eB rfl|exact eP rfl|exact eS rfl|exact eT rfl|exact eA rfl|exact eU rfl|exact eF rfl|exact eM rfl|exact eN rfl|exact rfl); exact rfl; exact rfl; exact rfl; exact rfl; intro b11 w_b11 hb_b11 hs_b11 hS_b11 hk_b11; have hA_b11 := Bk.of hk_b11)
  have hO11 := hO9.ext hS_b11.ext
  have hE11 : Ext w w_b11 := hEV.trans (hS9.ext.trans hS_b11.ext)
  have hne : b11 ≠ g := by have := hS9.size; omega
  have hA11 : At w_b11 b11 0 (encSl L[i]).cells.toList := Bk.toAt (h := hA_b11)
  (refine jz ?_; refine jjB ?_; refine jjC ?_; apply jI; exact eS rfl; apply jI; exact eI rfl; apply jI; exact eS rfl; apply jI; exact eI rfl)
  refine jH K rfl rfl rfl (by omega) ?_
  skip
  refine Ops.loadOA (off := 0) (place_k hO11.row gk) rfl rfl rfl rfl ?_
  skip
  refine jH i rfl rfl rfl (by omega) ?_
  skip
  refine Ops.storeW (g := g) (j := i) (X' := encSl L[K]) hO11 rfl (by rw [List.length_map]; omega) rfl (show Value.pointer (some ⟨g, 0 + i * 6, none⟩) = Value.pointer (some ⟨g, i * 6, none⟩) from by rw [Nat.zero_add]) rfl rfl ?_
  intro w12 o12 hp12 hO12
  have hA12 : At w12 b11 0 (encSl L[i]).cells.toList := hp12.at_ hA11 hne
  (refine jz ?_; refine jjC ?_; apply jI; exact eS rfl; apply jI; exact eI rfl; refine jO rfl rfl rfl rfl ?_)
  refine jH K rfl rfl rfl (by omega) ?_
  skip
  refine Ops.storeW (g := g) (j := K) (X' := encSl L[i]) hO12 rfl (by rw [List.length_set, List.length_map]; omega) rfl (show Value.pointer (some ⟨g, 0 + K * 6, none⟩) = Value.pointer (some ⟨g, K * 6, none⟩) from by rw [Nat.zero_add]) rfl rfl ?_
  intro w13 o13 hp13 hO13
  rw [← List.map_set, ← List.map_set] at hO13
  (refine jz ?_; refine jjC ?_; refine jY rfl rfl (by omega) ?_; apply jI; exact eI rfl; refine jz ?_)
  exact ⟨rfl, by (((iterate 29 refine Same.upd rfl ?_); exact Same.ovN)), S.length - (i + 1), by omega, i + 1, _, congrArg (Value.int .i64) (by omega), rfl, by omega, (lset_perm hiL hK).trans hp, hp13.ext (hp12.ext hE11 hgV.1) hgV.1, hO13⟩
end

theorem cptGo_snoc {α : Type} {f : α → α → Int} : ∀ (r : List α) (p y : α), cptGo f p (r ++ [y]) = cptGo f p r ++ if f y (r.getLastD p) = 0 then [] else [y]
  | [], p, y => by
    show (if f y p = 0 then cptGo f y [] else y :: cptGo f y []) = [] ++ if f y p = 0 then [] else [y]
    rw [List.nil_append]
    rfl
  | z :: r, p, y => by
    have ih := cptGo_snoc (f := f) r z y
    rw [List.cons_append, List.getLastD_cons]
    show (if f z p = 0 then cptGo f z (r ++ [y]) else z :: cptGo f z (r ++ [y])) = (if f z p = 0 then cptGo f z r else z :: cptGo f z r) ++ _
    by_cases e : f z p = 0
    · rw [if_pos e, if_pos e, ih]
    · rw [if_neg e, if_neg e, ih, List.cons_append]
theorem cpt_step {α : Type} {f : α → α → Int} {l : List α} {i : Nat} (hi : i + 1 < l.length) : cptL f (l.take (i + 2)) = cptL f (l.take (i + 1)) ++ if f l[i + 1] l[i] = 0 then [] else [l[i + 1]] := by
  cases l with
  | nil => simp at hi
  | cons x r =>
    have hi' : i < r.length := by simpa using hi
    have e1 : (x :: r).take (i + 2) = x :: (r.take i ++ [r[i]]) := by
      rw [List.take_succ_cons, List.take_succ_eq_append_getElem hi']
    have e2 : (x :: r).take (i + 1) = x :: r.take i := List.take_succ_cons
    rw [e1, e2, cptL, cptL, cptGo_snoc, List.cons_append, List.getElem_cons_succ]
    have e3 : (r.take i).getLastD x = (x :: r)[i]'(by omega) := by
      cases i with
      | zero => rfl
      | succ i =>
        rw [List.getElem_cons_succ, List.take_succ_eq_append_getElem (by omega), List.getLastD_concat]
    rw [e3]
theorem cpt_all {α : Type} {f : α → α → Int} {l : List α} : ∀ {k : Nat}, 1 ≤ k → k ≤ l.length → (∀ t (h : t + 1 < l.length), t + 1 < k → f l[t + 1] l[t] ≠ 0) → cptL f (l.take k) = l.take k
  | 0, h, _, _ => absurd h (by omega)
  | 1, _, h1, _ => by
    cases l with
    | nil => simp at h1
    | cons x r => rfl
  | k + 2, _, h1, h => by
    have ih := cpt_all (f := f) (l := l) (k := k + 1) (by omega) (by omega) fun t h2 h3 => h t h2 (by omega)
    rw [cpt_step (by omega), ih, if_neg (h k (by omega) (by omega))]
    exact (List.take_succ_eq_append_getElem (by omega)).symm
section rules
variable {P : Program} {ro : Option Nat} {n : Nat} {all rest : List Oper} {K : Sl → World → Prop} {s : Sl} {w : World} {t e ty : Nat} {pos : String} {af : Array Edge} {x : Operand} {g o l c bytes k : Nat} {cs : List Value} {z : Value}
/-- Clear within a block that is known whole: what lies there then is told by its length alone. -/
theorem Ops.clearK (hB : Bk w g cs e) (hx : ev n s x = .slice (some ⟨g, o, none⟩) l c) (hl0 : 0 < l) (hfit : o + l * k ≤ cs.length) [ht : TSl P t e] [hz : TS P e z k bytes] (hzz : z.cells.size = k) (hk : Nat.blt 0 k = true) (h1 : z.cells.toList.all (·.oneCell') = true)
    (h : ∀ (w' : World) (Z : List Value), Z.length = l * k → (∀ v ∈ Z, v.oneCell' = true) → PutO w w' g (.cells (cs.take o ++ Z ++ cs.drop (o + l * k)).toArray e (0, 0)) → Ops P ro n all rest K s w') :
    Ops P ro n all (⟨none, .call { callee := .builtin .clear, args := #[x], argTypes := #[t] }, ty, pos, af, none⟩ :: rest) K s w := by
  obtain ⟨inf, hi1, hiz, his, _⟩ := hz.info
  have hzv : (zeroValue e).run P w = .ok z w := by simp [zeroValue, typeInfo, hi1, hiz]
  have hk0 : 0 < k := by simpa using hk
  obtain ⟨Z, hZ⟩ : ∃ Z, (Builtin.zeroCells z.cells l).toList = Z := ⟨_, rfl⟩
  have hZl : Z.length = l * k := by rw [← hZ]; simp [Builtin.zeroCells, hzz]
  have hZ1 : ∀ v ∈ Z, v.oneCell' = true := by
    intro v hv
    rw [← hZ] at hv
    simp only [Builtin.zeroCells, Array.toList_map, List.mem_map] at hv
    obtain ⟨i, _, rfl⟩ := hv
    have hi : i % z.cells.size < z.cells.size := Nat.mod_lt _ (by omega)
    rw [getElem!_pos z.cells _ hi]
    exact List.all_eq_true.1 h1 _ (by simp)
  have hst := run_storeCells_at P g o e Z 0 cs.toArray w hB.h (by simpa [hZl] using hfit) hZ1
  simp only [Nat.add_zero, hZl] at hst
  have hr : (Builtin.clear_ #[t] ty #[.slice (some ⟨g, o, none⟩) l c]).run P w = .ok (.tuple #[]) (w.setRow g (cs.take o ++ Z ++ cs.drop (o + l * k)).toArray) := by
    obtain ⟨m, rfl⟩ : ∃ m, l = m + 1 := ⟨l - 1, by omega⟩
    simp [Builtin.clear_, run_underlying ht.h, hzv, hZ, hst]
  exact Ops.step rfl (OpW.ofRun (v := .tuple #[]) (w' := w.setRow g (cs.take o ++ Z ++ cs.drop (o + l * k)).toArray) rfl (by simp [execOp, resolve, invoke, builtin, hx, hr]) (h _ Z hZl hZ1 (putO_setRow hB)))
end rules
end Go.Proofs.YtpijeomnplmakaaGreatDoor

/- rack: two slips that rank alike; slices.CompactFunc at slips. -/
namespace Go.Proofs.YtpijeomnplmakaaGreatDoor
open Go.RowKit Go.Sort

theorem same_slip (q : Nat) [he : Enters Tryz.prog q] (cf : Slp → Slp → Int) (hc : CmpQ q cf)
    (x y : Slp) (hx : GdS x) (hy : GdS y) (b : Nat) (w : World) [hmx : MxI w] [hA : At w b 0 [.func (.func q) #[] #[]]] : Ct Tryz.prog 67 [encSl x, encSl y, .pointer (some ⟨b, 0, none⟩)] w fun v _ => v = .bool (decide (cf x y = 0)) := by
  refine Ct.ofW (by simp) ?_
  (refine jjB ?_; refine jjC ?_)
  (refine jy rfl ?_; intro b3 w_b3 hb_b3 hs_b3 hS_b3 hk_b3; have hA_b3 := At.ofBlock hk_b3)
  (refine jy rfl ?_; intro b4 w_b4 hb_b4 hs_b4 hS_b4 hk_b4; have hA_b4 := At.ofBlock hk_b4)
  (apply jJ; exact eB rfl; refine jz ?_; refine jjB ?_; refine jjC ?_; refine jN rfl rfl rfl ?_; refine jO rfl rfl rfl rfl ?_; refine jO rfl rfl rfl rfl ?_)
  refine Ops.callR rfl (Enters.h (P := Tryz.prog) (g := q)) rfl (hc x y _ inferInstance hx hy) ?_
  rintro e w6 ⟨rfl, x6, -⟩
  refine ⟨_, rfl, ?_⟩
  have s6 := x6.toStep
  (refine jb rfl rfl ?_; apply jJ; exact eB rfl; refine jz ?_; refine jjF ?_; refine jB rfl rfl ⟨inferInstance, ?_⟩)
  exact rfl
end Go.Proofs.YtpijeomnplmakaaGreatDoor

/- slices.CompactFunc at slips: writes in the caller's slice. -/
namespace Go.Proofs.YtpijeomnplmakaaGreatDoor
open Go.RowKit Go.Sort

section
variable (q : Nat) [he : Enters Tryz.prog q] (cf : Slp → Slp → Int) (hc : CmpQ q cf)
include hc in
set_option maxHeartbeats 4000000 in
theorem Compact_slip (bk g n c : Nat) (l : List Slp) (hg : ∀ x ∈ l, GdS x) (w : World) (hA : At w bk 0 [.func (.func q) #[] #[]]) (hne : bk ≠ g) (hbk : bk < w.heap.size) {B : Nat} (hO : OwnL w B 49 true 6 (.slice (some ⟨g, 0, none⟩) n c) (l.map encSl)) (hn : n ≤ 1000000) (hmx : ∀ V, Only g w V → MxI V) :
    Calls Tryz.prog 66 [.slice (some ⟨g, 0, none⟩) n c, .func (.func 67) #[] #[.pointer (some ⟨bk, 0, none⟩)]].toArray w fun e w' => e = .returned (.slice (some ⟨g, 0, none⟩) (cptL cf l).length c) ∧ Only g w w' ∧ OwnL w' B 49 true 6 (.slice (some ⟨g, 0, none⟩) (cptL cf l).length c) ((cptL cf l).map encSl) := by
  have hln : l.length = n := by obtain ⟨cs, _, _, _, _, h, _⟩ := hO.cellsK; rw [List.length_map] at h; exact h
  subst hln
  refine Calls.ofW (by simp) ?_
  by_cases h2 : l.length < 2
  · have e : cptL cf l = l := by
      match l, h2 with
      | [], _ => rfl
      | [x], _ => rfl
      | x :: y :: r, h => simp at h; omega
    rw [e]
    (refine jjB ?_; refine jjC ?_; apply jJ; exact eS rfl; refine jz ?_; refine jjB ?_; refine jjB ?_; refine jjC ?_; apply jI; exact eS rfl; refine jh rfl ?_; refine jjZ rfl rfl (by omega) ?_; refine jz ?_; refine jjJ rfl ?_; refine jjB ?_; refine jjC ?_; apply jI; exact eS rfl; apply jJ; exact eS rfl; refine jz ?_; refine jjF ?_)
    exact jB rfl rfl ⟨rfl, .ofExt (Ext.refl w), hO⟩
  (refine jjB ?_; refine jjC ?_; apply jJ; exact eS rfl; refine jz ?_; refine jjB ?_; refine jjB ?_; refine jjC ?_; apply jI; exact eS rfl; refine jh rfl ?_; refine jja rfl rfl (by omega) ?_; refine jz ?_; refine jjK rfl ?_; refine jjG ?_; refine jjB ?_; refine jjB ?_; refine jjC ?_; apply jJ; exact eI rfl; refine jz ?_; refine jjD ?_)
  refine W.keep0 [(0, .slice (some ⟨g, 0, none⟩) l.length c), (1, .func (.func 67) #[] #[.pointer (some ⟨bk, 0, none⟩)]), (5, .int .i64 ((1 : Nat) : Int))] ⟨eS rfl, rfl, eI rfl, trivial⟩ fun s0 => ?_
  refine W.loopG (12 :: 13 :: 14 :: 15 :: 18 :: 19 :: 20 :: 21 :: 22 :: 23 :: 24 :: 25 :: 26 :: 27 :: 28 :: 29 :: 30 :: 31 :: 6 :: 7 :: 32 :: 33 :: 34 :: 35 :: 38 :: 39 :: 40 :: 41 :: 42 :: 43 :: 44 :: 45 :: 46 :: 47 :: 48 :: 49 :: 50 :: 51 :: 52 :: 53 :: 54 :: 55 :: 56 :: 57 :: 58 :: 5 :: 36 :: 37 :: 59 :: 60 :: 61 :: 62 :: 63 :: 64 :: 4 :: 16 :: 17 :: []) (fun g' s' V => ∃ k : Nat, s' 5 = .int .i64 (k : Int) ∧ g' = l.length - k ∧ 1 ≤ k ∧ k ≤ l.length ∧ (∀ t (h : t + 1 < l.length), t + 1 < k → cf l[t + 1] l[t] ≠ 0) ∧ Only g w V ∧ OwnL V B 49 true 6 (.slice (some ⟨g, 0, none⟩) l.length c) (l.map encSl)) (l.length - 1) ⟨1, rfl, by omega, by omega, by omega, fun t h h' => by omega, .ofExt (Ext.refl w), hO⟩ ?_
  rintro _ sd V ⟨k, h5, rfl, hk1, hk2, hdf, hOn, hOV⟩
  refine W.fix (d := 5) h5 ?_
  clear h5
  by_cases hk3 : k < l.length
  rotate_left
  · obtain rfl : k = l.length := by omega
    have e : cptL cf l = l := by
      have := cpt_all (f := cf) (l := l) (k := l.length) (by omega) (Nat.le_refl _) hdf
      rwa [List.take_length] at this
    rw [e]
    (refine jjB ?_; refine jjB ?_; refine jjC ?_; apply jI; exact eI rfl; apply jI; exact eS rfl; refine jh rfl ?_; refine jja rfl rfl (by omega) ?_; refine jz ?_; refine jjK rfl ?_; refine jjE ?_; refine jjB ?_; refine jjC ?_; apply jI; exact eS rfl; apply jJ; exact eS rfl; refine jz ?_; refine jjF ?_)
    exact jB rfl rfl ⟨rfl, hOn, hOV⟩
  obtain ⟨i, rfl⟩ : ∃ i, k = i + 1 := ⟨k - 1, by omega⟩
  have hi1 : i + 1 < l.length := by omega
  have hmV := hmx V hOn
  have hAb : At V bk 0 [.func (.func q) #[] #[]] := hOn.at_ hA hne
  have hR : RowV V true 6 (.slice (some ⟨g, 0, none⟩) l.length c) (l.map encSl) := hOV.row
  have hA1 : At V g (0 + (i + 1) * 6) (encSl l[i + 1]).cells.toList := place_k hR (by rw [List.getElem?_map, List.getElem?_eq_getElem hi1]; rfl)
  have hA0 : At V g (0 + i * 6) (encSl l[i]).cells.toList := place_k hR (by rw [List.getElem?_map, List.getElem?_eq_getElem (by omega)]; rfl)
  (refine jjB ?_; refine jjB ?_; refine jjC ?_; apply jI; exact eI rfl; apply jI; exact eS rfl; refine jh rfl ?_; refine jjZ rfl rfl (by omega) ?_; refine jz ?_; refine jjJ rfl ?_; refine jjG ?_; refine jjB ?_; refine jjD ?_; refine jjB ?_)
  refine W.draw (fun w' => Ext V w') ?_
  intro w5 hS5
  refine jjV [0, 1, 2] (by decide +kernel) hS5.ext ?_
  (((apply jjT; exact rfl; rintro w' hq; have := hq.toStep; apply jI; exact eF rfl; refine jz ?_; exact ⟨rfl, rfl⟩; apply jjT; exact rfl; rintro w' hq; have := hq.toStep; apply jI; exact eS rfl; refine jz ?_; exact ⟨rfl, rfl⟩; apply jjT; exact rfl; rintro w' hq; have := hq.toStep; apply jI; exact eI rfl; refine jz ?_; exact ⟨rfl, rfl⟩; refine jjU ?_)))
  refine jjV [3] (by decide +kernel) hS5.ext (jjT (v := .pointer (some ⟨g, 0 + (i + 1) * 6, none⟩)) rfl (fun w' q1 => ?_) (jjU ?_)); (refine jH (i + 1) rfl rfl rfl (by omega) ?_; refine jz ?_; exact ⟨rfl, rfl⟩)
  refine jjV [4] (by decide +kernel) hS5.ext (jjT (v := encSl l[i + 1]) rfl (fun w' q1 => ?_) (jjU ?_)); (refine Ops.loadOA (off := 0) (hA1.ext q1) rfl rfl rfl rfl ?_; refine jz ?_; exact ⟨rfl, rfl⟩)
  refine jjV [5, 6, 7] (by decide +kernel) hS5.ext ?_
  (((apply jjT; exact rfl; rintro w' hq; have := hq.toStep; apply jI; exact eS rfl; refine jz ?_; exact ⟨rfl, rfl⟩; apply jjT; exact rfl; rintro w' hq; have := hq.toStep; apply jI; exact eI rfl; refine jz ?_; exact ⟨rfl, rfl⟩; apply jjT; exact rfl; rintro w' hq; have := hq.toStep; refine jZ rfl rfl (by omega) ?_; refine jz ?_; exact ⟨rfl, rfl⟩; refine jjU ?_)))
  refine jjV [8] (by decide +kernel) hS5.ext (jjT (v := .pointer (some ⟨g, 0 + i * 6, none⟩)) rfl (fun w' q1 => ?_) (jjU ?_)); (refine jH i rfl rfl (by omega) (by omega) ?_; refine jz ?_; exact ⟨rfl, rfl⟩)
  refine jjV [9] (by decide +kernel) hS5.ext (jjT (v := encSl (l[i]'(by omega))) rfl (fun w' q1 => ?_) (jjU ?_)); (refine Ops.loadOA (off := 0) (hA0.ext q1) rfl rfl rfl rfl ?_; refine jz ?_; exact ⟨rfl, rfl⟩)
  (apply jjW 10; (decide +kernel); exact rfl; (exact inferInstance))
  refine jjQ (same_slip q cf hc l[i + 1] l[i] (hg _ (List.getElem_mem _)) (hg _ (List.getElem_mem _)) bk _) rfl rfl ?_
  rintro _ w6 hS6 rfl
  refine jz ?_
  refine jjX (by decide +kernel) inferInstance ?_
  have hO6 := (hOV.ext hS5.ext).ext hS6.ext
  have hOn6 : Only g w w6 := hOn.trans (.ofExt inferInstance)
  by_cases hz : cf l[i + 1] l[i] = 0
  rotate_left
  · rw [decide_eq_false hz]
    (refine jjK rfl ?_; refine jjG ?_; refine jjC ?_; apply jI; exact eI rfl; refine jY rfl rfl (by omega) ?_; apply jJ; exact eI rfl; refine jz ?_)
    refine ⟨rfl, by (((iterate 19 refine Same.upd rfl ?_); exact Same.ovN)), l.length - (i + 2), by omega, i + 2, congrArg (Value.int .i64) (by omega), rfl, by omega, by omega, fun t h h' => ?_, hOn6, hO6⟩
    rcases Nat.lt_or_ge t i with c1 | c1
    · exact hdf t h (by omega)
    · obtain rfl : t = i := by omega
      exact hz
  rw [decide_eq_true hz]
  obtain ⟨hlc, hcm⟩ : l.length ≤ c ∧ c ≤ maxLen := by obtain ⟨cs, _, _, h1, h2, _⟩ := hOV.cellsK; exact ⟨h1, h2⟩
  have hcut : cutV (some ⟨g, 0, none⟩) c 6 (i + 1) l.length = .slice (some ⟨g, 0 + (i + 1) * 6, none⟩) (l.length - (i + 1)) (c - (i + 1)) := by
    show Value.slice (if c = i + 1 then _ else _) _ _ = _
    rw [if_neg (by omega)]; rfl
  (refine jjJ rfl ?_; refine jjB ?_; refine jjC ?_; apply jI; exact eS rfl; apply jI; exact eI rfl)
  refine Ops.sliceXLv (k := 6) (lo := i + 1) rfl rfl rfl (by omega) ?_
  rw [hcut]
  (apply jJ; exact eS rfl; refine jz ?_; refine jjB ?_; refine jjB ?_; refine jjC ?_; apply jJ; exact eI rfl; refine jz ?_; refine jjD ?_)
  have hP0 : cptL cf (l.take (i + 2)) = l.take (i + 1) := by
    rw [cpt_step hi1, if_pos hz, List.append_nil]
    exact cpt_all (by omega) (by omega) hdf
  refine W.keep [(0, .slice (some ⟨g, 0, none⟩) l.length c), (1, .func (.func 67) #[] #[.pointer (some ⟨bk, 0, none⟩)]), (5, .int .i64 ((i + 1 : Nat) : Int)), (6, .slice (some ⟨g, 0 + (i + 1) * 6, none⟩) (l.length - (i + 1)) (c - (i + 1))), (7, .int .i64 ((1 : Nat) : Int))] (D := (12 :: 13 :: 14 :: 15 :: 18 :: 19 :: 20 :: 21 :: 22 :: 23 :: 24 :: 25 :: 26 :: 27 :: 28 :: 29 :: 30 :: 31 :: 6 :: 7 :: 32 :: 33 :: 34 :: 35 :: 38 :: 39 :: 40 :: 41 :: 42 :: 43 :: 44 :: 45 :: 46 :: 47 :: 48 :: 49 :: 50 :: 51 :: 52 :: 53 :: 54 :: 55 :: 56 :: 57 :: 58 :: 5 :: 36 :: 37 :: 59 :: 60 :: 61 :: 62 :: 63 :: 64 :: 4 :: 16 :: 17 :: [])) (sO := upds s0 _) (by (((iterate 21 refine Same.upd rfl ?_); exact Same.ovN))) ⟨eS rfl, rfl, eI rfl, eS rfl, eI rfl, trivial⟩ fun s1 hs1' => ?_
  refine W.loopG (32 :: 33 :: 34 :: 35 :: 38 :: 39 :: 40 :: 41 :: 42 :: 43 :: 44 :: 45 :: 46 :: 47 :: 48 :: 49 :: 50 :: 51 :: 52 :: 53 :: 54 :: 55 :: 56 :: 57 :: 58 :: 5 :: 36 :: 37 :: 7 :: []) (fun g' s' V => ∃ (k2 kk : Nat) (P : List Slp), s' 7 = .int .i64 (k2 : Int) ∧ s' 5 = .int .i64 (kk : Int) ∧ g' = l.length - (i + 1) - k2 ∧ 1 ≤ k2 ∧ i + 1 + k2 ≤ l.length ∧ P = cptL cf (l.take (i + k2 + 1)) ∧ P.length = kk ∧ kk ≤ i + k2 ∧ 1 ≤ kk ∧ Only g w V ∧ OwnL V B 49 true 6 (.slice (some ⟨g, 0, none⟩) l.length c) ((P ++ l.drop kk).map encSl)) (l.length - (i + 1) - 1) ⟨1, i + 1, l.take (i + 1), rfl, rfl, rfl, by omega, by omega, hP0.symm, by rw [List.length_take]; omega, by omega, by omega, hOn6, by rw [List.take_append_drop]; exact hO6⟩ ?_
  rintro _ sd2 V2 ⟨k2, kk, P, h7, h5, rfl, hk21, hk22, hP, hPl, hkk, hkk1, hOn2, hO2⟩
  refine W.fix (d := 7) h7 (W.fix (d := 5) h5 ?_)
  clear h7 h5
  by_cases hk23 : k2 < l.length - (i + 1)
  rotate_left
  · have hPe : P = cptL cf l := by rw [hP, List.take_of_length_le (by omega)]
    subst hPe
    subst hPl
    obtain ⟨cs, hB, hcl, _, _, _, htk, hBg⟩ := hO2.cellsK
    have hkc : (cptL cf l).length * 6 ≤ cs.length := by rw [hcl]; omega
    have hcutk : cutV (some ⟨g, 0, none⟩) c 6 (cptL cf l).length l.length = .slice (some ⟨g, 0 + (cptL cf l).length * 6, none⟩) (l.length - (cptL cf l).length) (c - (cptL cf l).length) := by
      show Value.slice (if c = (cptL cf l).length then _ else _) _ _ = _
      rw [if_neg (by omega)]
      simp [Addr.add]
      omega
    have hflat : cs.take ((cptL cf l).length * 6) = ((cptL cf l).map encSl).flatMap (·.cells.toList) := by
      have h1 : cs.take ((cptL cf l).length * 6) = (cs.take (l.length * 6)).take ((cptL cf l).length * 6) := by rw [List.take_take, Nat.min_eq_left (by omega)]
      have hl := flat_len (k := 6) (xs := (cptL cf l).map encSl) fun x hx => by obtain ⟨y, _, rfl⟩ := List.mem_map.1 hx; rfl
      rw [List.length_map] at hl
      rw [h1, htk, List.map_append, List.flatMap_append, List.take_append_of_le_length (by omega), List.take_of_length_le (by omega)]
    (refine jjB ?_; refine jjB ?_; refine jjC ?_; apply jI; exact eI rfl; apply jI; exact eS rfl; refine jh rfl ?_; refine jja rfl rfl (by omega) ?_; refine jz ?_; refine jjK rfl ?_; refine jjE ?_; refine jjB ?_; refine jjC ?_; apply jI; exact eS rfl; apply jI; exact eI rfl)
    refine Ops.sliceXLv (k := 6) (lo := (cptL cf l).length) rfl rfl rfl (by omega) ?_
    rw [hcutk]
    skip
    refine Ops.clearK (k := 6) hB rfl (by omega) (by rw [hcl]; omega) rfl rfl rfl ?_
    intro w9 Z hZ hZ1 hp9
    have hOn9 : Only g w w9 := hOn2.trans (.ofPut hp9)
    have hO9 : OwnL w9 B 49 true 6 (.slice (some ⟨g, 0, none⟩) (cptL cf l).length c) ((cptL cf l).map encSl) := by
      refine OwnL.ofCellsK (cs := cs.take (0 + (cptL cf l).length * 6) ++ Z ++ cs.drop (0 + (cptL cf l).length * 6 + (l.length - (cptL cf l).length) * 6)) ⟨hp9.new⟩ ?_ (by omega) hcm (by rw [List.length_map]) ?_ (by omega) hBg fun x hx => by obtain ⟨y, _, rfl⟩ := List.mem_map.1 hx; rfl
      · rw [List.length_append, List.length_append, List.length_take, List.length_drop, hZ, hcl]; omega
      · rw [List.append_assoc, List.take_append_of_le_length (by rw [List.length_take]; omega), List.take_take, Nat.zero_add, Nat.min_self]
        exact hflat
    (refine jz ?_; refine jjB ?_; refine jjC ?_; apply jI; exact eS rfl; apply jI; exact eI rfl)
    refine Ops.sliceXHv (k := 6) (hi := (cptL cf l).length) rfl rfl rfl (by omega) (by omega) ?_
    (apply jJ; exact eS rfl; refine jz ?_; refine jjF ?_)
    exact jB rfl rfl ⟨rfl, hOn9, hO9⟩
  obtain ⟨m, hm⟩ : ∃ m, i + k2 = m := ⟨_, rfl⟩
  have hm1 : m + 1 < l.length := by omega
  have hXl : (P ++ l.drop kk).length = l.length := by rw [List.length_append, List.length_drop]; omega
  have hX : ∀ t (h : t < l.length), kk ≤ t → ((P ++ l.drop kk).map encSl)[t]? = some (encSl l[t]) := fun t h h' => by
    rw [List.getElem?_map, List.getElem?_append_right (by omega), List.getElem?_drop, show kk + (t - P.length) = t by omega, List.getElem?_eq_getElem h]; rfl
  have hmV2 := hmx V2 hOn2
  have hAb2 : At V2 bk 0 [.func (.func q) #[] #[]] := hOn2.at_ hA hne
  have hA1' : At V2 g (0 + (i + 1) * 6 + k2 * 6) (encSl l[m + 1]).cells.toList := by
    have := place_k hO2.row (hX (m + 1) hm1 (by omega))
    rwa [show 0 + (m + 1) * 6 = 0 + (i + 1) * 6 + k2 * 6 by omega] at this
  have hA0' : At V2 g (0 + (i + 1) * 6 + (k2 - 1) * 6) (encSl l[m]).cells.toList := by
    have := place_k hO2.row (hX m (by omega) (by omega))
    rwa [show 0 + m * 6 = 0 + (i + 1) * 6 + (k2 - 1) * 6 by omega] at this
  have hst := cpt_step (f := cf) hm1
  (refine jjB ?_; refine jjB ?_; refine jjC ?_; apply jI; exact eI rfl; apply jI; exact eS rfl; refine jh rfl ?_; refine jjZ rfl rfl (by omega) ?_; refine jz ?_; refine jjJ rfl ?_; refine jjG ?_; refine jjB ?_; refine jjD ?_; refine jjB ?_)
  refine W.draw (fun w' => Ext V2 w') ?_
  intro w7 hS7
  refine jjV [0, 1, 2] (by decide +kernel) hS7.ext ?_
  (((apply jjT; exact rfl; rintro w' hq; have := hq.toStep; apply jI; exact eF rfl; refine jz ?_; exact ⟨rfl, rfl⟩; apply jjT; exact rfl; rintro w' hq; have := hq.toStep; apply jI; exact eS rfl; refine jz ?_; exact ⟨rfl, rfl⟩; apply jjT; exact rfl; rintro w' hq; have := hq.toStep; apply jI; exact eI rfl; refine jz ?_; exact ⟨rfl, rfl⟩; refine jjU ?_)))
  refine jjV [3] (by decide +kernel) hS7.ext (jjT (v := .pointer (some ⟨g, 0 + (i + 1) * 6 + k2 * 6, none⟩)) rfl (fun w' q1 => ?_) (jjU ?_)); (refine jH k2 rfl rfl rfl (by omega) ?_; refine jz ?_; exact ⟨rfl, rfl⟩)
  refine jjV [4] (by decide +kernel) hS7.ext (jjT (v := encSl l[m + 1]) rfl (fun w' q1 => ?_) (jjU ?_)); (refine Ops.loadOA (off := 0) (hA1'.ext q1) rfl rfl rfl rfl ?_; refine jz ?_; exact ⟨rfl, rfl⟩)
  refine jjV [5, 6, 7] (by decide +kernel) hS7.ext ?_
  (((apply jjT; exact rfl; rintro w' hq; have := hq.toStep; apply jI; exact eS rfl; refine jz ?_; exact ⟨rfl, rfl⟩; apply jjT; exact rfl; rintro w' hq; have := hq.toStep; apply jI; exact eI rfl; refine jz ?_; exact ⟨rfl, rfl⟩; apply jjT; exact rfl; rintro w' hq; have := hq.toStep; refine jZ rfl rfl (by omega) ?_; refine jz ?_; exact ⟨rfl, rfl⟩; refine jjU ?_)))
  refine jjV [8] (by decide +kernel) hS7.ext (jjT (v := .pointer (some ⟨g, 0 + (i + 1) * 6 + (k2 - 1) * 6, none⟩)) rfl (fun w' q1 => ?_) (jjU ?_)); (refine jH (k2 - 1) rfl rfl (by omega) (by omega) ?_; refine jz ?_; exact ⟨rfl, rfl⟩)
  refine jjV [9] (by decide +kernel) hS7.ext (jjT (v := encSl (l[m]'(by omega))) rfl (fun w' q1 => ?_) (jjU ?_)); (refine Ops.loadOA (off := 0) (hA0'.ext q1) rfl rfl rfl rfl ?_; refine jz ?_; exact ⟨rfl, rfl⟩)
  (apply jjW 10; (decide +kernel); exact rfl; (exact inferInstance))
  refine jjQ (same_slip q cf hc l[m + 1] l[m] (hg _ (List.getElem_mem _)) (hg _ (List.getElem_mem _)) bk _) rfl rfl ?_
  rintro _ w8 hS8 rfl
  refine jz ?_
  have hO8 := (hO2.ext hS7.ext).ext hS8.ext
  have hOn8 : Only g w w8 := hOn2.trans (.ofExt inferInstance)
  by_cases hz2 : cf l[m + 1] l[m] = 0
  · rw [if_pos hz2, List.append_nil] at hst
    rw [decide_eq_true hz2]
    refine jjV [11] (by decide +kernel) inferInstance ?_
    (((apply jjT; exact rfl; rintro w' hq; have := hq.toStep; refine jp rfl ?_; refine jz ?_; exact ⟨rfl, rfl⟩; refine jjU ?_)))
    refine jjX (by decide +kernel) inferInstance ?_
    (refine jjK rfl ?_; refine jjG ?_; refine jjC ?_; apply jI; exact eI rfl; refine jY rfl rfl (by omega) ?_; apply jJ; exact eI rfl; refine jz ?_)
    exact ⟨rfl, by (((iterate 21 refine Same.upd rfl ?_); exact Same.ovN)), l.length - (i + 1) - (k2 + 1), by omega, k2 + 1, kk, P, congrArg (Value.int .i64) (by omega), rfl, rfl, by omega, by omega, by rw [hP, show i + (k2 + 1) + 1 = m + 2 by omega, hst, hm], hPl, by omega, hkk1, hOn8, hO8⟩
  rw [if_neg hz2] at hst
  rw [decide_eq_false hz2]
  refine jjV [11] (by decide +kernel) inferInstance ?_
  (((apply jjT; exact rfl; rintro w' hq; have := hq.toStep; refine jq rfl ?_; refine jz ?_; exact ⟨rfl, rfl⟩; refine jjU ?_)))
  refine jjX (by decide +kernel) inferInstance ?_
  (refine jjJ rfl ?_; refine jjB ?_; refine jjC ?_; apply jI; exact eS rfl; apply jI; exact eI rfl; apply jI; exact eS rfl; apply jI; exact eI rfl)
  refine jH k2 rfl rfl rfl (by omega) ?_
  refine Ops.loadOA (off := 0) ((hA1'.ext hS7.ext).ext hS8.ext) rfl rfl rfl rfl ?_
  refine jH kk rfl rfl rfl (by omega) ?_
  refine Ops.storeW (g := g) (j := kk) (X' := encSl l[m + 1]) hO8 rfl (by rw [List.length_map]; omega) rfl (show Value.pointer (some ⟨g, 0 + kk * 6, none⟩) = Value.pointer (some ⟨g, kk * 6, none⟩) from by rw [Nat.zero_add]) rfl rfl ?_
  intro w9 o9 hp9 hO9
  have hset : (P ++ l.drop kk).set kk l[m + 1] = (P ++ [l[m + 1]]) ++ l.drop (kk + 1) := by
    rw [List.drop_eq_getElem_cons (show kk < l.length by omega), List.set_append, if_neg (by omega), hPl, Nat.sub_self, List.set_cons_zero, List.append_assoc]
    rfl
  rw [← List.map_set, hset] at hO9
  have hOn9 : Only g w w9 := hOn8.trans (.ofPut hp9)
  (refine jz ?_; refine jjC ?_; apply jI; exact eI rfl; refine jY rfl rfl (by omega) ?_; apply jJ; exact eI rfl; refine jz ?_; refine jjC ?_; apply jI; exact eI rfl; refine jY rfl rfl (by omega) ?_; apply jJ; exact eI rfl; refine jz ?_)
  exact ⟨rfl, by (((iterate 31 refine Same.upd rfl ?_); exact Same.ovN)), l.length - (i + 1) - (k2 + 1), by omega, k2 + 1, kk + 1, P ++ [l[m + 1]], congrArg (Value.int .i64) (by omega), congrArg (Value.int .i64) (by omega), rfl, by omega, by omega, by rw [hP, show i + (k2 + 1) + 1 = m + 2 by omega, hst, hm], by rw [List.length_append, hPl]; rfl, by omega, by omega, hOn9, hO9⟩
end
end Go.Proofs.YtpijeomnplmakaaGreatDoor

/- slices.SortFunc of slips: the contract of the library's shelf at this program. -/
namespace Go.Proofs.YtpijeomnplmakaaGreatDoor
open Go.Shelf Go.RowKit Go.Lib Go.Sort
def sh_laysSlF06_f65_ren : Go.Shelf.Ren := ⟨fun | 6 => 65 | 15 => 99 | 14 => 98 | 28 => 136 | 29 => 137 | 20 => 128 | 21 => 129 | 22 => 130 | 23 => 131 | 24 => 132 | 25 => 133 | 26 => 134 | 27 => 135 | 46 => 155 | 47 => 156 | 48 => 157 | 49 => 158 | 50 => 159 | 57 => 170 | n => n, fun | 22 => 44 | 24 => 49 | 25 => 114 | 3 => 3 | 39 => 158 | 0 => 0 | 53 => 129 | 55 => 192 | 4 => 4 | 46 => 185 | 45 => 184 | 50 => 71 | 5 => 5 | 9 => 9 | 66 => 205 | 70 => 209 | 76 => 225 | 77 => 102 | n => n, fun | n => n⟩

theorem sh_laysSlF06_f65 : Go.Proofs.SlLaysF0.n6 Tryz.prog sh_laysSlF06_f65_ren := {
  mixed := by kernel_rfl
  f6 := ⟨Tryz.f65.name, by decide, Tryz.func65.trans (congrArg some (by kernel_rfl))⟩
  f14 := ⟨Tryz.f98.name, by decide, Tryz.func98.trans (congrArg some (by kernel_rfl))⟩
  f15 := Tryz.func99.trans (congrArg some (by kernel_rfl))
  f20 := ⟨Tryz.f128.name, by decide, Tryz.func128.trans (congrArg some (by kernel_rfl))⟩
  f21 := ⟨Tryz.f129.name, by decide, Tryz.func129.trans (congrArg some (by kernel_rfl))⟩
  f22 := ⟨Tryz.f130.name, by decide, Tryz.func130.trans (congrArg some (by kernel_rfl))⟩
  f23 := ⟨Tryz.f131.name, by decide, Tryz.func131.trans (congrArg some (by kernel_rfl))⟩
  f24 := ⟨Tryz.f132.name, by decide, Tryz.func132.trans (congrArg some (by kernel_rfl))⟩
  f25 := ⟨Tryz.f133.name, by decide, Tryz.func133.trans (congrArg some (by kernel_rfl))⟩
  f26 := ⟨Tryz.f134.name, by decide, Tryz.func134.trans (congrArg some (by kernel_rfl))⟩
  f27 := ⟨Tryz.f135.name, by decide, Tryz.func135.trans (congrArg some (by kernel_rfl))⟩
  f28 := Tryz.func136.trans (congrArg some (by kernel_rfl))
  f29 := Tryz.func137.trans (congrArg some (by kernel_rfl))
  f46 := ⟨Tryz.f155.name, by decide, Tryz.func155.trans (congrArg some (by kernel_rfl))⟩
  f47 := Tryz.func156.trans (congrArg some (by kernel_rfl))
  f48 := Tryz.func157.trans (congrArg some (by kernel_rfl))
  f49 := ⟨Tryz.f158.name, by decide, Tryz.func158.trans (congrArg some (by kernel_rfl))⟩
  f50 := ⟨Tryz.f159.name, by decide, Tryz.func159.trans (congrArg some (by kernel_rfl))⟩
  f57 := ⟨Tryz.f170.name, by decide, Tryz.func170.trans (congrArg some (by kernel_rfl))⟩
  t0 := Tryz.underlying0
  a0 := Tryz.isAgg0
  z0 := Tryz.sizeOf0
  v0 := Tryz.zeroValue0
  t3 := Tryz.underlying3
  a3 := Tryz.isAgg3
  z3 := Tryz.sizeOf3
  v3 := Tryz.zeroValue3
  t4 := Tryz.underlying4
  a4 := Tryz.isAgg4
  z4 := Tryz.sizeOf4
  v4 := Tryz.zeroValue4
  t5 := Tryz.underlying5
  a5 := Tryz.isAgg5
  z5 := Tryz.sizeOf5
  v5 := Tryz.zeroValue5
  t9 := Tryz.underlying9
  a9 := Tryz.isAgg9
  z9 := Tryz.sizeOf9
  v9 := Tryz.zeroValue9
  t22 := Tryz.underlying44
  a22 := Tryz.isAgg44
  z22 := Tryz.sizeOf44
  v22 := Tryz.zeroValue44
  t25 := Tryz.underlying114
  a25 := Tryz.isAgg114
  z25 := Tryz.sizeOf114
  v25 := Tryz.zeroValue114
  t39 := Tryz.underlying158
  a39 := Tryz.isAgg158
  z39 := Tryz.sizeOf158
  v39 := Tryz.zeroValue158
  t45 := Tryz.underlying184
  a45 := Tryz.isAgg184
  z45 := Tryz.sizeOf184
  v45 := Tryz.zeroValue184
  t46 := Tryz.underlying185
  a46 := Tryz.isAgg185
  z46 := Tryz.sizeOf185
  v46 := Tryz.zeroValue185
  t50 := Tryz.underlying71
  a50 := Tryz.isAgg71
  z50 := Tryz.sizeOf71
  v50 := Tryz.zeroValue71
  t53 := Tryz.underlying129
  a53 := Tryz.isAgg129
  z53 := Tryz.sizeOf129
  v53 := Tryz.zeroValue129
  t55 := Tryz.underlying192
  a55 := Tryz.isAgg192
  z55 := Tryz.sizeOf192
  v55 := Tryz.zeroValue192
  t66 := Tryz.underlying205
  a66 := Tryz.isAgg205
  z66 := Tryz.sizeOf205
  v66 := Tryz.zeroValue205
  t70 := Tryz.underlying209
  a70 := Tryz.isAgg209
  z70 := Tryz.sizeOf209
  v70 := Tryz.zeroValue209
  t76 := Tryz.underlying225
  a76 := Tryz.isAgg225
  z76 := Tryz.sizeOf225
  v76 := Tryz.zeroValue225
  t77 := Tryz.underlying102
  a77 := Tryz.isAgg102
  z77 := Tryz.sizeOf102
  v77 := Tryz.zeroValue102 }

theorem sh_slices_SortFunc {α : Type} [Inhabited α] (k : Nat) (aE : ∀ w, (isAgg 49).run Tryz.prog w = .ok true w) (zE : ∀ w, (Go.sizeOf 49).run Tryz.prog w = .ok k w) (enc : α → List Value) (hk : ∀ x, (enc x).length = k) (h1 : ∀ x, ∀ v ∈ enc x, v.oneCell' = true) (cf : α → α → Int) (hO : SWO (ltOf cf)) (g : Nat) (cb : Array Value) (blk off cap : Nat) (d : Array α) (w : World) (eg : ∀ args w, (callFunc g args).run Tryz.prog w = .ok (.enter g args) w) (hcmp : CmpLays Tryz.prog g cb enc k cf blk off d.size w) (hH : HoldsK enc k w blk off d) (hblk : blk < w.heap.size) (hsz : d.size < 4611686018427387904) :
    Calls Tryz.prog 65 #[.slice (some ⟨blk, off, none⟩) d.size cap, .func (.func g) #[] cb] w fun e w' =>
      e = .returned (.tuple #[]) ∧ ∃ d' n os, PermIn 0 d.size d d' ∧ SortedIn (ltOf cf) 0 d.size d' ∧ w' = sortWorldK enc k w blk off n d' os := AnyQ.slices_SortFunc sh_laysSlF06_f65 k aE zE enc hk h1 cf hO g cb blk off cap d w eg hcmp hH hblk hsz

theorem flat_getK {k : Nat} (hk : 0 < k) : ∀ {xs : List Value}, (∀ x ∈ xs, x.cells.size = k) → ∀ t, t < xs.length * k → (xs.flatMap (·.cells.toList))[t]? = (xs[t / k]?).bind fun x => x.cells.toList[t % k]?
  | [], _, t, h => by simp at h
  | y :: xs, hx, t, h => by
    have hy : y.cells.toList.length = k := by simpa using hx y List.mem_cons_self
    rw [List.flatMap_cons]
    rcases Nat.lt_or_ge t k with c | c
    · rw [List.getElem?_append_left (by omega), Nat.div_eq_of_lt c, Nat.mod_eq_of_lt c]
      rfl
    · rw [List.getElem?_append_right (by omega), hy]
      have e1 : t / k = (t - k) / k + 1 := by rw [Nat.div_eq_sub_div hk c]
      have e2 : t % k = (t - k) % k := Nat.mod_eq_sub_mod c
      rw [e1, e2, List.getElem?_cons_succ]
      refine flat_getK hk (fun z hz => hx z (List.mem_cons_of_mem _ hz)) (t - k) ?_
      rw [List.length_cons, Nat.add_mul] at h
      omega
def slC (x : Slp) : List Value := (encSl x).cells.toList
theorem swo_pre {α : Type} {f : α → α → Int} (hf : Pre3 f) : SWO (ltOf f) where
  irrefl x := by rw [ltOf, hf.refl]; rfl
  trans x y z h1 h2 := by
    simp only [ltOf, decide_eq_true_eq] at h1 h2 ⊢
    have r1 := hf.r x y
    have r2 := hf.r y z
    have := hf.tr x y z (by omega) (by omega)
    omega
  ntrans x y z h1 h2 := by
    simp only [ltOf, decide_eq_false_iff_not] at h1 h2 ⊢
    intro h3
    have r1 := hf.r x y
    have r3 := hf.r x z
    have a1 := hf.anti x y
    by_cases e : f x y = 0
    · have := hf.eql x y z e; omega
    · have := hf.tr y x z (by omega) (by omega); omega
theorem Only.sortedK {α : Type} [Inhabited α] {enc : α → List Value} {k : Nat} {w : World} {g m : Nat} {d : Array α} {os : Array Obj} : Only g w (sortWorldK enc k w g 0 m d os) := by
  refine ⟨rfl, rfl, rfl, by simp [sortWorldK, grow, putRowK, putRow, mapBlock, Go.Sort.ahead], fun q hq hn => ?_⟩
  have h1 : q < (putRowK enc k (Go.Sort.ahead w m) g 0 d).heap.size := by simpa [putRowK, putRow, mapBlock, Go.Sort.ahead] using hq
  rw [sortWorldK, heap_grow_old _ _ h1]
  simp only [putRowK, putRow, mapBlock, Go.Sort.ahead, Array.getElem?_modify]
  rw [if_neg (fun e => hn e.symm)]
theorem grown_ext {w w' : World} (h : Ext w w') (hd : w.drawn ≤ w'.drawn) : ∃ (q : Nat) (os : Array Obj), w' = grow (w.drewN q) os := by
  refine ⟨w'.drawn - w.drawn, w'.heap.extract w.heap.size w'.heap.size, ?_⟩
  obtain ⟨h1, h2, h3, h4, h5⟩ := h.b
  have hh : w'.heap = w.heap ++ w'.heap.extract w.heap.size w'.heap.size := by
    apply Array.ext_getElem?
    intro i
    rw [Array.getElem?_append]
    split
    · rename_i hi; exact h5 i hi
    · rename_i hi
      rw [Array.getElem?_extract]
      by_cases hj : i < w'.heap.size
      · rw [if_pos (by omega), show w.heap.size + (i - w.heap.size) = i by omega]
      · rw [if_neg (by omega), Array.getElem?_eq_none (by omega)]
  have hd : w'.drawn = w.drawn + (w'.drawn - w.drawn) := by omega
  clear h4 h5 h
  cases w
  cases w'
  simp only [grow, World.drewN] at *
  subst h1 h2 h3
  rw [← hh, ← hd]
def GSl : Type := {x : Slp // GdS x}
def aSl : Slp := (((0 : Int), (0 : Int), (0 : Int)), ⟨#[97]⟩, ⟨#[]⟩, ⟨#[]⟩)
theorem gd_a : GdS aSl := ⟨by decide +kernel, by unfold SmallS; decide +kernel⟩
instance : Inhabited GSl := ⟨⟨aSl, gd_a⟩⟩
theorem sub_gsl : ∀ {l : List Slp}, (∀ x ∈ l, GdS x) → ∃ m : List GSl, l = m.map fun x => x.1
  | [], _ => ⟨[], rfl⟩
  | x :: l, h => by
    obtain ⟨m, rfl⟩ := sub_gsl (l := l) fun y hy => h y (List.mem_cons_of_mem _ hy)
    exact ⟨⟨x, h x List.mem_cons_self⟩ :: m, rfl⟩
def slG (x : GSl) : List Value := slC x.1
theorem flatG_get (l : List GSl) (t : Nat) (h : t < l.length * 6) : ((l.map fun x => encSl x.1).flatMap (·.cells.toList))[t]? = some ((flatK slG 6 l.toArray)[t]!) := by
  rw [flat_getK (k := 6) (by omega) (fun x hx => by obtain ⟨y, _, rfl⟩ := List.mem_map.1 hx; rfl) t (by rw [List.length_map]; exact h)]
  have h1 : t / 6 < l.length := by omega
  have h2 : t % 6 < 6 := Nat.mod_lt _ (by omega)
  rw [get_flatK slG 6 l.toArray t (by simpa using h), List.getElem?_map, List.getElem?_eq_getElem h1]
  have e : l.toArray[t / 6]! = l[t / 6] := by rw [getElem!_pos _ _ (by simpa using h1)]; rfl
  rw [e]
  show (slG l[t / 6])[t % 6]? = some ((slG l[t / 6])[t % 6]!)
  have h3 : (slG l[t / 6]).length = 6 := rfl
  rw [List.getElem?_eq_getElem (by omega), getElem!_pos _ _ (by omega)]
set_option maxHeartbeats 1000000 in
theorem SortFunc_slip (q : Nat) [he : Enters Tryz.prog q] (cf : Slp → Slp → Int) (hf : Pre3 cf) (hc : CmpQ q cf)
    (g n c : Nat) (l0 : List Slp) (hg : ∀ x ∈ l0, GdS x) (w : World) {B : Nat} (hO : OwnL w B 49 true 6 (.slice (some ⟨g, 0, none⟩) n c) (l0.map encSl)) (hn : n ≤ 1000000) (hmx : ∀ V, Only g w V → MxI V) :
    Calls Tryz.prog 65 [.slice (some ⟨g, 0, none⟩) n c, .func (.func q) #[] #[]].toArray w fun e w' => (∃ v, e = .returned v) ∧ Only g w w' ∧ ∃ r : List Slp, r.Perm l0 ∧ r.Pairwise (fun a b => cf b a ≠ -1) ∧ OwnL w' g 49 true 6 (.slice (some ⟨g, 0, none⟩) n c) (r.map encSl) := by
  obtain ⟨l, hl⟩ := sub_gsl hg
  subst hl
  have emp : ∀ l : List GSl, (l.map fun x => x.1).map encSl = l.map fun x => encSl x.1 := fun l => by rw [List.map_map]; rfl
  rw [emp] at hO
  have hf' : Pre3 fun x y : GSl => cf x.1 y.1 := ⟨fun _ _ => hf.r _ _, fun _ _ => hf.anti _ _, fun _ _ _ => hf.tr _ _ _, fun _ _ _ => hf.eql _ _ _⟩
  obtain ⟨cs, hB, hcl, hnc, hcm, hln, htk, hBg⟩ := hO.cellsK
  rw [List.length_map] at hln
  have hsz : l.toArray.size = n := by simpa using hln
  have hH : HoldsK slG 6 w g 0 l.toArray := fun j hj => by
    rw [size_flatK, hsz] at hj
    have h1 := flatG_get l j (by rw [hln]; exact hj)
    rw [← htk, List.getElem?_take, if_pos hj] at h1
    rw [Nat.zero_add]
    constructor
    · simp only [World.cell?, hB.h]
      simpa using h1
    · simp [World.frozen?, hB.h]
  have hcc := sh_slices_SortFunc (k := 6) (fun w => by kernel_rfl) (fun w => by kernel_rfl) slG (fun _ => rfl) (fun x v hv => List.all_eq_true.1 (show (slG x).all (·.oneCell') = true from rfl) v hv) (fun x y : GSl => cf x.1 y.1) (swo_pre hf') q #[] g 0 c l.toArray w (Enters.h (P := Tryz.prog) (g := q)) (fun m os dk _ x y => by
    refine Calls.mono (hc x.1 y.1 _ (hmx _ Only.sortedK) x.2 y.2) fun e w' ⟨h1, h2, h3⟩ => ⟨h1, ?_⟩
    exact grown_ext h2 h3) hH hB.lt (by omega)
  rw [hsz] at hcc
  refine Calls.mono hcc fun e w' ⟨he, d', m, os, hp, hs, hw⟩ => ⟨⟨_, he⟩, by rw [hw]; exact Only.sortedK, d'.toList.map fun x => x.1, ?_, ?_, ?_⟩
  · obtain ⟨h1, _, h2⟩ := hp
    have ex : ∀ (x : Array GSl), x.size = n → x.extract 0 n = x := fun x hx => by subst hx; simp
    have e1 := ex d' (h1.trans hsz)
    have e2 := ex l.toArray hsz
    rw [e1, e2] at h2
    exact List.Perm.map _ (by simpa using h2)
  · have h1 : d'.size = n := hp.1.trans hsz
    rw [List.pairwise_map, List.pairwise_iff_getElem]
    intro i j hi hj hij
    have := hs i j (Nat.zero_le _) hij (by simpa [h1] using hj)
    rw [getElem!_pos _ j (by simpa using hj), getElem!_pos _ i (by simpa using hi)] at this
    simp only [ltOf, decide_eq_false_iff_not] at this
    simp only [Array.getElem_toList]
    omega
  · have h1 : d'.size = n := hp.1.trans hsz
    have hBk : Bk w' g (putCells id 0 (flatK slG 6 d') cs.toArray).toList 49 := by
      refine ⟨?_⟩
      rw [hw, sortWorldK, heap_grow_old _ _ (by simpa [putRowK, putRow, mapBlock, Go.Sort.ahead] using hB.lt)]
      simp [putRowK, putRow, mapBlock, Go.Sort.ahead, Array.getElem?_modify, hB.h, onCells]
    rw [emp]
    refine OwnL.ofCellsK hBk (by simp [putCells, hcl]) hnc hcm (by simpa using h1) ?_ (by omega) (Nat.le_refl _) fun x hx => by obtain ⟨y, _, rfl⟩ := List.mem_map.1 hx; rfl
    apply List.ext_getElem?
    intro j
    rw [List.getElem?_take]
    by_cases hj : j < n * 6
    · rw [if_pos hj]
      have hnc' : n * 6 ≤ c * 6 := Nat.mul_le_mul_right 6 hnc
      have hjc : j < cs.length := by omega
      have hjd : j < (flatK slG 6 d').size := by rw [size_flatK, h1]; exact hj
      rw [flatG_get d'.toList j (by simpa [h1] using hj)]
      have hjd' : j < d'.size * 6 := by rw [h1]; exact hj
      simp [putCells, hjc, hjd']
    · rw [if_neg hj]
      have hl := flat_len (k := 6) (xs := d'.toList.map fun x : GSl => encSl x.1) fun x hx => by obtain ⟨y, _, rfl⟩ := List.mem_map.1 hx; rfl
      rw [List.getElem?_eq_none (by rw [hl, List.length_map, Array.length_toList, h1]; omega)]
end Go.Proofs.YtpijeomnplmakaaGreatDoor

/- slices.SortFunc, slices.CompactFunc of slips: nil slices too. -/
namespace Go.Proofs.YtpijeomnplmakaaGreatDoor
open Go.Shelf Go.RowKit Go.Lib Go.Sort
def sh_lays125_ren : Go.Shelf.Ren := ⟨fun | 125 => 99 | 128 => 136 | 129 => 137 | n => n, fun | 46 => 158 | 3 => 3 | 51 => 129 | 53 => 192 | 4 => 4 | 5 => 5 | 9 => 9 | n => n, fun | n => n⟩

theorem sh_lays125 : Go.Proofs.Lays.n125 Tryz.prog sh_lays125_ren := {
  mixed := by kernel_rfl
  f125 := Tryz.func99.trans (congrArg some (by kernel_rfl))
  f128 := Tryz.func136.trans (congrArg some (by kernel_rfl))
  f129 := Tryz.func137.trans (congrArg some (by kernel_rfl))
  t3 := Tryz.underlying3
  a3 := Tryz.isAgg3
  z3 := Tryz.sizeOf3
  v3 := Tryz.zeroValue3
  t4 := Tryz.underlying4
  a4 := Tryz.isAgg4
  z4 := Tryz.sizeOf4
  v4 := Tryz.zeroValue4
  t5 := Tryz.underlying5
  a5 := Tryz.isAgg5
  z5 := Tryz.sizeOf5
  v5 := Tryz.zeroValue5
  t9 := Tryz.underlying9
  a9 := Tryz.isAgg9
  z9 := Tryz.sizeOf9
  v9 := Tryz.zeroValue9
  t46 := Tryz.underlying158
  a46 := Tryz.isAgg158
  z46 := Tryz.sizeOf158
  v46 := Tryz.zeroValue158
  t51 := Tryz.underlying129
  a51 := Tryz.isAgg129
  z51 := Tryz.sizeOf129
  v51 := Tryz.zeroValue129
  t53 := Tryz.underlying192
  a53 := Tryz.isAgg192
  z53 := Tryz.sizeOf192
  v53 := Tryz.zeroValue192 }

theorem sh_bits_Len (x : Int) (w : World) (h0 : 0 ≤ x) (h1 : x ≤ 18446744073709551615) :
    Calls Tryz.prog 99 #[.int .u64 x] w fun e w' => e = .returned (.int .i64 (Lib.bitLen x.toNat)) ∧ w' = w := Any.bits_Len sh_lays125 x w h0 h1

section
variable (q : Nat) [he : Enters Tryz.prog q] (cf : Slp → Slp → Int)
omit he in
theorem insert_none (w : World) : Ct Tryz.prog 128 [.slice none 0 0, .int .i64 0, .int .i64 0, .func (.func q) #[] #[]] w fun _ _ => True := by
  refine Ct.ofW (by simp) ?_
  (refine jjB ?_; refine jjC ?_; apply jI; exact eI rfl; refine jY rfl rfl (by omega) ?_; apply jJ; exact eI rfl; refine jz ?_; refine jjD ?_)
  refine W.loop (12 :: 13 :: 14 :: 17 :: 9 :: 18 :: 19 :: 20 :: 21 :: 22 :: 23 :: 24 :: 25 :: 26 :: 27 :: 28 :: 29 :: 30 :: 31 :: 32 :: 33 :: 34 :: 37 :: 38 :: 39 :: 40 :: 41 :: 42 :: 43 :: 44 :: 45 :: 46 :: 47 :: 48 :: 49 :: 50 :: 51 :: 52 :: 35 :: 36 :: 15 :: 16 :: 8 :: []) (fun g s' _ => s' 8 = .int .i64 1) 1 rfl ?_
  rintro _ sd V hSV h8
  refine W.fix h8 ?_
  (refine jjB ?_; refine jjB ?_; refine jjC ?_; apply jI; exact eI rfl; apply jI; exact eI rfl; refine jja rfl rfl (by omega) ?_; refine jz ?_; refine jjK rfl ?_; refine jjE ?_; refine jA rfl ⟨inferInstance, ?_⟩)
  trivial
omit he in
theorem pdq_none (m : Int) (w : World) : Ct Tryz.prog 98 [.slice none 0 0, .int .i64 0, .int .i64 0, .int .i64 m, .func (.func q) #[] #[]] w fun _ _ => True := by
  refine Ct.ofW (by simp) ?_
  (refine jjB ?_; refine jjC ?_; apply jJ; exact eB rfl; refine jz ?_; refine jjB ?_; refine jjC ?_; apply jJ; exact eB rfl; refine jz ?_; refine jjD ?_)
  refine W.loop (21 :: 22 :: 23 :: 12 :: 24 :: 25 :: 26 :: 27 :: 28 :: 29 :: 30 :: 31 :: 32 :: 33 :: 34 :: 35 :: 36 :: 37 :: 38 :: 39 :: 40 :: 41 :: 42 :: 43 :: 44 :: 45 :: 46 :: 3 :: 48 :: 49 :: 50 :: 51 :: 52 :: 47 :: 53 :: 54 :: 13 :: 14 :: 55 :: 56 :: 57 :: 58 :: 59 :: 60 :: 61 :: 62 :: 63 :: 64 :: 65 :: 66 :: 67 :: 68 :: 69 :: 70 :: 71 :: 72 :: 73 :: 74 :: 75 :: 76 :: 77 :: 78 :: 79 :: 80 :: 81 :: 82 :: 83 :: 84 :: 85 :: 86 :: 87 :: 88 :: 89 :: 90 :: 91 :: 92 :: 93 :: 94 :: 95 :: 96 :: 97 :: 98 :: 99 :: 100 :: 101 :: 102 :: 103 :: 15 :: 104 :: 1 :: 106 :: 107 :: 108 :: 109 :: 110 :: 111 :: 105 :: 112 :: 113 :: 16 :: 17 :: 114 :: 11 :: 115 :: 116 :: 117 :: 118 :: 119 :: 120 :: 18 :: 19 :: 121 :: 122 :: 20 :: 123 :: 124 :: 125 :: 126 :: 127 :: 128 :: 10 :: 129 :: 130 :: 131 :: 132 :: 133 :: 134 :: 135 :: 136 :: 137 :: 138 :: 139 :: 140 :: 141 :: 142 :: 143 :: 144 :: 145 :: 146 :: 147 :: 2 :: []) (fun g s' _ => s' 1 = .int .i64 0 ∧ s' 2 = .int .i64 0) 1 ⟨rfl, rfl⟩ ?_
  rintro _ sd V hSV ⟨h1, h2⟩
  refine W.fix h1 (W.fix (d := 2) h2 ?_)
  (refine jjD ?_; refine jjB ?_; refine jjC ?_; apply jI; exact eI rfl; apply jI; exact eI rfl; refine jZ rfl rfl (by omega) ?_; apply jJ; exact eI rfl; refine jz ?_; refine jjB ?_; refine jjB ?_; refine jjC ?_; apply jI; exact eI rfl; refine jjb rfl rfl (by omega) ?_; refine jz ?_; refine jjJ rfl ?_; refine jjB ?_; refine jjC ?_; apply jI; exact eS rfl; apply jI; exact eI rfl; apply jI; exact eI rfl; apply jI; exact eF rfl)
  refine jjQ (insert_none q _) rfl rfl ?_
  rintro _ w2 hS2 _
  (refine jz ?_; refine jjF ?_; refine jA rfl ⟨inferInstance, ?_⟩)
  trivial
omit he in
theorem SortFunc_none (w : World) : Ct Tryz.prog 65 [.slice none 0 0, .func (.func q) #[] #[]] w fun _ _ => True := by
  refine Ct.ofW (by simp) ?_
  (refine jjB ?_; refine jjC ?_; apply jI; exact eS rfl; refine jh rfl ?_; apply jJ; exact eI rfl; refine jz ?_; refine jjC ?_; apply jI; exact eS rfl; apply jI; exact eI rfl; apply jI; exact eI rfl)
  refine Ops.convI rfl rfl (show _ = (0 : Int) from by rfl) ?_
  skip
  refine Ops.callR rfl (Enters.h (P := Tryz.prog) (g := 99)) rfl (sh_bits_Len 0 _ (by omega) (by omega)) ?_
  rintro e w3 ⟨rfl, rfl⟩
  refine ⟨_, rfl, ?_⟩
  (apply jI; exact eF rfl)
  refine jjQ (pdq_none q _ _) rfl rfl ?_
  rintro _ w4 hS4 _
  (refine jz ?_; refine jA rfl ⟨inferInstance, ?_⟩)
  trivial
theorem Compact_none (bk : Nat) (w : World) : Ct Tryz.prog 66 [.slice none 0 0, .func (.func 67) #[] #[.pointer (some ⟨bk, 0, none⟩)]] w fun v _ => v = .slice none 0 0 := by
  refine Ct.ofW (by simp) ?_
  (refine jjB ?_; refine jjC ?_; apply jJ; exact eS rfl; refine jz ?_; refine jjB ?_; refine jjB ?_; refine jjC ?_; apply jI; exact eS rfl; refine jh rfl ?_; refine jjZ rfl rfl (by omega) ?_; refine jz ?_; refine jjJ rfl ?_; refine jjB ?_; refine jjC ?_; apply jI; exact eS rfl; apply jJ; exact eS rfl; refine jz ?_; refine jjF ?_; refine jB rfl rfl ⟨inferInstance, ?_⟩)
  exact rfl
variable (hf : Pre3 cf) (hc : CmpQ q cf)
include hf hc in
theorem SortAny (a : Option Addr) (c : Nat) (l : List Slp) (hg : ∀ x ∈ l, GdS x) (w : World) {B : Nat} (hO : OwnL w B 49 true 6 (.slice a l.length c) (l.map encSl)) (hB : B ≤ w.heap.size) (hl : l.length ≤ 1000000) (hmx : ∀ V, (∀ w0, Ext w0 w → w0.heap.size ≤ B → Ext w0 V) → MxI V) :
    Calls Tryz.prog 65 [.slice a l.length c, .func (.func q) #[] #[]].toArray w fun e w' => (∃ v, e = .returned v) ∧ (∀ w0, Ext w0 w → w0.heap.size ≤ B → Ext w0 w') ∧ ∃ r : List Slp, r.Perm l ∧ r.Pairwise (fun a b => cf b a ≠ -1) ∧ OwnL w' B 49 true 6 (.slice a l.length c) (r.map encSl) := by
  rcases hO.own.2 with ⟨e1, _⟩ | ⟨g, cap, cur, e1, hBg, _⟩
  · simp only [Value.slice.injEq] at e1
    obtain ⟨rfl, h0, rfl⟩ := e1
    obtain rfl := List.length_eq_zero_iff.1 h0
    have h := SortFunc_none q w
    unfold Ct at h
    exact Calls.mono h fun e w' ⟨v, h1, h2, _⟩ => ⟨⟨v, h1⟩, fun w0 h3 _ => h3.trans h2, [], List.Perm.refl _, List.Pairwise.nil, hO.ext h2⟩
  · simp only [Value.slice.injEq] at e1
    obtain ⟨rfl, _, rfl⟩ := e1
    refine Calls.mono (SortFunc_slip q cf hf hc g l.length _ l hg w hO hl fun V hV => hmx V fun w0 x0 hb => hV.ext x0 (by omega)) fun e w' ⟨h1, h2, r, h3, h4, h5⟩ => ⟨h1, fun w0 x0 hb => h2.ext x0 (by omega), r, h3, h4, h5.mono hBg⟩
include hc in
theorem CompactAny (bk : Nat) (a : Option Addr) (c : Nat) (l : List Slp) (hg : ∀ x ∈ l, GdS x) (w : World) {B : Nat} (hA : At w bk 0 [.func (.func q) #[] #[]]) (hbk : bk < B) (hO : OwnL w B 49 true 6 (.slice a l.length c) (l.map encSl)) (hB : B ≤ w.heap.size) (hl : l.length ≤ 1000000) (hmx : ∀ V, (∀ w0, Ext w0 w → w0.heap.size ≤ B → Ext w0 V) → MxI V) :
    Calls Tryz.prog 66 [.slice a l.length c, .func (.func 67) #[] #[.pointer (some ⟨bk, 0, none⟩)]].toArray w fun e w' => e = .returned (.slice a (cptL cf l).length c) ∧ (∀ w0, Ext w0 w → w0.heap.size ≤ B → Ext w0 w') ∧ OwnL w' B 49 true 6 (.slice a (cptL cf l).length c) ((cptL cf l).map encSl) := by
  rcases hO.own.2 with ⟨e1, _⟩ | ⟨g, cap, cur, e1, hBg, _⟩
  · simp only [Value.slice.injEq] at e1
    obtain ⟨rfl, h0, rfl⟩ := e1
    obtain rfl := List.length_eq_zero_iff.1 h0
    have h := Compact_none bk w
    unfold Ct at h
    exact Calls.mono h fun e w' ⟨v, h1, h2, h4⟩ => ⟨by rw [h1, h4]; rfl, fun w0 h3 _ => h3.trans h2, hO.ext h2⟩
  · simp only [Value.slice.injEq] at e1
    obtain ⟨rfl, _, rfl⟩ := e1
    refine Calls.mono (Compact_slip q cf hc bk g l.length _ l hg w hA (by omega) (by omega) hO hl fun V hV => hmx V fun w0 x0 hb => hV.ext x0 (by omega)) fun e w' ⟨h1, h2, h5⟩ => ⟨h1, fun w0 x0 hb => h2.ext x0 (by omega), h5⟩
end
end Go.Proofs.YtpijeomnplmakaaGreatDoor

/- rack.Ranks: the ranks of slips. -/
namespace Go.Proofs.YtpijeomnplmakaaGreatDoor
open Go.RowKit Go.Sort

/-- The table of comparators. -/
abbrev bysC : List Value := [.nilFunc, .func (.func 224) #[] ([] : List Value).toArray, .func (.func 225) #[] ([] : List Value).toArray, .func (.func 227) #[] ([] : List Value).toArray, .func (.func 228) #[] ([] : List Value).toArray]
theorem cptGo_len {α : Type} {f : α → α → Int} : ∀ (r : List α) (p : α), (cptGo f p r).length ≤ r.length
  | [], _ => Nat.le_refl _
  | x :: r, p => by
    rw [cptGo]
    have := cptGo_len (f := f) r x
    split <;> simp <;> omega
theorem cpt_len {α : Type} {f : α → α → Int} (l : List α) : (cptL f l).length ≤ l.length := by
  cases l with
  | nil => exact Nat.le_refl _
  | cons x r => have := cptGo_len (f := f) r x; simp [cptL]; exact this
def RanksR (l : List Slp) (n : Int) (B : Nat) (v : Value) (w' : World) : Prop := ∃ (a : Option Addr) (c : Nat), v = .tuple #[.slice a (ranksR l n).1.length c, .int .i64 (ranksR l n).2] ∧ OwnL w' B 3 false 1 (.slice a (ranksR l n).1.length c) ((ranksR l n).1.map intV)
theorem ordR_self (x : Slp) : (ordR x x).2 = if slipB x = true then 0 else 31 := by
  rw [ordR]
  cases slipB x <;> rfl
/-- What the table holds for one way. -/
theorem by_row (w : World) (by_ : Int) (hb : 1 ≤ by_ ∧ by_ ≤ 4) (h1 : by_ = 1 → CmpQ 224 (cmpBy 1)) (hgb : At w 0 0 bysC) : ∃ (q : Nat) (j : Nat) (rest : List Value), by_ = (j : Int) ∧ j < 5 ∧ Enters Tryz.prog q ∧ CmpQ q (cmpBy by_) ∧ At w 0 (0 + j * 1) (.func (.func q) #[] #[] :: rest) := by
  have h4 : by_ = 1 ∨ by_ = 2 ∨ by_ = 3 ∨ by_ = 4 := by omega
  rcases h4 with rfl | rfl | rfl | rfl
  · exact ⟨224, 1, _, rfl, by omega, inferInstance, h1 rfl, hgb.drop 1⟩
  · exact ⟨225, 2, _, rfl, by omega, inferInstance, by2_slip, hgb.drop 2⟩
  · exact ⟨227, 3, _, rfl, by omega, inferInstance, by3_slip, hgb.drop 3⟩
  · exact ⟨228, 4, _, rfl, by omega, inferInstance, by4_slip, hgb.drop 4⟩
section
variable (a : Option Addr) (c : Nat) (l : List Slp) (by_ : Int) (w : World) [hgb : At w 0 0 bysC] [hmx : MxI w] [hrow : RowI w (.slice a l.length c) true 6 (l.map encSl)]
set_option maxHeartbeats 4000000 in
theorem Ranks_rack (hq1 : by_ = 1 → CmpQ 224 (cmpBy 1)) (hs : ∀ x ∈ l, SmallS x) (hb : 0 ≤ by_ ∧ by_ ≤ 255) : Ct Tryz.prog 22 [.slice a l.length c, .int .u8 by_] w fun v w' => RanksR l by_ w.heap.size v w' := by
  refine Ct.ofW (by simp) ?_
  by_cases h60 : 60 < l.length
  · (refine jjB ?_; refine jjC ?_; apply jJ; exact eS rfl; apply jJ; exact eI rfl; refine jz ?_; refine jjB ?_; refine jjB ?_; refine jjC ?_; apply jI; exact eS rfl; refine jh rfl ?_; refine jjd rfl rfl (by omega) ?_; refine jz ?_; refine jjJ rfl ?_; refine jjB ?_; refine jjC ?_; apply jJ; exact eS rfl; apply jJ; exact eI rfl; refine jz ?_; refine jjF ?_; refine jC rfl rfl rfl ⟨inferInstance, ?_⟩)
    have e : ranksR l by_ = ([], 4) := by rw [ranksR, if_pos h60]
    unfold RanksR; rw [e]
    exact ⟨none, 0, rfl, OwnL.nil _ _ _ _ _⟩
  (refine jjB ?_; refine jjC ?_; apply jJ; exact eS rfl; apply jJ; exact eI rfl; refine jz ?_; refine jjB ?_; refine jjB ?_; refine jjC ?_; apply jI; exact eS rfl; refine jh rfl ?_; refine jje rfl rfl (by omega) ?_; refine jz ?_; refine jjK rfl ?_; refine jjG ?_; refine jjB ?_; refine jjB ?_; refine jjC ?_; apply jI; exact eS rfl; refine jh rfl ?_; apply jI; exact eI rfl; refine jz ?_; refine jjD ?_)
  refine W.keep0 [(0, .slice a l.length c), (1, .int .u8 by_), (20, .slice a l.length c), (21, .int .i64 (l.length : Int)), (22, .int .i64 ((0 : Nat) : Int))] ⟨eS rfl, eI rfl, eS rfl, eI rfl, eI rfl, trivial⟩ fun s0 => ?_
  refine W.loop (23 :: 24 :: 25 :: 7 :: 27 :: 28 :: 29 :: 26 :: 30 :: 31 :: 8 :: 9 :: 32 :: 33 :: 34 :: 4 :: 5 :: 35 :: 22 :: []) (fun g s' _ => ∃ k : Nat, s' 22 = .int .i64 (k : Int) ∧ g = l.length - k ∧ k ≤ l.length ∧ ∀ j (h : j < l.length), j < k → slipB l[j] = true) l.length ⟨0, rfl, rfl, Nat.zero_le _, fun j _ h => absurd h (Nat.not_lt_zero _)⟩ ?_
  rintro _ sd V hSV ⟨k, h22, rfl, hk, hpre⟩
  refine W.fix h22 ?_
  clear h22
  by_cases hk1 : k < l.length
  · have hx := hs l[k] (List.getElem_mem hk1)
    (refine jjB ?_; refine jjC ?_; refine jjZ rfl rfl (by omega) ?_; refine jz ?_; refine jjB ?_; refine jjJ rfl ?_; refine jjG ?_; refine jjB ?_; refine jjD ?_; refine jjB ?_; refine jjC ?_; refine jF rfl rfl rfl (map_get (by omega)) ?_; intro _ _ _; refine jQ rfl rfl ?_)
    (apply jjR rfl; (intro _; first|exact eI rfl|exact eB rfl|exact eP rfl|exact eS rfl|exact eT rfl|exact eA rfl|exact eU rfl|exact eF rfl|exact eM rfl|exact eN rfl|exact rfl); exact rfl; exact rfl; exact rfl; exact rfl; intro b7 w_b7 hb_b7 hs_b7 hS_b7 hk_b7; have hA_b7 := Bk.of hk_b7)
    have hA7 : At w_b7 b7 0 (encSl l[k]).cells.toList := Bk.toAt (h := hA_b7)
    (refine jz ?_; refine jjB ?_; refine jjC ?_; refine jO rfl rfl rfl rfl ?_; refine jO rfl rfl rfl rfl ?_)
    refine jjQ (Order_slip _ l[k] l[k] hx hx) rfl rfl ?_
    rintro _ w8 hS8 rfl
    by_cases hr : slipB l[k] = true
    · rw [ordR_self, if_pos hr]
      (apply jI; exact eU rfl; refine ju rfl rfl ?_; refine ju rfl rfl ?_; apply jJ; exact eI rfl; apply jJ; exact eI rfl; refine jz ?_; refine jjB ?_; refine jjC ?_; apply jI; exact eI rfl; refine jjk rfl rfl (by omega) ?_; refine jz ?_; refine jjK rfl ?_; refine jjG ?_; refine jjC ?_; refine jY rfl rfl (by omega) ?_; apply jI; exact eI rfl; refine jz ?_)
      refine ⟨rfl, by (((iterate 17 refine Same.upd rfl ?_); exact Same.ovN)), l.length - (k + 1), by omega, inferInstance, k + 1, congrArg (Value.int .i64) (by omega), rfl, by omega, fun j h1 h2 => ?_⟩
      rcases Nat.lt_or_ge j k with c1 | c1
      · exact hpre j h1 c1
      · obtain rfl : j = k := by omega
        exact hr
    · rw [ordR_self, if_neg hr]
      (apply jI; exact eU rfl; refine ju rfl rfl ?_; refine ju rfl rfl ?_; apply jJ; exact eI rfl; apply jJ; exact eI rfl; refine jz ?_; refine jjB ?_; refine jjC ?_; apply jI; exact eI rfl; refine jjj rfl rfl (by omega) ?_; refine jz ?_; refine jjJ rfl ?_; refine jjB ?_; refine jjC ?_; apply jI; exact eI rfl; apply jJ; exact eS rfl; apply jJ; exact eI rfl; refine jz ?_; refine jjF ?_; refine jC rfl rfl rfl ⟨inferInstance, ?_⟩)
      have e : ranksR l by_ = ([], 31) := by
        rw [ranksR, if_neg h60, if_pos fun h => hr (List.all_eq_true.1 h _ (List.getElem_mem hk1))]
      unfold RanksR; rw [e]
      exact ⟨none, 0, rfl, OwnL.nil _ _ _ _ _⟩
  have hall : l.all slipB = true := List.all_eq_true.2 fun x hx => by
    obtain ⟨j, hj, rfl⟩ := List.mem_iff_getElem.1 hx
    exact hpre j hj (by omega)
  have hgd : ∀ x ∈ l, GdS x := fun x hx => ⟨List.all_eq_true.1 hall x hx, hs x hx⟩
  clear hpre hk
  (refine jjB ?_; refine jjC ?_; refine jja rfl rfl (by omega) ?_; refine jz ?_; refine jjB ?_; refine jjK rfl ?_; refine jjE ?_; refine jjB ?_; refine jjB ?_; refine jjC ?_; apply jI; exact eI rfl)
  refine Ops.convI rfl rfl (wrapi (by omega) (by omega)) ?_
  skip
  (refine jjP (v := .int _ _) rfl (by exact rfl) (by exact rfl) (by exact rfl) (by exact rfl) ?_; intro b38 w_b38 hb_b38 hs_b38 hS_b38 hk_b38; have hR_b38 := RowV.one (agg := false) (k := 1) rfl hk_b38)
  ((skip); refine jjQ (in_rack 1 4 _ [by_] _ hR_b38) rfl rfl ?_)
  rintro _ w3 hS3 rfl
  rw [all_one]
  by_cases hby : 1 ≤ by_ ∧ by_ ≤ 4
  rotate_left
  · have e : ranksR l by_ = ([], 2) := by rw [ranksR, if_neg h60, if_neg (by simp [hall]), if_pos hby]
    rw [show inB 1 4 by_ = false by rw [inB]; exact decide_eq_false hby]
    (refine jq rfl ?_; refine jz ?_; refine jjJ rfl ?_; refine jjB ?_; refine jjC ?_; apply jJ; exact eS rfl; apply jJ; exact eI rfl; refine jz ?_; refine jjF ?_; refine jC rfl rfl rfl ⟨inferInstance, ?_⟩)
    unfold RanksR; rw [e]
    exact ⟨none, 0, rfl, OwnL.nil _ _ _ _ _⟩
  rw [show inB 1 4 by_ = true by rw [inB]; exact decide_eq_true hby]
  have hE3 : Ext w w3 := inferInstance
  obtain ⟨q, j, rest, hj, hj5, he, hc, hAq⟩ := by_row w3 by_ hby hq1 (hgb.ext hE3)
  have hf := pre_by by_
  have e : ranksR l by_ = (l.map fun s => (rankF (cmpBy by_) l s : Int), 0) := ranksR_ok (by omega) hall hby
  unfold RanksR
  rw [e]
  clear e
  generalize cmpBy by_ = cf at *
  (refine jp rfl ?_; refine jz ?_; refine jjK rfl ?_; refine jjG ?_; refine jjB ?_; refine jjC ?_; apply jI; exact eI rfl)
  refine Ops.indexAP j rfl rfl hj (by simpa using hj5) ?_
  (refine jm ?_; refine jn rfl ?_; refine jP rfl rfl rfl ?_)
  (apply jjR rfl; (intro _; first|exact eI rfl|exact eB rfl|exact eP rfl|exact eS rfl|exact eT rfl|exact eA rfl|exact eU rfl|exact eF rfl|exact eM rfl|exact eN rfl|exact rfl); exact rfl; exact rfl; exact rfl; exact rfl; intro b10 w_b10 hb_b10 hs_b10 hS_b10 hk_b10; have hA_b10 := Bk.of hk_b10)
  have hA10 : At w_b10 b10 0 [.func (.func q) #[] #[]] := Bk.toAt (h := hA_b10)
  have hEb : Ext w w_b10 := inferInstance
  have hr10 : RowI w_b10 (.slice a l.length c) true 6 (l.map encSl) := inferInstance
  (refine jz ?_; refine jjB ?_; refine jjC ?_; apply jI; exact eS rfl)
  refine jjQ (Clone_Slip a c l _ (by omega)) rfl rfl ?_
  rintro _ w13 hS13 ⟨ca, cc, rfl, hO13⟩
  have hbl : b10 < w_b10.heap.size := hA10.lt
  (apply jJ; exact eS rfl; refine jz ?_; refine jjB ?_; refine jjC ?_; apply jI; exact eS rfl; refine jN rfl rfl rfl ?_)
  refine Ops.callR rfl (Enters.h (P := Tryz.prog) (g := 65)) rfl (SortAny q cf hf hc ca cc l hgd w13 hO13 hS13.size (by omega) fun V hV => (inferInstance : MxI w_b10).ext (hV _ hS13.ext (Nat.le_refl _))) ?_
  rintro e w14 ⟨⟨v14, rfl⟩, hx14, r, hp, hsr, hO14⟩
  refine ⟨_, rfl, ?_⟩
  have hE14 : Ext w_b10 w14 := hx14 _ hS13.ext (Nat.le_refl _)
  have hlr := hp.length_eq
  rw [← hlr] at hO14
  (refine jz ?_; refine jjB ?_; refine jjC ?_; apply jI; exact eS rfl; refine jv ?_)
  refine Ops.callR rfl (Enters.h (P := Tryz.prog) (g := 66)) (by rw [← hlr]; rfl) (CompactAny q cf hc b10 ca cc r (fun x hx => hgd x (hp.mem_iff.1 hx)) w14 (hA10.ext hE14) hbl hO14 hE14.size (by omega) fun V hV => (inferInstance : MxI w_b10).ext (hV _ hE14 (Nat.le_refl _))) ?_
  rintro e w15 ⟨rfl, hx15, hO15⟩
  refine ⟨_, rfl, ?_⟩
  have hE15 : Ext w_b10 w15 := hx15 _ hE14 (Nat.le_refl _)
  have hcp := cpt_facts hf hsr
  have hrk := fun s => rank_cpt hf (s := s) hp hsr
  have hgC : ∀ y ∈ cptL cf r, GdS y := fun y hy => hgd y (hp.mem_iff.1 (hcp.1 y hy))
  have hlC : (cptL cf r).length ≤ 1000000 := by
    have := cpt_len (f := cf) r
    omega
  have hpw := hcp.2.1
  generalize cptL cf r = C at *
  clear hx14 hx15 hsr hcp hp hO14 hO13
  have hE15' : Ext w w15 := hEb.trans hE15
  have hA15 : At w15 b10 0 [.func (.func q) #[] #[]] := hA10.ext hE15
  have hr15 : RowI w15 (.slice a l.length c) true 6 (l.map encSl) := ⟨hr10.h.ext hE15⟩
  have hrC : RowI w15 (.slice ca C.length cc) true 6 (C.map encSl) := ⟨hO15.row⟩
  have := hE15'.toStep
  (apply jJ; exact eS rfl; refine jz ?_; refine jjB ?_; refine jjC ?_; apply jJ; exact eS rfl; refine jz ?_; refine jjB ?_; refine jjB ?_; refine jjC ?_; apply jI; exact eS rfl; refine jh rfl ?_; apply jI; exact eI rfl; refine jz ?_; refine jjD ?_)
  refine W.keep0 [(10, .pointer (some ⟨b10, 0, none⟩)), (11, .slice ca C.length cc), (12, .slice none 0 0), (53, .slice a l.length c), (54, .int .i64 (l.length : Int)), (55, .int .i64 ((0 : Nat) : Int))] ⟨eP rfl, eS rfl, eS rfl, eS rfl, eI rfl, eI rfl, trivial⟩ fun s1 => ?_
  refine W.loopG (56 :: 57 :: 58 :: 14 :: 60 :: 61 :: 62 :: 63 :: 59 :: 64 :: 65 :: 15 :: 16 :: 66 :: 67 :: 68 :: 69 :: 12 :: 70 :: 55 :: []) (fun g s' V => ∃ (k : Nat) (dv : Value), s' 55 = .int .i64 (k : Int) ∧ s' 12 = dv ∧ g = l.length - k ∧ k ≤ l.length ∧ Ext w15 V ∧ OwnL V w15.heap.size 3 false 1 dv (((l.take k).map fun s => (rankF cf l s : Int)).map intV)) l.length ⟨0, _, rfl, rfl, rfl, Nat.zero_le _, Ext.refl _, OwnL.nil _ _ _ _ _⟩ ?_
  rintro _ sd2 V2 ⟨k, dv, h55, h12, rfl, hk, hEV, hO⟩
  refine W.fix h55 (W.fix (d := 12) h12 ?_)
  clear h55 h12
  obtain ⟨da, dc, rfl⟩ := hO.slice
  have hdl : (((l.take k).map fun s => (rankF cf l s : Int)).map intV).length = k := by simp; omega
  rw [hdl] at hO ⊢
  have := hEV.toStep
  by_cases hk1 : k < l.length
  rotate_left
  · obtain rfl : k = l.length := by omega
    rw [List.take_length] at hO
    (refine jjB ?_; refine jjC ?_; refine jja rfl rfl (by omega) ?_; refine jz ?_; refine jjB ?_; refine jjK rfl ?_; refine jjE ?_; refine jjB ?_; refine jjC ?_; apply jI; exact eS rfl; apply jJ; exact eS rfl; apply jJ; exact eI rfl; refine jz ?_; refine jjF ?_; refine jC rfl rfl rfl ⟨inferInstance, ?_⟩)
    exact ⟨da, dc, by rw [List.length_map]; rfl, by rw [List.length_map]; exact hO.mono hE15'.size⟩
  have hgk := List.getElem?_eq_getElem hk1
  have hgx := hgd l[k] (List.getElem_mem hk1)
  (refine jjB ?_; refine jjC ?_; refine jjZ rfl rfl (by omega) ?_; refine jz ?_; refine jjB ?_; refine jjJ rfl ?_; refine jjG ?_; refine jjB ?_; refine jjD ?_; refine jjB ?_; refine jjC ?_; refine jF rfl rfl rfl (map_get (by omega)) ?_; intro _ _ _; refine jQ rfl rfl ?_)
  (apply jjR rfl; (intro _; first|exact eI rfl|exact eB rfl|exact eP rfl|exact eS rfl|exact eT rfl|exact eA rfl|exact eU rfl|exact eF rfl|exact eM rfl|exact eN rfl|exact rfl); exact rfl; exact rfl; exact rfl; exact rfl; intro b14 w_b14 hb_b14 hs_b14 hS_b14 hk_b14; have hA_b14 := Bk.of hk_b14)
  have hA14 : At w_b14 b14 0 (encSl l[k]).cells.toList := Bk.toAt (h := hA_b14)
  have hEb14 : Ext w15 w_b14 := inferInstance
  have hrC14 : RowI w_b14 (.slice ca C.length cc) true 6 (C.map encSl) := inferInstance
  (refine jz ?_; refine jjB ?_; refine jjC ?_; apply jI; exact eS rfl; refine jO rfl rfl rfl rfl ?_; refine jN rfl rfl rfl ?_)
  refine jjQ (Search_slip q cf hf hc ca cc C l[k] hgC hgx w_b14 hlC hpw) rfl rfl ?_
  rintro _ w17 hS17 ⟨bb, rfl⟩
  rw [← hrk l[k]]
  (apply jI; exact eU rfl; refine ju rfl rfl ?_; refine ju rfl rfl ?_; apply jJ; exact eI rfl; apply jJ; exact eB rfl; refine jz ?_; refine jjC ?_; apply jI; exact eS rfl; apply jI; exact eI rfl)
  (refine jjP (v := .int _ _) rfl (by exact rfl) (by exact rfl) (by exact rfl) (by exact rfl) ?_; intro b68 w_b68 hb_b68 hs_b68 hS_b68 hk_b68; have hR_b68 := RowV.one (agg := false) (k := 1) rfl hk_b68)
  have hE68 : Ext V2 w_b68 := inferInstance
  refine Ops.appendL (hO.ext hE68) (by have := hE68.size; have := hEV.size; omega) hR_b68 rfl rfl rfl rfl rfl ?_ ?_ ?_
  · rw [hdl]; simp only [List.length_cons, List.length_nil]; omega
  · rw [hdl]; simp only [List.length_cons, List.length_nil]; omega
  intro v69 w69 hA69 hO69 _ _
  have hE69 : Ext w15 w69 := hA69.ext (hEV.trans hE68) (Nat.le_refl _)
  (apply jJ; exact rfl; refine jz ?_; refine jjC ?_; refine jY rfl rfl (by omega) ?_; apply jI; exact eI rfl; refine jz ?_)
  refine ⟨rfl, by (((iterate 22 refine Same.upd rfl ?_); exact Same.ovN)), l.length - (k + 1), by omega, k + 1, _, congrArg (Value.int .i64) (by omega), rfl, rfl, by omega, hE69, ?_⟩
  rw [take_snoc_get hgk, List.map_append, List.map_append]
  exact hO69
end
end Go.Proofs.YtpijeomnplmakaaGreatDoor
namespace Go.Proofs.YtpijeomnplmakaaGreatDoor
open Go.RowKit

set_option maxHeartbeats 1000000 in
theorem passes_rack (bb : Nat) (v0 v1 : Value) (ae : Option Addr) (ce m b : Nat) (w : World) (hm : m ≤ 60) (hb : 2 ≤ b ∧ b ≤ 20) [hA : At w bb 0 [v0, .slice ae m ce, v1, .int .i64 (b : Int)]] :
    Ct Tryz.prog 54 [.pointer (some ⟨bb, 0, none⟩)] w fun v _ => ∃ p : Nat, PassR b m p ∧ v = .tuple #[.int .i64 ((p : Nat) : Int), .int .i64 (((if p = 0 then 0 else b ^ (p - 1) : Nat)) : Int)] := by
  refine Ct.ofW (by simp) ?_
  (refine jjB ?_; refine jjC ?_; apply jJ; exact eI rfl; apply jJ; exact eI rfl; refine jz ?_; refine jjB ?_; refine jjB ?_; refine jjC ?_; apply jJ; exact eI rfl; refine jz ?_; refine jjD ?_)
  refine W.loop (5 :: 6 :: 7 :: 8 :: 9 :: 10 :: 11 :: 12 :: 19 :: 20 :: 21 :: 2 :: 3 :: 13 :: 14 :: 15 :: 16 :: 17 :: 18 :: 4 :: []) (fun g s' _ => ∃ p : Nat, s' 2 = .int .i64 ((p : Nat) : Int) ∧ s' 3 = .int .i64 (((if p = 0 then 0 else b ^ (p - 1) : Nat)) : Int) ∧ s' 4 = .int .i64 ((b ^ p : Nat) : Int) ∧ g = 61 - p ∧ ∀ q, q < p → b ^ q ≤ m) 61 ⟨0, rfl, rfl, by simp only [Nat.pow_zero]; exact rfl, rfl, by omega⟩ ?_
  rintro _ sd w1 hS1 ⟨p, h2, h3, h4, rfl, hpre⟩
  refine W.fix h2 (W.fix (d := 3) h3 (W.fix (d := 4) h4 ?_))
  clear h2 h3 h4
  have hp60 := p_le_60 hb.1 hm hpre
  have hpw := pow_le_60 hb.2 hm hpre
  obtain ⟨P, hP⟩ : ∃ P, P = b ^ p := ⟨_, rfl⟩
  rw [← hP] at hpw
  rw [← hP]
  repeat' (first|((first|apply jI|apply jJ); (first|exact eI rfl|exact eP rfl))|(refine jM ?_; refine jN rfl rfl rfl ?_)|(refine jW ?_; (first|refine jY rfl rfl (by omega) ?_|refine jd rfl rfl ?_))|(refine jg ?_; refine jh rfl ?_)|(refine jm ?_; refine jn rfl ?_)|refine jw rfl ?_|refine jz ?_|(refine jjA ?_; (first|refine jjB ?_|refine jjC ?_|refine jjD ?_|refine jjE ?_|refine jjF ?_|refine jjG ?_))|(refine jjA ?_; (refine jjN rfl ?_ ?_ <;> intro _))|refine jC rfl rfl rfl ⟨inferInstance, ?_⟩)
  · have hle : P ≤ m := by omega
    have hmul : P * b ≤ 1200 * 20 := Nat.mul_le_mul hpw hb.2
    have hmul' : (P : Int) * (b : Int) = ((P * b : Nat) : Int) := by push_cast; rfl
    refine Ops.mul rfl rfl (by rw [hmul']; omega) ?_
    rw [hmul']
    (apply jJ; exact eI rfl; refine jz ?_)
    refine ⟨rfl, by (((iterate 23 refine Same.upd rfl ?_); exact Same.ovN)), 61 - (p + 1), by omega, inferInstance, p + 1, congrArg (Value.int .i64) (by omega), ?_, ?_, rfl, ?_⟩
    · rw [if_neg (Nat.succ_ne_zero p), Nat.add_sub_cancel, ← hP]; exact rfl
    · rw [Nat.pow_succ, ← hP]; exact rfl
    · intro q hq
      by_cases e : q = p
      · subst e; omega
      · exact hpre q (by omega)
  · exact ⟨p, ⟨by omega, hpre⟩, rfl⟩

theorem opE_boxes {d : List Int} {boxes : Int} (he : opE d boxes = 0) : 2 ≤ boxes ∧ boxes ≤ 20 := by
  simp only [opE] at he
  split at he
  · split at he
    · rename_i h; simpa [inB] using h
    · omega
  · omega
theorem opE_len {d : List Int} {boxes : Int} (he : opE d boxes = 0) : d.length ≤ 60 := by
  simp only [opE] at he
  split at he
  · exact deckB_len ‹_›
  · omega

section
variable (a : Option Addr) (c : Nat) (d : List Int) (boxes : Int) (w : World) (hl : d.length ≤ 1000000) [hrow : RowI w (.slice a d.length c) false 1 (d.map intV)]
include hl
/-- What Runs answers. -/
def RunsR (d : List Int) (v : Value) (w' : World) : Prop := ∃ a c, v = .tuple #[.slice a (if opE d 2 = 0 then numF d else []).length c, .int .i64 (opE d 2)] ∧ RowV w' false 1 (.slice a (if opE d 2 = 0 then numF d else []).length c) ((if opE d 2 = 0 then numF d else []).map intV)
theorem Runs_rack : Ct Tryz.prog 32 [.slice a d.length c] w fun v w' => RunsR d v w' := by
  refine Ct.ofW (by simp) ?_
  (refine jjB ?_; refine jjC ?_; apply jJ; exact eS rfl; apply jJ; exact eI rfl; refine jz ?_; refine jjB ?_; refine jjC ?_; apply jI; exact eS rfl)
  refine jjQ (open_rack a c d 2 _ hl) rfl rfl ?_
  rintro _ w2 hS2 (⟨he, rfl⟩ | ⟨he, bb, bn, ae, ce, rfl, _, _, hA, hN, hE⟩)
  · (apply jI; exact eU rfl; refine ju rfl rfl ?_; refine ju rfl rfl ?_; apply jJ; exact eN rfl; apply jJ; exact eI rfl; refine jz ?_; refine jjB ?_; refine jjB ?_; refine jjC ?_; apply jI; exact eI rfl; refine jjj rfl rfl (by omega) ?_; refine jz ?_; refine jjJ rfl ?_; refine jjB ?_; refine jjC ?_; apply jI; exact eI rfl; apply jJ; exact eS rfl; apply jJ; exact eI rfl; refine jz ?_; refine jjF ?_; refine jC rfl rfl rfl ⟨inferInstance, ?_⟩)
    refine ⟨none, 0, ?_, ?_⟩
    · rw [if_neg he]; exact rfl
    · rw [if_neg he]; exact RowV.nilS _ _ _ _ _
  · (apply jI; exact eU rfl; refine ju rfl rfl ?_; refine ju rfl rfl ?_; apply jJ; exact eP rfl; apply jJ; exact eI rfl; refine jz ?_; refine jjB ?_; refine jjB ?_; refine jjC ?_; apply jI; exact eI rfl; refine jjk rfl rfl (by omega) ?_; refine jz ?_; refine jjK rfl ?_; refine jjG ?_; refine jjB ?_; refine jjC ?_; apply jI; exact eP rfl; refine jw rfl ?_; refine jm ?_; refine jn rfl ?_; refine jm ?_; refine jn rfl ?_; refine jN rfl rfl rfl ?_; apply jJ; exact eS rfl; apply jJ; exact eI rfl; refine jz ?_; refine jjF ?_; refine jC rfl rfl rfl ⟨inferInstance, ?_⟩)
    refine ⟨some ⟨bn, 0, none⟩, d.length, ?_, ?_⟩
    · rw [if_pos he, he, numF_len]; exact rfl
    · rw [if_pos he, numF_len]; exact hN

theorem Passes_rack : Ct Tryz.prog 14 [.slice a d.length c, .int .i64 boxes] w fun v _ => ∃ p : Nat, (if opE d boxes = 0 then PassR boxes.toNat (endF d).length p else p = 0) ∧ v = .tuple #[.int .i64 (p : Int), .int .i64 (opE d boxes)] := by
  refine Ct.ofW (by simp) ?_
  (refine jjB ?_; refine jjC ?_; apply jJ; exact eI rfl; apply jJ; exact eI rfl; refine jz ?_; refine jjB ?_; refine jjC ?_; apply jI; exact eS rfl; apply jI; exact eI rfl)
  refine jjQ (open_rack a c d boxes _ hl) rfl rfl ?_
  rintro _ w2 hS2 (⟨he, rfl⟩ | ⟨he, bb, bn, ae, ce, rfl, _, _, hA, hN, hE⟩)
  · (apply jI; exact eU rfl; refine ju rfl rfl ?_; refine ju rfl rfl ?_; apply jJ; exact eN rfl; apply jJ; exact eI rfl; refine jz ?_; refine jjB ?_; refine jjB ?_; refine jjC ?_; apply jI; exact eI rfl; refine jjj rfl rfl (by omega) ?_; refine jz ?_; refine jjJ rfl ?_; refine jjB ?_; refine jjC ?_; apply jI; exact eI rfl; apply jJ; exact eI rfl; apply jJ; exact eI rfl; refine jz ?_; refine jjF ?_; refine jC rfl rfl rfl ⟨inferInstance, ?_⟩)
    exact ⟨0, by rw [if_neg he], rfl⟩
  · have hb := opE_boxes he
    have hdl := opE_len he
    have hel := endF_len d
    obtain ⟨b, rfl⟩ : ∃ b : Nat, boxes = b := ⟨boxes.toNat, by omega⟩
    (apply jI; exact eU rfl; refine ju rfl rfl ?_; refine ju rfl rfl ?_; apply jJ; exact eP rfl; apply jJ; exact eI rfl; refine jz ?_; refine jjB ?_; refine jjB ?_; refine jjC ?_; apply jI; exact eI rfl; refine jjk rfl rfl (by omega) ?_; refine jz ?_; refine jjK rfl ?_; refine jjG ?_; refine jjB ?_; refine jjC ?_; apply jI; exact eP rfl)
    refine jjQ (passes_rack bb _ _ ae ce (endF d).length b _ (by omega) (by omega)) rfl rfl ?_
    rintro _ w3 hS3 ⟨p, hp, rfl⟩
    (apply jI; exact eU rfl; refine ju rfl rfl ?_; refine ju rfl rfl ?_; apply jJ; exact eI rfl; apply jJ; exact eI rfl; refine jz ?_; refine jjB ?_; refine jjC ?_; apply jI; exact eI rfl; apply jJ; exact eI rfl; apply jJ; exact eI rfl; refine jz ?_; refine jjF ?_; refine jC rfl rfl rfl ⟨inferInstance, ?_⟩)
    exact ⟨p, by rw [if_pos he]; exact hp, by rw [he]; exact rfl⟩

/-- What Proof answers. -/
def ProofR (d : List Int) (boxes : Int) (v : Value) (w' : World) : Prop := ∃ (l : List (Int × Int)) (e : Int) (a : Option Addr) (c : Nat), v = .tuple #[.slice a l.length c, .int .i64 e] ∧ RowV w' true 2 (.slice a l.length c) (l.map encII) ∧
  ((opE d boxes ≠ 0 ∧ l = [] ∧ e = opE d boxes) ∨ (opE d boxes = 0 ∧ PassR boxes.toNat (endF d).length 0 ∧ l = [] ∧ e = 6) ∨ (opE d boxes = 0 ∧ ∃ p, PassR boxes.toNat (endF d).length (p + 1) ∧ l = (endF d).take (boxes.toNat ^ p) ∧ e = 0))
theorem Proof_rack : Ct Tryz.prog 17 [.slice a d.length c, .int .i64 boxes] w fun v w' => ProofR d boxes v w' := by
  refine Ct.ofW (by simp) ?_
  (refine jjB ?_; refine jjC ?_; apply jJ; exact eS rfl; apply jJ; exact eI rfl; refine jz ?_; refine jjB ?_; refine jjC ?_; apply jI; exact eS rfl; apply jI; exact eI rfl)
  refine jjQ (open_rack a c d boxes _ hl) rfl rfl ?_
  rintro _ w2 hS2 (⟨he, rfl⟩ | ⟨he, bb, bn, ae, ce, rfl, _, _, hA, hN, hE⟩)
  · (apply jI; exact eU rfl; refine ju rfl rfl ?_; refine ju rfl rfl ?_; apply jJ; exact eN rfl; apply jJ; exact eI rfl; refine jz ?_; refine jjB ?_; refine jjB ?_; refine jjC ?_; apply jI; exact eI rfl; refine jjj rfl rfl (by omega) ?_; refine jz ?_; refine jjJ rfl ?_; refine jjB ?_; refine jjC ?_; apply jI; exact eI rfl; apply jJ; exact eS rfl; apply jJ; exact eI rfl; refine jz ?_; refine jjF ?_; refine jC rfl rfl rfl ⟨inferInstance, ?_⟩)
    exact ⟨[], _, none, 0, rfl, RowV.nilS _ _ _ _ _, .inl ⟨he, rfl, rfl⟩⟩
  · have hb := opE_boxes he
    have hdl := opE_len he
    have hel := endF_len d
    obtain ⟨b, rfl⟩ : ∃ b : Nat, boxes = b := ⟨boxes.toNat, by omega⟩
    (apply jI; exact eU rfl; refine ju rfl rfl ?_; refine ju rfl rfl ?_; apply jJ; exact eP rfl; apply jJ; exact eI rfl; refine jz ?_; refine jjB ?_; refine jjB ?_; refine jjC ?_; apply jI; exact eI rfl; refine jjk rfl rfl (by omega) ?_; refine jz ?_; refine jjK rfl ?_; refine jjG ?_; refine jjB ?_; refine jjC ?_; apply jI; exact eP rfl)
    refine jjQ (passes_rack bb _ _ ae ce (endF d).length b _ (by omega) (by omega)) rfl rfl ?_
    rintro _ w3 hS3 ⟨p, hp, rfl⟩
    cases p with
    | zero =>
      (apply jI; exact eU rfl; refine ju rfl rfl ?_; refine ju rfl rfl ?_; apply jJ; exact eI rfl; apply jJ; exact eI rfl; refine jz ?_; refine jjB ?_; refine jjB ?_; refine jjC ?_; apply jI; exact eI rfl; refine jjh rfl rfl (by omega) ?_; refine jz ?_; refine jjJ rfl ?_; refine jjB ?_; refine jjC ?_; apply jJ; exact eS rfl; apply jJ; exact eI rfl; refine jz ?_; refine jjF ?_; refine jC rfl rfl rfl ⟨inferInstance, ?_⟩)
      exact ⟨[], _, none, 0, rfl, RowV.nilS _ _ _ _ _, .inr (.inl ⟨he, hp, rfl, rfl⟩)⟩
    | succ p =>
      have hpl := hp.2 p (by omega)
      (apply jI; exact eU rfl; refine ju rfl rfl ?_; refine ju rfl rfl ?_; apply jJ; exact eI rfl; apply jJ; exact eI rfl; refine jz ?_; refine jjB ?_; refine jjB ?_; refine jjC ?_; apply jI; exact eI rfl; refine jji rfl rfl (by omega) ?_; refine jz ?_; refine jjK rfl ?_; refine jjG ?_; refine jjB ?_; refine jjC ?_; apply jI; exact eP rfl; refine jw rfl ?_; refine jm ?_; refine jn rfl ?_; refine jm ?_; refine jn rfl ?_; refine jN rfl rfl rfl ?_; apply jI; exact eI rfl)
      rw [if_neg (Nat.succ_ne_zero p), Nat.add_sub_cancel]
      have hE3 : RowV w3 true 2 (.slice ae (endF d).length ce) ((endF d).map encII) := hE.ext hS3.ext
      refine Ops.sliceH (hi := b ^ p) hE3 rfl rfl rfl (by rw [List.length_map]; omega) ?_
      rintro _ hR ⟨a', c', rfl⟩
      (apply jJ; exact eS rfl; apply jJ; exact eI rfl; refine jz ?_; refine jjF ?_; refine jC rfl rfl rfl ⟨inferInstance, ?_⟩)
      have hlen : ((endF d).take (b ^ p)).length = b ^ p := by rw [List.length_take]; omega
      refine ⟨(endF d).take (b ^ p), 0, a', c', ?_, ?_, .inr (.inr ⟨he, p, hp, rfl, rfl⟩)⟩
      · rw [hlen]; exact rfl
      · rw [hlen, List.map_take]; exact hR
end
end Go.Proofs.YtpijeomnplmakaaGreatDoor
