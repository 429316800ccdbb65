/- Texts of the proof, part 6: Al3, PlK, PlL, Lg1, Eng29, Lg2, Eng18, Pc1, Rdy, Eng32, Ix1, Ix2, Wh1, PlM, LawWh. -/
import Derived.ChangeKeysEq
import Derived.Test.YtgnjjocafmofaaaGreatDoorSH5
/- The statements' examples: alive. -/
namespace Go.Proofs.YtgnjjocafmofaaaGreatDoor
open Go.RowKit

theorem sea_small {cs : List Ch} (h : txF cs = seaT) : SmallT cs := small_of_great (by rw [h]; kernel_rfl)
theorem smallS_lit {p : Pl} {a b c : ByteArray} (h : (Nat.ble a.size 1000 && (Nat.ble b.size 1000 && Nat.ble c.size 1000)) = true) : SmallS (p, a, b, c) := by
  simp only [Bool.and_eq_true, Nat.ble_eq] at h
  exact h
theorem small_of_right {x : Slp} (h : slipB x = true) : SmallS x := by
  simp only [slipB, wordsB, wordB, Bool.and_eq_true, Bool.or_eq_true, decide_eq_true_eq] at h
  exact ⟨by omega, by omega, by omega⟩
set_option maxHeartbeats 16000000 in
theorem alive_law3 (w : World) [hgs : At w 1 0 sidesC] [hgk : At w 0 0 kindsC] [hmx : MxI w] : Ct Tryz.prog 21 [] w fun v _ => v = .bool true := by
  refine Ct.ofW (by simp) ?_
  (refine jjB ?_; refine jjC ?_; apply jJ; exact eB rfl; refine jz ?_; refine jjB ?_; refine jjC ?_)
  refine jjQ (sea_law3 _) rfl rfl ?_
  rintro _ w1 hS1 ⟨a1, c1, cs1, rfl, hR1, hT1, hx1⟩
  have i1 := RowI.mk hR1
  skip
  refine jjQ (cut_law3 3 _) rfl rfl ?_
  rintro _ w2 hS2 rfl
  have hal := All_slip a1 c1 cs1 14 3 w2 (sea_small hx1) (by omega)
  rw [hx1, sea_ask3] at hal
  skip
  refine jjQ hal rfl rfl ?_
  rintro _ w3 hS3 ⟨lv, rfl, hOl⟩
  obtain ⟨la, lc, rfl⟩ := hOl.slice
  rw [List.length_map, sea_allR] at hOl ⊢
  (apply jI; exact eU rfl; refine ju rfl rfl ?_; refine ju rfl rfl ?_; apply jJ; exact eS rfl; apply jJ; exact eI rfl; refine jz ?_; refine jjB ?_; refine jjC ?_)
  refine jjQ (sea_law3 _) rfl rfl ?_
  rintro _ w4 hS4 ⟨a4, c4, cs4, rfl, hR4, hT4, hx4⟩
  have i4 := RowI.mk hR4
  skip
  refine jjQ (cut_law3 3 _) rfl rfl ?_
  rintro _ w5 hS5 rfl
  skip
  refine jjQ (at_law3 0 1 2 _) rfl rfl ?_
  rintro _ w6 hS6 rfl
  skip
  refine jjQ (at_law3 1 0 0 _) rfl rfl ?_
  rintro _ w7 hS7 rfl
  have hpt := Part_slip a4 c4 cs4 14 3 w7 (0, 1, 2) (1, 0, 0) (sea_small hx4) (by omega)
  rw [hx4, sea_part] at hpt
  skip
  refine jjQ hpt rfl rfl ?_
  rintro _ w8 hS8 ⟨mv, rfl, hOm⟩
  obtain ⟨ma, mc, rfl⟩ := hOm.slice
  have hml : (((allS seaT 3 14).take 8).drop 6).length = 2 := by rw [List.length_drop, List.length_take, sea_len]; rfl
  rw [List.length_map] at hOm ⊢
  have hmr := sea_right
  have hms := sea_miss
  generalize hM : ((allS seaT 3 14).take 8).drop 6 = M at *
  (apply jI; exact eU rfl; refine ju rfl rfl ?_; refine ju rfl rfl ?_; apply jJ; exact eS rfl; apply jJ; exact eI rfl; refine jz ?_; refine jjB ?_; refine jjC ?_)
  refine jjQ (sea_law3 _) rfl rfl ?_
  rintro _ w9 hS9 ⟨a9, c9, cs9, rfl, hR9, hT9, hx9⟩
  have i9 := RowI.mk hR9
  skip
  (refine jjS (cells := [.int .i64 0, .int .i64 0, .int .i64 0, .string wSea, .string wThe, .string wNo]) ?_ ?_; exact rfl)
  have hwh := Where_slip a9 c9 cs9 w9 ((0, 0, 0), wSea, wThe, wNo) (sea_small hx9) (smallS_lit rfl)
  rw [hx9, sea_where] at hwh
  skip
  refine jjQ hwh rfl rfl ?_
  rintro _ w10 hS10 ⟨pv, rfl, hOp⟩
  obtain ⟨pa, pc, rfl⟩ := hOp.slice
  (apply jI; exact eU rfl; refine ju rfl rfl ?_; refine ju rfl rfl ?_; apply jJ; exact eS rfl; apply jJ; exact eI rfl; refine jz ?_; refine jjB ?_; refine jjC ?_)
  refine jjQ (sea_law3 _) rfl rfl ?_
  rintro _ w11 hS11 ⟨a11, c11, cs11, rfl, hR11, hT11, hx11⟩
  have i11 := RowI.mk hR11
  skip
  refine jjQ (salt_law3 _) rfl rfl ?_
  rintro _ w12 hS12 ⟨ra, rc, rfl, hRr⟩
  have ir := RowI.mk hRr
  skip
  refine jjQ (at_law3 0 1 2 _) rfl rfl ?_
  rintro _ w13 hS13 rfl
  have hmv := Moved_slip a11 c11 cs11 w13 4 ra rc saltR (0, 1, 2) (sea_small hx11) (small_of_greatR (by kernel_rfl) salt_small)
  rw [hx11, salt_moved] at hmv
  skip
  refine jjQ hmv rfl rfl ?_
  rintro _ w14 hS14 rfl
  (apply jI; exact eU rfl; refine ju rfl rfl ?_; refine ju rfl rfl ?_)
  (apply jjR rfl; (intro _; first|exact eI rfl|exact eB rfl|exact eP rfl|exact eS rfl|exact eT rfl|exact eA rfl|exact eU rfl|exact eF rfl|exact eM rfl|exact eN rfl|exact rfl); exact rfl; exact rfl; exact rfl; exact rfl; intro b7 w_b7 hb_b7 hs_b7 hS_b7 hk_b7; have hA_b7 := Bk.of hk_b7)
  (apply jJ; exact eI rfl; refine jz ?_; refine jjB ?_; refine jjC ?_)
  refine jjQ (sea_law3 _) rfl rfl ?_
  rintro _ w15 hS15 ⟨a15, c15, cs15, rfl, hR15, hT15, hx15⟩
  have i15 := RowI.mk hR15
  skip
  refine jjQ (cut_law3 3 _) rfl rfl ?_
  rintro _ w16 hS16 rfl
  have hM1 : SmallSs M := ⟨by omega, fun x hx => small_of_right (hmr x hx)⟩
  have im : RowI w16 (.slice ma M.length mc) true 6 (M.map encSl) := ⟨(((((((((hOm.ext hS9.ext).ext hS10.ext).ext hS11.ext).ext hS12.ext).ext hS13.ext).ext hS14.ext).ext hS_b7.ext).ext hS15.ext).ext hS16.ext).row⟩
  have hmi := Missing_slip a15 c15 cs15 14 3 ma mc M w16 (sea_small hx15) (by omega) hM1
  rw [hx15, hms.2] at hmi
  have hms1 := hms.1
  generalize (missR seaT 14 3 M).1 = MP at *
  (apply jI; exact eS rfl)
  refine jjQ hmi rfl rfl ?_
  rintro _ w17 hS17 ⟨xv, rfl, hOx⟩
  obtain ⟨xa, xc, rfl⟩ := hOx.slice
  have e8 : (MP.map encPl).length = 8 := by rw [List.length_map, hms1]
  rw [e8] at hOx ⊢
  (apply jI; exact eU rfl; refine ju rfl rfl ?_; refine ju rfl rfl ?_; apply jJ; exact eS rfl; apply jJ; exact eI rfl; refine jz ?_; refine jjB ?_; refine jjC ?_)
  (refine jjS (cells := [.int .i64 0, .int .i64 0, .int .i64 0, .string wA, .string wNo, .string wNo]) ?_ ?_; exact rfl)
  skip
  (refine jjS (cells := [.int .i64 0, .int .i64 0, .int .i64 0, .string wB, .string wNo, .string wNo]) ?_ ?_; exact rfl)
  skip
  refine jjQ ((Order_slip _ ((0, 0, 0), wA, wNo, wNo) ((0, 0, 0), wB, wNo, wNo) (smallS_lit rfl) (smallS_lit rfl)).mono (R' := fun v _ => v = .tuple #[.int .i64 (-1), .int .i64 0]) fun v _ _ h => h.trans (by rw [sea_order])) rfl rfl ?_
  rintro _ w18 hS18 rfl
  (apply jI; exact eU rfl; refine ju rfl rfl ?_; refine ju rfl rfl ?_; apply jJ; exact eI rfl; apply jJ; exact eI rfl; refine jz ?_; refine jjB ?_; refine jjC ?_)
  refine jjQ (sea_law3 _) rfl rfl ?_
  rintro _ w19 hS19 ⟨a19, c19, cs19, rfl, hR19, hT19, hx19⟩
  have i19 := RowI.mk hR19
  skip
  refine jjQ (cut_law3 3 _) rfl rfl ?_
  rintro _ w20 hS20 rfl
  skip
  refine jjQ (at_law3 0 0 2 _) rfl rfl ?_
  rintro _ w21 hS21 rfl
  skip
  (refine jjS (cells := [.int .i64 0, .int .i64 0, .int .i64 2, .string wIs, .string wSea, .string wOld]) ?_ ?_; exact rfl)
  have hwr := Wrong_slip a19 c19 cs19 14 3 w21 ((0, 0, 2), wIs, wSea, wOld) (sea_small hx19) (by omega) (smallS_lit rfl)
  rw [hx19, sea_wrong] at hwr
  skip
  refine jjQ (hwr.mono (R' := fun v _ => v = .tuple #[.int .u8 4, .int .i64 0]) fun v _ _ h => h) rfl rfl ?_
  rintro _ w22 hS22 rfl
  (apply jI; exact eU rfl; refine ju rfl rfl ?_; refine ju rfl rfl ?_; apply jJ; exact eI rfl; apply jJ; exact eI rfl; refine jz ?_; refine jjB ?_; refine jjC ?_)
  (refine jjS (cells := [.int .i64 0, .int .i64 0, .int .i64 0, .string wA, .string wNo, .string wNo]) ?_ ?_; exact rfl)
  skip
  (refine jjS (cells := [.int .i64 0, .int .i64 0, .int .i64 0, .string wA, .string wNo, .string wNo]) ?_ ?_; exact rfl)
  skip
  refine Ops.buildSliceF (cells := [.int .i64 0, .int .i64 0, .int .i64 0, .string wA, .string wNo, .string wNo, .int .i64 0, .int .i64 0, .int .i64 0, .string wA, .string wNo, .string wNo]) rfl rfl rfl ?_
  intro b68 w23 hb68 hs68 hS23 hk68
  have i68 : RowI w23 (.slice (some ⟨b68, 0, none⟩) 2 2) true 6 ([((0, 0, 0), wA, wNo, wNo), ((0, 0, 0), wA, wNo, wNo)].map encSl) := ⟨Bk.rows (xs := [((0, 0, 0), wA, wNo, wNo), ((0, 0, 0), wA, wNo, wNo)].map encSl) hk68 (by simp [fitsV]) (by simp)⟩
  skip
  refine jjQ ((Twice_slip (some ⟨b68, 0, none⟩) 2 [((0, 0, 0), wA, wNo, wNo), ((0, 0, 0), wA, wNo, wNo)] _ ⟨by simp, fun x hx => by simp at hx; subst hx; exact smallS_lit rfl⟩).mono (R' := fun v w' => ∃ sv, v = .tuple #[sv, .int .i64 0] ∧ OwnL w' w23.heap.size 3 false 1 sv ([(1 : Int)].map intV)) fun v _ _ h => by rw [sea_twice] at h; exact h) rfl rfl ?_
  rintro _ w24 hS24 ⟨dv, rfl, hOd⟩
  obtain ⟨da, dc, rfl⟩ := hOd.slice
  (apply jI; exact eU rfl; refine ju rfl rfl ?_; refine ju rfl rfl ?_; apply jJ; exact eS rfl; apply jJ; exact eI rfl; refine jz ?_; refine jjB ?_)
  have hA7 : At w24 b7 0 [.int .i64 0, .int .i64 1, .int .i64 1] := inferInstance
  have hg24 : At w24 1 0 sidesC := inferInstance
  have hRp : RowV w24 true 3 (.slice pa 2 pc) ([((0 : Int), (0 : Int), (1 : Int)), (0, 1, 2)].map encPl) := (((((((((((((hOp.ext hS11.ext).ext hS12.ext).ext hS13.ext).ext hS14.ext).ext hS_b7.ext).ext hS15.ext).ext hS16.ext).ext hS17.ext).ext hS18.ext).ext hS19.ext).ext hS20.ext).ext hS21.ext).ext hS22.ext).row.ext (hS23.ext.trans hS24.ext)
  have hE24 : Ext w w24 := inferInstance
  refine W.keep0 [(1, .slice la 10 lc), (2, .int .i64 0), (3, .slice ma 2 mc), (4, .int .i64 0), (5, .slice pa 2 pc), (6, .int .i64 0), (7, .pointer (some ⟨b7, 0, none⟩)), (8, .int .i64 0), (9, .slice xa 8 xc), (10, .int .i64 0), (11, .int .i64 (-1)), (12, .int .i64 0), (13, .int .u8 4), (14, .int .i64 0), (15, .slice da 1 dc), (16, .int .i64 0)] ⟨eS rfl, eI rfl, by rw [← hml]; exact eS rfl, eI rfl, eS rfl, eI rfl, eP rfl, eI rfl, eS rfl, eI rfl, eI rfl, eI rfl, eI rfl, eI rfl, eS rfl, eI rfl, trivial⟩ fun s0 => ?_
  refine W.draw (fun w' => Ext w24 w') ?_
  intro v0 hv0
  (apply jjW 0; (decide +kernel); exact rfl; (exact inferInstance))
  refine jjQ (at_law3 0 0 2 _) rfl rfl ?_
  rintro _ v1 hv1 rfl
  refine jz ?_
  (apply jjW 1; (decide +kernel); exact rfl; (exact inferInstance))
  refine jjQ (made_ok _ (0, 0, 2) 3 (by omega) wIs wSea wOldOld sea_m002) rfl rfl ?_
  rintro _ v2 hv2 rfl
  refine jz ?_
  (refine jjV [2] ?_ ?_ ?_; (decide +kernel); (exact inferInstance); (((apply jjT; exact rfl; rintro w' hq; have := hq.toStep; apply jI; exact eB rfl; refine jz ?_; exact ⟨rfl, rfl⟩; refine jjU ?_))))
  (apply jjW 3; (decide +kernel); exact rfl; (exact inferInstance))
  (refine jT rfl rfl rfl ?_)
  refine jjQ (at_law3 0 1 0 _) rfl rfl ?_
  rintro _ v3 hv3 rfl
  refine jz ?_
  (apply jjW 4; (decide +kernel); exact rfl; (exact inferInstance))
  (refine jT rfl rfl rfl ?_)
  refine jjQ (made_ok _ (0, 1, 0) 1 (by omega) wOld wSeaIsOld wNo sea_m010l) rfl rfl ?_
  rintro _ v4 hv4 rfl
  refine jz ?_
  (refine jjV [5, 6, 7, 8, 9, 10, 11, 12, 13, 14, 15, 16, 17, 18, 19, 20, 21, 22, 23, 24, 25, 26, 27, 28, 29] ?_ ?_ ?_; (decide +kernel); (exact inferInstance); (((apply jjT; exact rfl; rintro w' hq; have := hq.toStep; apply jK rfl; exact eB rfl; refine jz ?_; exact ⟨rfl, rfl⟩; apply jjT; exact rfl; rintro w' hq; have := hq.toStep; apply jI; exact eB rfl; refine jz ?_; exact ⟨rfl, rfl⟩; apply jjT; exact rfl; rintro w' hq; have := hq.toStep; refine jT rfl rfl rfl ?_; apply jI; exact eI rfl; refine jz ?_; exact ⟨rfl, rfl⟩; apply jjT; exact rfl; rintro w' hq; have := hq.toStep; refine jT rfl rfl rfl ?_; refine ja rfl rfl ?_; refine jz ?_; exact ⟨rfl, rfl⟩; apply jjT; exact rfl; rintro w' hq; have := hq.toStep; apply jK rfl; exact eB rfl; refine jz ?_; exact ⟨rfl, rfl⟩; apply jjT; exact rfl; rintro w' hq; have := hq.toStep; apply jI; exact eB rfl; refine jz ?_; exact ⟨rfl, rfl⟩; apply jjT; exact rfl; rintro w' hq; have := hq.toStep; refine jT rfl rfl rfl ?_; apply jI; exact eS rfl; refine jz ?_; exact ⟨rfl, rfl⟩; apply jjT; exact rfl; rintro w' hq; have := hq.toStep; refine jT rfl rfl rfl ?_; refine jh rfl ?_; refine jz ?_; exact ⟨rfl, rfl⟩; apply jjT; exact rfl; rintro w' hq; have := hq.toStep; refine jT rfl rfl rfl ?_; refine ja rfl rfl ?_; refine jz ?_; exact ⟨rfl, rfl⟩; apply jjT; exact rfl; rintro w' hq; have := hq.toStep; apply jK rfl; exact eB rfl; refine jz ?_; exact ⟨rfl, rfl⟩; apply jjT; exact rfl; rintro w' hq; have := hq.toStep; apply jI; exact eB rfl; refine jz ?_; exact ⟨rfl, rfl⟩; apply jjT; exact rfl; rintro w' hq; have := hq.toStep; refine jT rfl rfl rfl ?_; apply jI; exact eI rfl; refine jz ?_; exact ⟨rfl, rfl⟩; apply jjT; exact rfl; rintro w' hq; have := hq.toStep; refine jT rfl rfl rfl ?_; refine ja rfl rfl ?_; refine jz ?_; exact ⟨rfl, rfl⟩; apply jjT; exact rfl; rintro w' hq; have := hq.toStep; apply jK rfl; exact eB rfl; refine jz ?_; exact ⟨rfl, rfl⟩; apply jjT; exact rfl; rintro w' hq; have := hq.toStep; apply jI; exact eB rfl; refine jz ?_; exact ⟨rfl, rfl⟩; apply jjT; exact rfl; rintro w' hq; have := hq.toStep; refine jT rfl rfl rfl ?_; apply jI; exact eS rfl; refine jz ?_; exact ⟨rfl, rfl⟩; apply jjT; exact rfl; rintro w' hq; have := hq.toStep; refine jT rfl rfl rfl ?_; refine jh rfl ?_; refine jz ?_; exact ⟨rfl, rfl⟩; apply jjT; exact rfl; rintro w' hq; have := hq.toStep; refine jT rfl rfl rfl ?_; refine ja rfl rfl ?_; refine jz ?_; exact ⟨rfl, rfl⟩; apply jjT; exact rfl; rintro w' hq; have := hq.toStep; apply jK rfl; exact eB rfl; refine jz ?_; exact ⟨rfl, rfl⟩; apply jjT; exact rfl; rintro w' hq; have := hq.toStep; apply jI; exact eB rfl; refine jz ?_; exact ⟨rfl, rfl⟩; apply jjT; exact rfl; rintro w' hq; have := hq.toStep; refine jT rfl rfl rfl ?_; apply jI; exact eI rfl; refine jz ?_; exact ⟨rfl, rfl⟩; apply jjT; exact rfl; rintro w' hq; have := hq.toStep; refine jT rfl rfl rfl ?_; refine ja rfl rfl ?_; refine jz ?_; exact ⟨rfl, rfl⟩; apply jjT; exact rfl; rintro w' hq; have := hq.toStep; apply jK rfl; exact eB rfl; refine jz ?_; exact ⟨rfl, rfl⟩; apply jjT; exact rfl; rintro w' hq; have := hq.toStep; apply jI; exact eB rfl; refine jz ?_; exact ⟨rfl, rfl⟩; apply jjT; exact rfl; rintro w' hq; have := hq.toStep; refine jT rfl rfl rfl ?_; apply jI; exact eS rfl; refine jz ?_; exact ⟨rfl, rfl⟩; refine jjU ?_))))
  (apply jjW 30; (decide +kernel); exact rfl; (exact inferInstance))
  (refine jT rfl rfl rfl ?_)
  refine jjQ (at_law3 0 0 1 _) rfl rfl ?_
  rintro _ v5 hv5 rfl
  refine jz ?_
  (apply jjW 31; (decide +kernel); exact rfl; (exact inferInstance))
  (refine jT rfl rfl rfl ?_)
  refine jjQ (at_law3 0 1 2 _) rfl rfl ?_
  rintro _ v6 hv6 rfl
  refine jz ?_
  (apply jjW 32; (decide +kernel); exact rfl; (exact inferInstance))
  (refine jT rfl rfl rfl ?_)
  refine Ops.buildSliceF (cells := [.int .i64 0, .int .i64 0, .int .i64 1, .int .i64 0, .int .i64 1, .int .i64 2]) rfl rfl rfl ?_
  intro b32 v7 hb32 hs32 hv7 hk32
  refine jz ?_
  have hR32 : RowV v7 true 3 (.slice (some ⟨b32, 0, none⟩) 2 2) ([((0 : Int), (0 : Int), (1 : Int)), (0, 1, 2)].map encPl) := Bk.rows (xs := [((0 : Int), (0 : Int), (1 : Int)), (0, 1, 2)].map encPl) hk32 (by simp [fitsV]) (by simp)
  have hRp7 : RowV v7 true 3 (.slice pa 2 pc) ([((0 : Int), (0 : Int), (1 : Int)), (0, 1, 2)].map encPl) := hRp.ext inferInstance
  (apply jjW 33; (decide +kernel); exact rfl; (exact inferInstance))
  (refine jT rfl rfl rfl ?_)
  refine jjQ ((same_places1 pa (some ⟨b32, 0, none⟩) pc 2 2 2 [(0, 0, 1), (0, 1, 2)] [(0, 0, 1), (0, 1, 2)] _ rfl rfl hRp7 hR32).mono (R' := fun v _ => v = .bool true) fun v _ _ h => h.trans (by rw [decide_eq_true rfl])) rfl rfl ?_
  rintro _ v8 hv8 rfl
  refine jz ?_
  (refine jjV [34, 35, 36, 37, 38, 39, 40] ?_ ?_ ?_; (decide +kernel); (exact inferInstance); (((apply jjT; exact rfl; rintro w' hq; have := hq.toStep; apply jK rfl; exact eB rfl; refine jz ?_; exact ⟨rfl, rfl⟩; apply jjT; exact rfl; rintro w' hq; have := hq.toStep; apply jI; exact eB rfl; refine jz ?_; exact ⟨rfl, rfl⟩; apply jjT; exact rfl; rintro w' hq; have := hq.toStep; refine jT rfl rfl rfl ?_; apply jI; exact eI rfl; refine jz ?_; exact ⟨rfl, rfl⟩; apply jjT; exact rfl; rintro w' hq; have := hq.toStep; refine jT rfl rfl rfl ?_; refine ja rfl rfl ?_; refine jz ?_; exact ⟨rfl, rfl⟩; apply jjT; exact rfl; rintro w' hq; have := hq.toStep; apply jK rfl; exact eB rfl; refine jz ?_; exact ⟨rfl, rfl⟩; apply jjT; exact rfl; rintro w' hq; have := hq.toStep; apply jI; exact eB rfl; refine jz ?_; exact ⟨rfl, rfl⟩; apply jjT; exact rfl; rintro w' hq; have := hq.toStep; refine jT rfl rfl rfl ?_; refine jO rfl rfl rfl rfl ?_; refine jz ?_; exact ⟨rfl, rfl⟩; refine jjU ?_))))
  (apply jjW 41; (decide +kernel); exact rfl; (exact inferInstance))
  (refine jT rfl rfl rfl ?_)
  refine jjQ (at_law3 0 1 1 _) rfl rfl ?_
  rintro _ v9 hv9 rfl
  refine jz ?_
  refine jjV [42] (by decide +kernel) inferInstance (jjT (v := .bool true) rfl (fun w' q1 => ?_) (jjU ?_)); (refine jT rfl rfl rfl ?_; refine Ops.eqlT (enc := encPl) (0, 1, 1) (0, 1, 1) rfl rfl ?_; rw [decide_eq_true rfl]; refine jz ?_; exact ⟨rfl, rfl⟩)
  (refine jjV [43, 44, 45, 46, 47, 48, 49, 50, 51, 52, 53, 54, 55, 56, 57, 58, 59, 60, 61, 62, 63, 64, 65, 66, 67, 68, 69, 70, 71, 72, 73, 74] ?_ ?_ ?_; (decide +kernel); (exact inferInstance); (((apply jjT; exact rfl; rintro w' hq; have := hq.toStep; apply jK rfl; exact eB rfl; refine jz ?_; exact ⟨rfl, rfl⟩; apply jjT; exact rfl; rintro w' hq; have := hq.toStep; apply jI; exact eB rfl; refine jz ?_; exact ⟨rfl, rfl⟩; apply jjT; exact rfl; rintro w' hq; have := hq.toStep; refine jT rfl rfl rfl ?_; apply jI; exact eI rfl; refine jz ?_; exact ⟨rfl, rfl⟩; apply jjT; exact rfl; rintro w' hq; have := hq.toStep; refine jT rfl rfl rfl ?_; refine ja rfl rfl ?_; refine jz ?_; exact ⟨rfl, rfl⟩; apply jjT; exact rfl; rintro w' hq; have := hq.toStep; apply jK rfl; exact eB rfl; refine jz ?_; exact ⟨rfl, rfl⟩; apply jjT; exact rfl; rintro w' hq; have := hq.toStep; apply jI; exact eB rfl; refine jz ?_; exact ⟨rfl, rfl⟩; apply jjT; exact rfl; rintro w' hq; have := hq.toStep; refine jT rfl rfl rfl ?_; apply jI; exact eS rfl; refine jz ?_; exact ⟨rfl, rfl⟩; apply jjT; exact rfl; rintro w' hq; have := hq.toStep; refine jT rfl rfl rfl ?_; refine jh rfl ?_; refine jz ?_; exact ⟨rfl, rfl⟩; apply jjT; exact rfl; rintro w' hq; have := hq.toStep; refine jT rfl rfl rfl ?_; refine ja rfl rfl ?_; refine jz ?_; exact ⟨rfl, rfl⟩; apply jjT; exact rfl; rintro w' hq; have := hq.toStep; apply jK rfl; exact eB rfl; refine jz ?_; exact ⟨rfl, rfl⟩; apply jjT; exact rfl; rintro w' hq; have := hq.toStep; apply jI; exact eB rfl; refine jz ?_; exact ⟨rfl, rfl⟩; apply jjT; exact rfl; rintro w' hq; have := hq.toStep; refine jT rfl rfl rfl ?_; apply jI; exact eI rfl; refine jz ?_; exact ⟨rfl, rfl⟩; apply jjT; exact rfl; rintro w' hq; have := hq.toStep; refine jT rfl rfl rfl ?_; refine ja rfl rfl ?_; refine jz ?_; exact ⟨rfl, rfl⟩; apply jjT; exact rfl; rintro w' hq; have := hq.toStep; apply jK rfl; exact eB rfl; refine jz ?_; exact ⟨rfl, rfl⟩; apply jjT; exact rfl; rintro w' hq; have := hq.toStep; apply jI; exact eB rfl; refine jz ?_; exact ⟨rfl, rfl⟩; apply jjT; exact rfl; rintro w' hq; have := hq.toStep; refine jT rfl rfl rfl ?_; apply jI; exact eI rfl; refine jz ?_; exact ⟨rfl, rfl⟩; apply jjT; exact rfl; rintro w' hq; have := hq.toStep; refine jT rfl rfl rfl ?_; refine ja rfl rfl ?_; refine jz ?_; exact ⟨rfl, rfl⟩; apply jjT; exact rfl; rintro w' hq; have := hq.toStep; apply jK rfl; exact eB rfl; refine jz ?_; exact ⟨rfl, rfl⟩; apply jjT; exact rfl; rintro w' hq; have := hq.toStep; apply jI; exact eB rfl; refine jz ?_; exact ⟨rfl, rfl⟩; apply jjT; exact rfl; rintro w' hq; have := hq.toStep; refine jT rfl rfl rfl ?_; apply jI; exact eI rfl; refine jz ?_; exact ⟨rfl, rfl⟩; apply jjT; exact rfl; rintro w' hq; have := hq.toStep; refine jT rfl rfl rfl ?_; refine ja rfl rfl ?_; refine jz ?_; exact ⟨rfl, rfl⟩; apply jjT; exact rfl; rintro w' hq; have := hq.toStep; apply jK rfl; exact eB rfl; refine jz ?_; exact ⟨rfl, rfl⟩; apply jjT; exact rfl; rintro w' hq; have := hq.toStep; apply jI; exact eB rfl; refine jz ?_; exact ⟨rfl, rfl⟩; apply jjT; exact rfl; rintro w' hq; have := hq.toStep; refine jT rfl rfl rfl ?_; apply jI; exact eI rfl; refine jz ?_; exact ⟨rfl, rfl⟩; apply jjT; exact rfl; rintro w' hq; have := hq.toStep; refine jT rfl rfl rfl ?_; refine ja rfl rfl ?_; refine jz ?_; exact ⟨rfl, rfl⟩; apply jjT; exact rfl; rintro w' hq; have := hq.toStep; apply jK rfl; exact eB rfl; refine jz ?_; exact ⟨rfl, rfl⟩; apply jjT; exact rfl; rintro w' hq; have := hq.toStep; apply jI; exact eB rfl; refine jz ?_; exact ⟨rfl, rfl⟩; apply jjT; exact rfl; rintro w' hq; have := hq.toStep; refine jT rfl rfl rfl ?_; apply jI; exact eI rfl; refine jz ?_; exact ⟨rfl, rfl⟩; apply jjT; exact rfl; rintro w' hq; have := hq.toStep; refine jT rfl rfl rfl ?_; refine ja rfl rfl ?_; refine jz ?_; exact ⟨rfl, rfl⟩; apply jjT; exact rfl; rintro w' hq; have := hq.toStep; apply jK rfl; exact eB rfl; refine jz ?_; exact ⟨rfl, rfl⟩; apply jjT; exact rfl; rintro w' hq; have := hq.toStep; apply jI; exact eB rfl; refine jz ?_; exact ⟨rfl, rfl⟩; apply jjT; exact rfl; rintro w' hq; have := hq.toStep; refine jT rfl rfl rfl ?_; apply jI; exact eS rfl; refine jz ?_; exact ⟨rfl, rfl⟩; refine jjU ?_))))
  (apply jjW 75; (decide +kernel); exact rfl; (exact inferInstance))
  (refine jT rfl rfl rfl ?_)
  refine Ops.buildSliceF (cells := [.int .i64 1]) rfl rfl rfl ?_
  intro b75 v10 hb75 hs75 hv10 hk75
  refine jz ?_
  have hR75 : RowV v10 false 1 (.slice (some ⟨b75, 0, none⟩) 1 1) ([(1 : Int)].map intV) := hk75.row (fun x hx => by simp at hx; subst hx; rfl) (by simp)
  have hRd : RowV v10 false 1 (.slice da 1 dc) ([(1 : Int)].map intV) := hOd.row.ext inferInstance
  (apply jjW 76; (decide +kernel); exact rfl; (exact inferInstance))
  (refine jT rfl rfl rfl ?_)
  refine jjQ ((same_ints3 da (some ⟨b75, 0, none⟩) dc 1 1 1 [1] [1] _ rfl rfl hRd hR75).mono (R' := fun v _ => v = .bool true) fun v _ _ h => h.trans (by rw [decide_eq_true rfl])) rfl rfl ?_
  rintro _ v11 hv11 rfl
  refine jz ?_
  (refine jjV [77, 78] ?_ ?_ ?_; (decide +kernel); (exact inferInstance); (((apply jjT; exact rfl; rintro w' hq; have := hq.toStep; apply jK rfl; exact eB rfl; refine jz ?_; exact ⟨rfl, rfl⟩; apply jjT; exact rfl; rintro w' hq; have := hq.toStep; apply jJ; exact eB rfl; refine jz ?_; exact ⟨rfl, rfl⟩; refine jjU ?_))))
  refine jjX (by decide +kernel) inferInstance ?_
  (refine jjF ?_; refine jB rfl rfl ⟨inferInstance, ?_⟩)
  exact rfl
end Go.Proofs.YtgnjjocafmofaaaGreatDoor

/- Plain law: which places have slips. -/
namespace Go.Proofs.YtgnjjocafmofaaaGreatDoor
open Go.RowKit

theorem wsT_at {t : Tx} {k : Nat} (hk : k < t.length) : wsT t k = t[k].2 := by rw [wsT, List.getD_eq_getElem?_getD, List.getElem?_eq_getElem hk, Option.getD_some]
theorem lineT_at {t : Tx} {k n : Nat} {q : Int} (hk : k < t.length) (hn : n < t[k].2.length) : lineT t ((k : Int), (n : Int), q) = some t[k].2[n] := by
  rw [lineT, if_pos ⟨by simp, by simp⟩]
  simp only [Int.toNat_natCast]
  rw [List.getElem?_eq_getElem hk, Option.bind_some, List.getElem?_eq_getElem hn]
theorem placeB_get {t : Tx} {p : Pl} (h : placeB t p = true) : ∃ (k n w : Nat) (hk : k < t.length) (hn : n < t[k].2.length) (hw : w < t[k].2[n].length), p = ((k : Int), (n : Int), (w : Int)) := by
  obtain ⟨l, hl, q, hq, hp⟩ := placeB_line h
  rw [lineT] at hl
  split at hl
  · rename_i hc
    obtain ⟨x, hx, hl⟩ := Option.bind_eq_some_iff.1 hl
    obtain ⟨hk, rfl⟩ := List.getElem?_eq_some_iff.1 hx
    obtain ⟨hn, rfl⟩ := List.getElem?_eq_some_iff.1 hl
    exact ⟨_, _, q, hk, hn, hq, by ext <;> simp <;> omega⟩
  · cases hl
theorem placeB_yes {t : Tx} {k n w : Nat} (hk : k < t.length) (hn : n < t[k].2.length) (hw : w < t[k].2[n].length) : placeB t ((k : Int), (n : Int), (w : Int)) = true := by
  rw [placeB, lineT_at hk hn]
  simp only [inB, Bool.and_eq_true, decide_eq_true_eq]
  omega
theorem placeB_mem {t : Tx} {p : Pl} : placeB t p = true ↔ p ∈ allP t t.length := by
  constructor
  · intro h
    obtain ⟨k, n, w, hk, hn, hw, rfl⟩ := placeB_get h
    refine mem_allP.2 ⟨k, hk, mem_runA.2 ⟨n, w, ?_, ?_, rfl⟩⟩
    · rw [wsT_at hk]; exact hn
    · simp only [wsT_at hk]; exact hw
  · intro h
    obtain ⟨k, hk, hm⟩ := mem_allP.1 h
    obtain ⟨n, w, hn, hw, rfl⟩ := mem_runA.1 hm
    simp only [wsT_at hk] at hn hw
    exact placeB_yes hk hn hw
theorem makeF_no_place {t : Tx} {side W : Int} {p : Pl} (h : makeF t side W p = none) : placeB t p = false := by
  cases hb : placeB t p with
  | false => rfl
  | true =>
    obtain ⟨k, hk, hm⟩ := mem_allP.1 (placeB_mem.1 hb)
    obtain ⟨i, hi, e⟩ := List.mem_iff_getElem.1 hm
    rw [makeF_yes hk (by rw [List.getElem?_eq_getElem hi, e])] at h
    cases h
theorem askE_yes {t : Tx} {wd side : Int} (h1 : textB t = true) (h2 : cutB wd side = true) : askE t wd side = 0 := by rw [askE, h1, h2]; rfl
end Go.Proofs.YtgnjjocafmofaaaGreatDoor

/- Plain law: a valid text has a word. -/
namespace Go.Proofs.YtgnjjocafmofaaaGreatDoor
open Go.RowKit

theorem allP_pos {t : Tx} (h : textB t = true) : 0 < (allP t t.length).length := by
  simp only [textB, Bool.and_eq_true, List.all_eq_true] at h
  obtain ⟨⟨h1, h2⟩, _⟩ := h
  have ht : 0 < t.length := by simp only [inB, Bool.and_eq_true, decide_eq_true_eq] at h1; omega
  have hc := h2 t[0] (List.getElem_mem ht)
  simp only [chapB, Bool.and_eq_true, List.all_eq_true] at hc
  obtain ⟨⟨_, h3⟩, h4⟩ := hc
  have hl : 0 < t[0].2.length := by simp only [inB, Bool.and_eq_true, decide_eq_true_eq] at h3; omega
  have hy := h4 t[0].2[0] (List.getElem_mem hl)
  simp only [lineB, Bool.and_eq_true] at hy
  have hw : 0 < t[0].2[0].length := by have := hy.1; simp only [inB, Bool.and_eq_true, decide_eq_true_eq] at this; omega
  exact List.length_pos_of_mem (placeB_mem.1 (placeB_yes ht hl hw))
end Go.Proofs.YtgnjjocafmofaaaGreatDoor

/- leaf: all places with their words; Words, PlaceOf. -/
namespace Go.Proofs.YtgnjjocafmofaaaGreatDoor
open Go.RowKit

abbrev encPW (x : Pl × ByteArray) : List Value := [encPl x.1, .string x.2]
structure BkF (bx bk : Nat) (a : Option Addr) (c : Nat) (cs : List Ch) (w : World) : Prop where
  bx : At w bx 0 [.pointer (some ⟨bk, 0, none⟩)]
  bk : At w bk 0 [.slice a cs.length c]
  row : RowV w true 2 (.slice a cs.length c) (cs.map encCh)
  tx : TextI w cs
set_option maxHeartbeats 4000000 in
theorem all1_leaf (bx bk : Nat) (a : Option Addr) (c : Nat) (cs : List Ch) (hs : SmallT cs) :
    Iter Tryz.prog 128 [.pointer (some ⟨bx, 0, none⟩)] (allW (txF cs) (txF cs).length) encPW (BkF bx bk a c cs) := by
  intro l J Jx M w hJ hJx hF hM1 hM2 hY h0
  have hs1 := hs.1
  have hF0 := hF 0 w h0
  have := hF0.bx
  have := hF0.bk
  refine Calls.ofW (by simp) ?_
  (refine jjB ?_; refine jjC ?_; refine jN rfl rfl rfl ?_; refine jw rfl ?_; refine jm ?_; refine jn rfl ?_; refine jm ?_; refine jn rfl ?_; refine jN rfl rfl rfl ?_; refine jh rfl ?_; apply jI; exact eI rfl; refine jz ?_; refine jjD ?_)
  refine W.keep0 [(0, .func (.yield l) #[] #[]), (13, .slice a cs.length c), (14, .int .i64 (cs.length : Int)), (15, .int .i64 ((0 : Nat) : Int))] ⟨eF rfl, eS rfl, eI rfl, eI rfl, trivial⟩ fun s0 => ?_
  refine W.loopG (16 :: 17 :: 18 :: 19 :: 4 :: 3 :: 20 :: 21 :: 22 :: 23 :: 24 :: 25 :: 26 :: 27 :: 5 :: 6 :: 28 :: 29 :: 30 :: 31 :: 32 :: 33 :: 34 :: 7 :: 8 :: 35 :: 36 :: 37 :: 38 :: 39 :: 40 :: 41 :: 42 :: 43 :: 44 :: 45 :: 15 :: []) (fun g s' w' => ∃ k : Nat, s' 15 = .int .i64 ((k : Nat) : Int) ∧ k ≤ cs.length ∧ g = cs.length - k ∧ J (allW (txF cs) k).length w') cs.length ⟨0, rfl, by omega, rfl, h0⟩ ?_
  rintro _ sd w' ⟨k, h15, hk, rfl, hJk⟩
  refine W.fix h15 ?_
  clear h15
  have hFk := hF _ _ hJk
  by_cases hkc : k < cs.length
  rotate_left
  · obtain rfl : k = cs.length := by omega
    (refine jjB ?_; refine jjC ?_; refine jja rfl rfl (by omega) ?_; refine jz ?_; refine jjB ?_; refine jjK rfl ?_; refine jjE ?_; refine jA rfl ⟨⟨_, rfl⟩, ?_⟩)
    refine .inl ?_
    rw [txF_len]; exact hJk
  have hsk := hs.2 _ (List.getElem_mem hkc)
  have hsl := hsk.1
  have hcl : (chW cs[k]).length = cs[k].2.2.2.length := by simp [chW]
  have hws := wsT_get hkc
  obtain ⟨ba, oa, rfl, hAk⟩ := hFk.row.place' (map_get hkc)
  have htk : k < (txF cs).length := by rw [txF_len]; exact hkc
  (refine jjB ?_; refine jjC ?_; refine jjZ rfl rfl (by omega) ?_; refine jz ?_; refine jjB ?_; refine jjJ rfl ?_; refine jjG ?_; refine jjB ?_; refine jjD ?_; refine jjB ?_; refine jjC ?_; apply jI; exact eI rfl)
  refine jH k rfl rfl rfl hkc ?_
  (refine jQ rfl rfl ?_)
  ((skip); refine jjY ?_; intro b4 w_b4 hb_b4 hs_b4 hS_b4 hk_b4; have hA_b4 := Bk.of hk_b4)
  (apply jJ; exact eI rfl)
  refine Ops.store rfl rfl rfl rfl rfl ?_
  intro wA hpA
  have hEA : Ext w' wA := hpA.ext hS_b4.ext (by omega)
  have hA4 : At wA b4 0 [.int .i64 cs[k].1, .slice cs[k].2.1 cs[k].2.2.2.length cs[k].2.2.1] := Bk.toAt (h := Bk.of hpA.new)
  have hJA := hJ _ _ _ hJk hEA
  (refine jz ?_; refine jjB ?_; refine jjC ?_; refine jm ?_; refine jn rfl ?_; refine jN rfl rfl rfl ?_; refine jh rfl ?_; apply jI; exact eI rfl; refine jz ?_; refine jjD ?_)
  refine W.keep [(0, .func (.yield l) #[] #[]), (13, .slice (some ⟨ba, oa, none⟩) cs.length c), (14, .int .i64 (cs.length : Int)), (15, .int .i64 ((k : Nat) : Int)), (3, .int .i64 ((k : Nat) : Int)), (21, .slice cs[k].2.1 cs[k].2.2.2.length cs[k].2.2.1), (22, .int .i64 (cs[k].2.2.2.length : Int)), (23, .int .i64 ((0 : Nat) : Int))] (D := (16 :: 17 :: 18 :: 19 :: 4 :: 3 :: 20 :: 21 :: 22 :: 23 :: 24 :: 25 :: 26 :: 27 :: 5 :: 6 :: 28 :: 29 :: 30 :: 31 :: 32 :: 33 :: 34 :: 7 :: 8 :: 35 :: 36 :: 37 :: 38 :: 39 :: 40 :: 41 :: 42 :: 43 :: 44 :: 45 :: 15 :: [])) (sO := upds s0 _) (by ((refine Same.upd rfl ?_; refine Same.upd rfl ?_; refine Same.upd rfl ?_; refine Same.upd rfl ?_; refine Same.upd rfl ?_; refine Same.upd rfl ?_; refine Same.upd rfl ?_; refine Same.upd rfl ?_; refine Same.upd rfl ?_; refine Same.upd rfl ?_; refine Same.upd rfl ?_; exact Same.ovN))) ⟨eF rfl, eS rfl, eI rfl, eI rfl, eI rfl, eS rfl, eI rfl, eI rfl, trivial⟩ fun s1 hs1' => ?_
  refine W.loopG (24 :: 25 :: 26 :: 27 :: 5 :: 6 :: 28 :: 29 :: 30 :: 31 :: 32 :: 33 :: 34 :: 7 :: 8 :: 35 :: 36 :: 37 :: 38 :: 39 :: 40 :: 41 :: 42 :: 43 :: 44 :: 23 :: []) (fun g s' V => ∃ n : Nat, s' 23 = .int .i64 ((n : Nat) : Int) ∧ n ≤ cs[k].2.2.2.length ∧ g = cs[k].2.2.2.length - n ∧ J ((allW (txF cs) k).length + ((chW cs[k]).take n).flatten.length) V) cs[k].2.2.2.length ⟨0, rfl, by omega, rfl, hJA⟩ ?_
  rintro _ sd2 V ⟨n, h23, hn, rfl, hJn⟩
  refine W.fix h23 ?_
  clear h23
  have hFn := hF _ _ hJn
  by_cases hnl : n < cs[k].2.2.2.length
  rotate_left
  · obtain rfl : n = cs[k].2.2.2.length := by omega
    rw [← hcl, List.take_length, ← hws, ← allW_succ] at hJn
    (refine jjB ?_; refine jjC ?_; refine jja rfl rfl (by omega) ?_; refine jz ?_; refine jjB ?_; refine jjK rfl ?_; refine jjE ?_; refine jjC ?_; refine jY rfl rfl (by omega) ?_; apply jI; exact eI rfl; refine jz ?_)
    exact ⟨rfl, by ((refine Same.upd rfl ?_; refine Same.upd rfl ?_; refine Same.upd rfl ?_; refine Same.upd rfl ?_; refine Same.ovN' rfl ?_; assumption)), cs.length - (k + 1), by omega, k + 1, congrArg (Value.int .i64) (by omega), by omega, rfl, hJn⟩
  have hsn := hsk.2 _ (List.getElem_mem hnl)
  have hsq := hsn.1
  have hnc : n < (chW cs[k]).length := by rw [hcl]; exact hnl
  have hcn : (chW cs[k])[n] = cs[k].2.2.2[n].2.2 := by simp [chW]
  have hnx := flat_len_succ hnc
  rw [hcn] at hnx
  have iL := hFn.tx.line hkc
  (refine jjB ?_; refine jjC ?_; refine jjZ rfl rfl (by omega) ?_; refine jz ?_; refine jjB ?_; refine jjJ rfl ?_; refine jjG ?_; refine jjB ?_; refine jjD ?_; refine jjB ?_; refine jjC ?_; apply jI; exact eI rfl; refine jF rfl rfl rfl (map_get (by omega)) ?_; intro _ _ _; refine jQ rfl rfl ?_; apply jJ; exact eI rfl; apply jJ; exact eS rfl; refine jz ?_; refine jjB ?_; refine jjC ?_; apply jI; exact eS rfl; refine jh rfl ?_; apply jI; exact eI rfl; refine jz ?_; refine jjD ?_)
  refine W.keep [(0, .func (.yield l) #[] #[]), (13, .slice (some ⟨ba, oa, none⟩) cs.length c), (14, .int .i64 (cs.length : Int)), (15, .int .i64 ((k : Nat) : Int)), (3, .int .i64 ((k : Nat) : Int)), (21, .slice cs[k].2.1 cs[k].2.2.2.length cs[k].2.2.1), (22, .int .i64 (cs[k].2.2.2.length : Int)), (23, .int .i64 ((n : Nat) : Int)), (5, .int .i64 ((n : Nat) : Int)), (28, .slice cs[k].2.2.2[n].1 cs[k].2.2.2[n].2.2.length cs[k].2.2.2[n].2.1), (29, .int .i64 (cs[k].2.2.2[n].2.2.length : Int)), (30, .int .i64 ((0 : Nat) : Int))] (D := (24 :: 25 :: 26 :: 27 :: 5 :: 6 :: 28 :: 29 :: 30 :: 31 :: 32 :: 33 :: 34 :: 7 :: 8 :: 35 :: 36 :: 37 :: 38 :: 39 :: 40 :: 41 :: 42 :: 43 :: 44 :: 23 :: [])) (sO := upds s1 _) (by ((refine Same.upd rfl ?_; refine Same.upd rfl ?_; refine Same.upd rfl ?_; refine Same.upd rfl ?_; refine Same.upd rfl ?_; refine Same.upd rfl ?_; refine Same.upd rfl ?_; refine Same.upd rfl ?_; refine Same.upd rfl ?_; refine Same.upd rfl ?_; exact Same.ovN))) ⟨eF rfl, eS rfl, eI rfl, eI rfl, eI rfl, eS rfl, eI rfl, eI rfl, eI rfl, eS rfl, eI rfl, eI rfl, trivial⟩ fun s2 hs2' => ?_
  refine W.loopG (31 :: 32 :: 33 :: 34 :: 7 :: 8 :: 35 :: 36 :: 37 :: 38 :: 39 :: 40 :: 41 :: 42 :: 43 :: 30 :: []) (fun g s' V => ∃ q : Nat, s' 30 = .int .i64 ((q : Nat) : Int) ∧ q ≤ cs[k].2.2.2[n].2.2.length ∧ g = cs[k].2.2.2[n].2.2.length - q ∧ J ((allW (txF cs) k).length + (((chW cs[k]).take n).flatten.length + q)) V) cs[k].2.2.2[n].2.2.length ⟨0, rfl, by omega, rfl, hJn⟩ ?_
  rintro _ sd3 V2 ⟨q, h30, hq, rfl, hJq⟩
  refine W.fix h30 ?_
  clear h30
  have hFq := hF _ _ hJq
  by_cases hql : q < cs[k].2.2.2[n].2.2.length
  rotate_left
  · obtain rfl : q = cs[k].2.2.2[n].2.2.length := by omega
    (refine jjB ?_; refine jjC ?_; refine jja rfl rfl (by omega) ?_; refine jz ?_; refine jjB ?_; refine jjK rfl ?_; refine jjE ?_; refine jjC ?_; refine jY rfl rfl (by omega) ?_; apply jI; exact eI rfl; refine jz ?_)
    exact ⟨rfl, by ((refine Same.upd rfl ?_; refine Same.upd rfl ?_; refine Same.upd rfl ?_; refine Same.upd rfl ?_; refine Same.ovN' rfl ?_; assumption)), cs[k].2.2.2.length - (n + 1), by omega, n + 1, congrArg (Value.int .i64) (by omega), by omega, rfl, by rw [hnx]; exact hJq⟩
  have hqc : q < ((wsT (txF cs) k)[n]'(by rw [hws]; exact hnc)).length := by simp only [hws, hcn]; exact hql
  have hall := allW_at htk (by rw [hws]; exact hnc) hqc
  simp only [hws, hcn] at hall
  have iW := hFq.tx.word hkc hnl
  (refine jjB ?_; refine jjC ?_; refine jjZ rfl rfl (by omega) ?_; refine jz ?_; refine jjB ?_; refine jjJ rfl ?_; refine jjG ?_; refine jjB ?_; refine jjD ?_; refine jjB ?_; refine jjC ?_; apply jI; exact eI rfl; refine jF rfl rfl rfl (map_get (by omega)) ?_; intro _ _ _; refine jQ rfl rfl ?_; apply jJ; exact eI rfl; apply jJ; exact eT rfl; refine jz ?_; refine jjB ?_; refine jjC ?_; apply jI; exact eF rfl; apply jI; exact eI rfl; apply jI; exact eI rfl; apply jI; exact eI rfl)
  (refine jjS (cells := [.int .i64 (k : Int), .int .i64 (n : Int), .int .i64 (q : Int)]) ?_ ?_; exact rfl)
  (apply jI; exact eT rfl)
  refine Ops.yield (hY _ _ _ hall hJq) rfl rfl ?_
  rintro e V3 (⟨rfl, hJ3, hFr⟩ | ⟨rfl, hJx3⟩)
  · refine ⟨_, rfl, ?_⟩
    (refine jp rfl ?_; refine jz ?_; refine jjK rfl ?_; refine jjG ?_; refine jjC ?_; refine jY rfl rfl (by omega) ?_; apply jI; exact eI rfl; refine jz ?_)
    exact ⟨rfl, by ((refine Same.upd rfl ?_; refine Same.upd rfl ?_; refine Same.upd rfl ?_; refine Same.upd rfl ?_; refine Same.upd rfl ?_; refine Same.upd rfl ?_; refine Same.upd rfl ?_; refine Same.upd rfl ?_; refine Same.upd rfl ?_; refine Same.upd rfl ?_; refine Same.upd rfl ?_; refine Same.upd rfl ?_; refine Same.upd rfl ?_; refine Same.upd rfl ?_; refine Same.upd rfl ?_; refine Same.upd rfl ?_; refine Same.upd rfl ?_; exact Same.ovN)), cs[k].2.2.2[n].2.2.length - (q + 1), by omega, q + 1, congrArg (Value.int .i64) (by omega), by omega, rfl, hJ3⟩
  · refine ⟨_, rfl, ?_⟩
    (refine jq rfl ?_; refine jz ?_; refine jjJ rfl ?_; refine jjF ?_; refine jA rfl ⟨⟨_, rfl⟩, ?_⟩)
    exact .inr ⟨_, (List.getElem?_eq_some_iff.1 hall).1, hJx3⟩
theorem all_leaf (bk : Nat) (w : World) : Ct Tryz.prog 90 [.pointer (some ⟨bk, 0, none⟩)] w fun v w' => ∃ bx, v = .func (.func 128) #[] ([.pointer (some ⟨bx, 0, none⟩)] : List Value).toArray ∧ w.heap.size ≤ bx ∧ At w' bx 0 [.pointer (some ⟨bk, 0, none⟩)] := by
  refine Ct.ofW (by simp) ?_
  (refine jjB ?_; refine jjC ?_)
  (refine jy rfl ?_; intro bx w_bx hb_bx hs_bx hS_bx hk_bx; have hA_bx := At.ofBlock hk_bx)
  (apply jJ; exact rfl; refine jz ?_; refine jjB ?_; refine jjC ?_; refine jv ?_; apply jJ; exact eF rfl; refine jz ?_; refine jjF ?_; refine jB rfl rfl ⟨inferInstance, ?_⟩)
  exact ⟨bx, rfl, by omega, inferInstance⟩
end Go.Proofs.YtgnjjocafmofaaaGreatDoor

/- The proof engine, part 29: two results in variables, where marks lie. -/
namespace Go.Proofs.YtgnjjocafmofaaaGreatDoor
open Go.RowKit

theorem fin2CCM {P : Program} {fn : Func} {n N t ty b size bytes t1 ty1 b1 : Nat} {R : Value → World → Prop} {s : Sl} {ds : List Deferred} {w : World} {cs : List Value} {dd dd1 : TypeDesc} {z v1 : Value} {e e1 : Nat} (hf : fn.results = #[.cell t ty, .cell t1 ty1]) (ht : Nat.blt t n = true) (h1 : Nat.blt t1 n = true)
    (hs : s t = .pointer (some ⟨b, 0, none⟩)) (hs1 : s t1 = .pointer (some ⟨b1, 0, none⟩)) (hb : Bk w b cs e) (hb1 : Bk w b1 [v1] e1) [hu : TU P ty dd] (hag : TypeDesc.isAgg dd = true) [hz : TS P ty z size bytes] (hl : cs.length = size) [hu1 : TU P ty1 dd1] (hag1 : TypeDesc.isAgg dd1 = false) (hm : Mks N w ds)
    (h : ∀ w', Grow N w w' → R (.tuple #[.agg cs.toArray, v1]) w') : finM P fn n N R s ds w := by
  unfold finM
  refine ⟨hm, fun w' g => ⟨.tuple #[.agg cs.toArray, v1], ?_, h w' g⟩⟩
  have e0 : (mkA n s []).tmps[t]?.getD undef = .pointer (some ⟨b, 0, none⟩) := by
    rw [mkA_getElem?, if_pos (by simpa using ht)]; exact hs
  have e1 : (mkA n s []).tmps[t1]?.getD undef = .pointer (some ⟨b1, 0, none⟩) := by
    rw [mkA_getElem?, if_pos (by simpa using h1)]; exact hs1
  have hA := Bk.toAt (h := hb.grow g)
  have r0 := run_loadVar_agg (P := P) (t := ty) (w := w') (b := b) (o := 0) hu hag hz (cs := cs) hl (fun i v hv => by have := hA.h i v hv; simpa using this)
  have hc1 : w'.cell? ⟨b1, 0, none⟩ = some v1 := Bk.cell1 (hb1.grow g)
  have r1 := run_loadVar_cell (P := P) (w := w') hu1 hag1 hc1
  simp [results, hf, e0, e1, asAddr, r0, r1]
end Go.Proofs.YtgnjjocafmofaaaGreatDoor

/- leaf: Words, PlaceOf. -/
namespace Go.Proofs.YtgnjjocafmofaaaGreatDoor
open Go.RowKit

def wordsR (t : Tx) : Int × Int := if textB t then ((allW t t.length).length, 0) else (0, 10)
theorem allW_small {cs : List Ch} (ht : textB (txF cs) = true) : (allW (txF cs) (txF cs).length).length ≤ 600 := by
  have h := allS_len (side := 1) (wd := 12) ht
  rw [allS, List.length_map] at h
  rw [allW_len]; exact h
section
variable (a : Option Addr) (c : Nat) (cs : List Ch) (w : World) [hrow : RowI w (.slice a cs.length c) true 2 (cs.map encCh)] [hT : TextI w cs]
set_option maxHeartbeats 2000000 in
theorem Words_leaf (hs : SmallT cs) : Ct Tryz.prog 46 [.agg #[.slice a cs.length c]] w fun v _ => v = .tuple #[.int .i64 (wordsR (txF cs)).1, .int .i64 (wordsR (txF cs)).2] := by
  refine Ct.ofWM (by simp) ?_
  (refine jjB ?_; refine jjC ?_)
  (refine jy rfl ?_; intro b1 w_b1 hb_b1 hs_b1 hS_b1 hk_b1; have hA_b1 := At.ofBlock hk_b1)
  (apply jJ; exact eI rfl; apply jJ; exact eI rfl; refine jz ?_; refine jjB ?_; refine jjC ?_; refine jO rfl rfl rfl rfl ?_)
  obtain ⟨B, hB⟩ : ∃ B, textB (txF cs) = B := ⟨_, rfl⟩
  refine jjQ ((open_leaf a c cs _ hs).mono fun v _ _ h => by rw [hB] at h; exact h) rfl rfl ?_
  rintro _ w2 hS2 ⟨o, rfl, ho⟩
  have hE2 : Ext w w2 := inferInstance
  rw [wordsR, hB]
  cases B with
  | false =>
    (apply jI; exact eU rfl; refine ju rfl rfl ?_; refine ju rfl rfl ?_; apply jJ; exact rfl; apply jJ; exact eI rfl; refine jz ?_; refine jjB ?_; refine jjB ?_; refine jjC ?_; apply jI; exact eI rfl; refine jc rfl rfl ?_; refine jz ?_; refine jjJ rfl ?_; refine jjB ?_; refine jjC ?_; apply jI; exact eI rfl; apply jJ; exact eI rfl; apply jJ; exact eI rfl; refine jz ?_; refine jjF ?_)
    refine fin2M rfl rfl rfl inferInstance fun w' g => ⟨hE2.ofGrow g (Nat.le_refl _), rfl⟩
  | true =>
  obtain ⟨bk, hbk, rfl, hAk⟩ := ho rfl
  have hal := allW_small hB
  rw [if_pos rfl]
  (apply jI; exact eU rfl; refine ju rfl rfl ?_; refine ju rfl rfl ?_; apply jJ; exact eP rfl; apply jJ; exact eI rfl; refine jz ?_; refine jjB ?_; refine jjB ?_; refine jjC ?_; apply jI; exact eI rfl; refine jc rfl rfl ?_; refine jz ?_; refine jjK rfl ?_; refine jjG ?_; refine jjB ?_; refine jjC ?_)
  (apply jjR rfl; (intro _; first|exact eI rfl|exact eB rfl|exact eP rfl|exact eS rfl|exact eT rfl|exact eA rfl|exact eU rfl|exact eF rfl|exact eM rfl|exact eN rfl|exact rfl); exact rfl; exact rfl; exact rfl; exact rfl; intro b6 w_b6 hb_b6 hs_b6 hS_b6 hk_b6; have hA_b6 := Bk.of hk_b6)
  (refine jz ?_; refine jjB ?_; refine jjB ?_; refine jjC ?_; apply jI; exact eP rfl)
  refine jjQ (all_leaf bk _) rfl rfl ?_
  rintro _ w7 hS7 ⟨bx, rfl, hbx, hAx⟩
  (refine jz ?_; refine jjD ?_)
  have hE7 : Ext w w7 := inferInstance
  have zz := hE7.size
  have z2 := hE2.size
  have z6 := hS_b6.size
  have z7 := hS7.size
  have hB6 : Bk w7 b6 [.int .i64 0] 3 := inferInstance
  have hAk7 : At w7 bk 0 [.slice a cs.length c] := (hAk.ext hS_b6.ext).ext hS7.ext
  have hlk := hAk.lt
  have hlx := hAx.lt
  refine W.range w.heap.size (allW (txF cs) (txF cs).length) encPW (all1_leaf bx bk a c cs hs) rfl (fun _ => rfl) trivial inferInstance hE7.size
    (fun i V => Ext w V ∧ w7.heap.size ≤ V.heap.size ∧ Bk V b6 [.int .i64 ((i : Nat) : Int)] 3 ∧ At V bx 0 [.pointer (some ⟨bk, 0, none⟩)] ∧ At V bk 0 [.slice a cs.length c])
    (fun _ _ _ => False) ?hJ (fun _ _ _ _ h _ => h) ?hF ?h0 (fun x s' _ => s' 6 = .pointer (some ⟨b6, 0, none⟩)) (fun _ _ _ _ h _ => h) ?hassign ?hbody ?hdone (fun _ _ _ _ _ _ _ h => h.elim)
  case hJ =>
    rintro i V V' ⟨h1, h2, h3, h4, h5⟩ g
    exact ⟨h1.ofGrow g zz, Nat.le_trans h2 g.size, h3.grow g, h4.grow g, h5.grow g⟩
  case hF =>
    rintro i V ⟨h1, h2, h3, h4, h5⟩
    exact ⟨h2, h4, h5, hrow.h.ext h1, hT.ext h1⟩
  case h0 => exact ⟨hE7, Nat.le_refl _, hB6, hAx, hAk7⟩
  case hassign =>
    intro l i x V hx hJ hl hr
    (refine jjG ?_)
    exact ⟨rfl, Tr.refl _, Fr.refl _ _, hJ, rfl⟩
  case hbody =>
    rintro l i x s' V hx ⟨h1, h2, h3, h4, h5⟩ ha6 hl hr
    have hlt := (List.getElem?_eq_some_iff.1 hx).1
    refine W.fix (d := 6) ha6 ?_
    (refine jjD ?_; refine jjC ?_; refine jN rfl rfl rfl ?_; refine jY rfl rfl (by omega) ?_)
    refine Ops.store rfl rfl rfl rfl rfl ?_
    intro V2 hp2
    (refine jz ?_)
    refine ⟨hp2.tr ⟨_, h3.h, rfl⟩, hp2.frS (by omega), hp2.ext h1 (by omega), by rw [hp2.size]; exact h2, ?_, hp2.at_ h4 (by omega), hp2.at_ h5 (by omega)⟩
    have e : (((i + 1 : Nat) : Nat) : Int) = (i : Int) + 1 := by omega
    rw [e]; exact ⟨hp2.new⟩
  case hdone =>
    rintro ds' V hmk htr ⟨h1, h2, h3, h4, h5⟩
    (refine jjB ?_; refine jjC ?_; refine jN rfl rfl rfl ?_; apply jJ; exact eI rfl; apply jJ; exact eI rfl; refine jz ?_; refine jjF ?_)
    refine fin2M rfl rfl rfl hmk fun w' g => ⟨h1.ofGrow g (Nat.le_refl _), rfl⟩
set_option maxHeartbeats 4000000 in
theorem PlaceOf_leaf (hs : SmallT cs) (ht : textB (txF cs) = true) (m : Nat) (p : Pl) (hm : (allP (txF cs) (txF cs).length)[m]? = some p) : Ct Tryz.prog 53 [.agg #[.slice a cs.length c], .int .i64 (m : Int)] w fun v _ => v = .tuple #[encPl p, .int .i64 0] := by
  have hml := (List.getElem?_eq_some_iff.1 hm).1
  have hal := allW_small ht
  have hll := allW_len (txF cs) (txF cs).length
  refine Ct.ofWM (by simp) ?_
  (refine jjB ?_; refine jjC ?_)
  (refine jy rfl ?_; intro b2 w_b2 hb_b2 hs_b2 hS_b2 hk_b2; have hA_b2 := At.ofBlock hk_b2)
  skip
  (refine jy rfl ?_; intro b3 w_b3 hb_b3 hs_b3 hS_b3 hk_b3; have hA_b3 := At.ofBlock hk_b3)
  ((skip); refine jjY ?_; intro b4 w_b4 hb_b4 hs_b4 hS_b4 hk_b4; have hA_b4 := Bk.of hk_b4)
  ((skip); refine jjY ?_; intro b5 w_b5 hb_b5 hs_b5 hS_b5 hk_b5; have hA_b5 := Bk.of hk_b5)
  (refine jz ?_; refine jjB ?_; refine jjC ?_; refine jO rfl rfl rfl rfl ?_)
  refine jjQ ((open_leaf a c cs _ hs).mono fun v _ _ h => by rw [ht] at h; exact h) rfl rfl ?_
  rintro _ w6 hS6 ⟨o, rfl, ho⟩
  obtain ⟨bk, hbk, rfl, hAk⟩ := ho rfl
  rw [if_pos rfl]
  (apply jI; exact eU rfl; refine ju rfl rfl ?_; refine ju rfl rfl ?_; apply jJ; exact eP rfl; apply jJ; exact eI rfl; refine jz ?_; refine jjB ?_; refine jjB ?_; refine jjC ?_; apply jI; exact eI rfl; refine jjk rfl rfl (by omega) ?_; refine jz ?_; refine jjK rfl ?_; refine jjG ?_; refine jjB ?_; refine jjB ?_; refine jjC ?_; apply jI; exact eP rfl)
  refine jjQ (all_leaf bk _) rfl rfl ?_
  rintro _ w7 hS7 ⟨bx, rfl, hbx, hAx⟩
  have hE7 : Ext w w7 := inferInstance
  have zz := hE7.size
  have z2 := hS_b2.size
  have z3 := hS_b3.size
  have z4 := hS_b4.size
  have z5 := hS_b5.size
  have z6 := hS6.size
  have z7 := hS7.size
  have hk3 : Bk w_b3 b3 [.int .i64 (m : Int)] 3 := Bk.of hk_b3
  have hB3 : Bk w7 b3 [.int .i64 (m : Int)] 3 := ((((hk3.ext hS_b4.ext).ext hS_b5.ext).ext hS6.ext).ext hS7.ext)
  have hB4 : Bk w7 b4 [.int .i64 0, .int .i64 0, .int .i64 0] 43 := inferInstance
  have hB5 : Bk w7 b5 [.int .i64 0] 32 := inferInstance
  have hAk7 : At w7 bk 0 [.slice a cs.length c] := hAk.ext hS7.ext
  have hlk := hAk.lt
  have hlx := hAx.lt
  (refine jz ?_; refine jjD ?_)
  refine W.range w.heap.size (allW (txF cs) (txF cs).length) encPW (all1_leaf bx bk a c cs hs) rfl (fun _ => rfl) trivial inferInstance hE7.size
    (fun i V => Ext w V ∧ w7.heap.size ≤ V.heap.size ∧ (i ≤ m ∧ Bk V b3 [.int .i64 ((m : Int) - (i : Int))] 3) ∧ (∃ u1 u2 u3, Bk V b4 [.int .i64 u1, .int .i64 u2, .int .i64 u3] 43) ∧ (∃ u, Bk V b5 [.int .i64 u] 32) ∧ At V bx 0 [.pointer (some ⟨bk, 0, none⟩)] ∧ At V bk 0 [.slice a cs.length c])
    (fun cc _ V => cc = .ret ∧ Ext w V ∧ Bk V b4 (encPl p).cells.toList 43 ∧ Bk V b5 [.int .i64 0] 32) ?hJ ?hJx ?hF ?h0 (fun x s' V => ∃ b, s' 3 = .pointer (some ⟨b3, 0, none⟩) ∧ s' 4 = .pointer (some ⟨b4, 0, none⟩) ∧ s' 5 = .pointer (some ⟨b5, 0, none⟩) ∧ s' 8 = .pointer (some ⟨b, 0, none⟩) ∧ Bk V b (encPl x.1).cells.toList 43) (fun x s V V' ⟨b, h1, h2, h3, h4, h5⟩ g => ⟨b, h1, h2, h3, h4, h5.grow g⟩) ?hassign ?hbody ?hdone ?hstop
  case hJ =>
    rintro i V V' ⟨h1, h2, ⟨hi, h3⟩, ⟨u1, u2, u3, h4⟩, ⟨u, h5⟩, h6, h7⟩ g
    exact ⟨h1.ofGrow g zz, Nat.le_trans h2 g.size, ⟨hi, h3.grow g⟩, ⟨u1, u2, u3, h4.grow g⟩, ⟨u, h5.grow g⟩, h6.grow g, h7.grow g⟩
  case hJx =>
    rintro cc i V V' ⟨h0, h1, h2, h3⟩ g
    exact ⟨h0, h1.ofGrow g zz, h2.grow g, h3.grow g⟩
  case hF =>
    rintro i V ⟨h1, h2, h3, h4, h5, h6, h7⟩
    exact ⟨h2, h6, h7, hrow.h.ext h1, hT.ext h1⟩
  case h0 => exact ⟨hE7, Nat.le_refl _, ⟨Nat.zero_le _, by rw [show (m : Int) - ((0 : Nat) : Int) = (m : Int) by omega]; exact hB3⟩, ⟨_, _, _, hB4⟩, ⟨_, hB5⟩, hAx, hAk7⟩
  case hassign =>
    rintro l i x V hx ⟨h1, h2, ⟨hi, h3⟩, ⟨u1, u2, u3, h4⟩, ⟨u, h5⟩, h6, h7⟩ hl hr
    (refine jjC ?_)
    (apply jjR rfl; (intro _; first|exact eI rfl|exact eB rfl|exact eP rfl|exact eS rfl|exact eT rfl|exact eA rfl|exact eU rfl|exact eF rfl|exact eM rfl|exact eN rfl|exact rfl); exact rfl; exact rfl; exact rfl; exact rfl; intro b8 w_b8 hb_b8 hs_b8 hS_b8 hk_b8; have hA_b8 := Bk.of hk_b8)
    (refine jz ?_)
    have e8 := hS_b8.ext
    have y8 := e8.size
    exact ⟨rfl, e8.tr, Fr.ext e8, ⟨h1.trans e8, by omega, ⟨hi, h3.ext e8⟩, ⟨u1, u2, u3, h4.ext e8⟩, ⟨u, h5.ext e8⟩, h6.ext e8, h7.ext e8⟩, b8, rfl, rfl, rfl, rfl, inferInstance⟩
  case hbody =>
    rintro l i x s' V hx ⟨h1, h2, ⟨hi, h3⟩, ⟨u1, u2, u3, h4⟩, ⟨u, h5⟩, h6, h7⟩ ⟨b8, ha3, ha4, ha5, ha8, hb8⟩ hl hr
    refine W.fix (d := 3) ha3 (W.fix (d := 4) ha4 (W.fix (d := 5) ha5 (W.fix (d := 8) ha8 ?_)))
    have hx8 : At V b8 0 [.int .i64 x.1.1, .int .i64 x.1.2.1, .int .i64 x.1.2.2] := Bk.toAt (h := hb8)
    by_cases him : i = m
    · have hxp : x.1 = p := by
        have e1 := congrArg (·[i]?) (allW_fst (txF cs) (txF cs).length)
        simp only [List.getElem?_map, hx, Option.map_some] at e1
        rw [him, hm] at e1
        exact Option.some.inj e1
      have hz0 : (m : Int) - (i : Int) = 0 := by omega
      rw [hz0] at h3
      (refine jjD ?_; refine jjB ?_; refine jjB ?_; refine jjC ?_; refine jN rfl rfl rfl ?_; refine jjh rfl rfl (by omega) ?_; refine jz ?_; refine jjJ rfl ?_; refine jjB ?_; refine jjC ?_; refine jO rfl rfl rfl rfl ?_)
      refine Ops.store rfl rfl rfl rfl rfl ?_
      intro V2 hp2
      have h5' := hp2.bk h5 (by omega)
      skip
      refine Ops.store rfl rfl rfl rfl rfl ?_
      intro V3 hp3
      (refine jz ?_; refine jjF ?_)
      have m4 : Bk V2 b4 (encPl x.1).cells.toList 43 := ⟨hp2.new⟩
      refine ⟨(hp2.tr ⟨_, h4.h, rfl⟩).trans (hp3.tr ⟨_, h5'.h, rfl⟩), rfl, hp3.ext (hp2.ext h1 (by omega)) (by omega), ?_, ⟨hp3.new⟩⟩
      rw [← hxp]; exact hp3.bk m4 (by omega)
    · have hne : ¬ (m : Int) - (i : Int) = 0 := by omega
      (refine jjD ?_; refine jjB ?_; refine jjB ?_; refine jjC ?_; refine jN rfl rfl rfl ?_; refine jji rfl rfl (by omega) ?_; refine jz ?_; refine jjK rfl ?_; refine jjG ?_; refine jjC ?_; refine jN rfl rfl rfl ?_; refine jZ rfl rfl (by omega) ?_)
      refine Ops.store rfl rfl rfl rfl rfl ?_
      intro V2 hp2
      (refine jz ?_)
      refine ⟨hp2.tr ⟨_, h3.h, rfl⟩, hp2.frS (by omega), hp2.ext h1 (by omega), by rw [hp2.size]; exact h2, ⟨by omega, ?_⟩, ⟨u1, u2, u3, hp2.bk h4 (by omega)⟩, ⟨u, hp2.bk h5 (by omega)⟩, hp2.at_ h6 (by omega), hp2.at_ h7 (by omega)⟩
      have e : (m : Int) - ((i + 1 : Nat) : Int) = (m : Int) - (i : Int) - 1 := by omega
      rw [e]; exact ⟨hp2.new⟩
  case hdone =>
    rintro ds' V hmk htr ⟨h1, h2, ⟨hi, h3⟩, _⟩
    omega
  case hstop =>
    rintro ds' cc i V hmk htr hi ⟨rfl, h1, h2, h3⟩
    refine jjF ?_
    exact fin2CCM rfl rfl rfl rfl rfl h2 h3 rfl rfl rfl hmk fun w' g => ⟨h1.ofGrow g (Nat.le_refl _), rfl⟩
end
end Go.Proofs.YtgnjjocafmofaaaGreatDoor

/- The proof engine, part 18: division of numbers that are not negative; equality of pairs. -/
namespace Go.Proofs.YtgnjjocafmofaaaGreatDoor
open Go.RowKit

section rules
variable {P : Program} {ro : Option Nat} {n : Nat} {all rest : List Oper} {K : Sl → World → Prop} {s : Sl} {w : World} {d : Nat} {ty : Nat} {pos : String} {af : Array Edge} {x y : Operand} {t t' : Nat} {a b : Int}
theorem Ops.rem (hx : ev n s x = .int .i64 a) (hy : ev n s y = .int .i64 b) (h0 : 0 ≤ a) (h1 : 0 < b) (h : Ops P ro n all rest K (upd s d (.int .i64 (a % b))) w) :
    Ops P ro n all (⟨some d, .binOp .rem t x y t', ty, pos, af, none⟩ :: rest) K s w :=
  Ops.ofRun rfl (by
    have e1 : Int.tmod a b = a % b := Int.tmod_eq_emod_of_nonneg h0
    have e3 : ¬ b = 0 := by omega
    simp [execOp, hx, hy, go_sem, Op.intDiv, e1, e3]) h
end rules

end Go.Proofs.YtgnjjocafmofaaaGreatDoor

/- place: a place of a valid text by a number. -/
namespace Go.Proofs.YtgnjjocafmofaaaGreatDoor
open Go.RowKit

theorem pick_pos {α : Type} {l : List α} (h : 0 < l.length) (m : Nat) : ∃ p, l[m % l.length]? = some p := ⟨_, List.getElem?_eq_getElem (Nat.mod_lt _ h)⟩
section
variable (a : Option Addr) (c : Nat) (cs : List Ch) (w : World) [hrow : RowI w (.slice a cs.length c) true 2 (cs.map encCh)] [hT : TextI w cs]
set_option maxHeartbeats 4000000 in
theorem place_law3 (hs : SmallT cs) (ht : textB (txF cs) = true) (m : Nat) (hm : m ≤ 65535) (p : Pl) (hp : (allP (txF cs) (txF cs).length)[m % (allP (txF cs) (txF cs).length).length]? = some p) : Ct Tryz.prog 40 [.agg #[.slice a cs.length c], .int .u16 (m : Int)] w fun v _ => v = .tuple #[encPl p, .bool true] := by
  have hlt := (List.getElem?_eq_some_iff.1 hp).1
  have hll := allW_len (txF cs) (txF cs).length
  have hal := allW_small ht
  have hpb : placeC cs p = true := (placeC_B cs p).trans (placeB_mem.2 (List.mem_of_getElem? hp))
  refine Ct.ofW (by simp) ?_
  (refine jjB ?_; refine jjC ?_)
  (refine jy rfl ?_; intro b2 w_b2 hb_b2 hs_b2 hS_b2 hk_b2; have hA_b2 := At.ofBlock hk_b2)
  skip
  ((skip); refine jjY ?_; intro b4 w_b4 hb_b4 hs_b4 hS_b4 hk_b4; have hA_b4 := Bk.of hk_b4)
  (apply jJ; exact eB rfl; refine jz ?_; refine jjB ?_; refine jjC ?_; refine jO rfl rfl rfl rfl ?_)
  refine jjQ ((Words_leaf a c cs _ hs).mono fun v _ _ h => h.trans (by rw [wordsR, if_pos ht, hll])) rfl rfl ?_
  rintro _ w5 hS5 rfl
  generalize hL : (allP (txF cs) (txF cs).length).length = L at *
  (apply jI; exact eU rfl; refine ju rfl rfl ?_; refine ju rfl rfl ?_; apply jJ; exact eI rfl; apply jJ; exact eI rfl; refine jz ?_; refine jjB ?_; refine jjB ?_; refine jjC ?_; apply jI; exact eI rfl; refine jjk rfl rfl (by omega) ?_; apply jI; exact eB rfl; refine jT rfl rfl rfl ?_; apply jI; exact eI rfl; refine jT rfl rfl rfl ?_; refine jja rfl rfl (by omega) ?_; apply jL rfl; exact eB rfl; refine jz ?_; refine jjK rfl ?_; refine jjG ?_; refine jjB ?_)
  have hrem : (m : Int) % (L : Int) = ((m % L : Nat) : Int) := by omega
  have hE5 : Ext w w5 := inferInstance
  have hA2 : At w5 b2 0 [.slice a cs.length c] := inferInstance
  have hB4 : Bk w5 b4 [.int .i64 0, .int .i64 0, .int .i64 0] 43 := inferInstance
  have hr5 : RowI w5 (.slice a cs.length c) true 2 (cs.map encCh) := inferInstance
  have ht5 : TextI w5 cs := inferInstance
  have hlt2 := hA2.lt
  have z4 : w.heap.size ≤ b4 := by
    have := hS_b2.size
    omega
  have hlt4 : b4 < w5.heap.size := by
    have := hS5.size
    omega
  have hlt2 : b2 < b4 := by omega
  refine W.keep0 [(1, .int .u16 (m : Int)), (2, .pointer (some ⟨b2, 0, none⟩)), (4, .pointer (some ⟨b4, 0, none⟩)), (6, .int .i64 (L : Int))] ⟨eI rfl, eP rfl, eP rfl, eI rfl, trivial⟩ fun s0 => ?_
  refine W.draw (fun w' => Ext w5 w') ?_
  intro w6 hS6
  refine AnyS.mono (K' := fun s w' => s 2 = .pointer (some ⟨b2, 0, none⟩) ∧ s 4 = .pointer (some ⟨b4, 0, none⟩) ∧ s 9 = .int .i64 0 ∧ (∃ b8, s 8 = .pointer (some ⟨b8, 0, none⟩) ∧ w5.heap.size ≤ b8 ∧ At w' b8 0 (encPl p).cells.toList) ∧ Ext w5 w') ?_ ?_
  rotate_left
  · refine jjV [0, 1, 2, 3, 4] (by decide +kernel) inferInstance ?_
    ((apply jjT; exact rfl; rintro w' hq; have := hq.toStep; refine jO rfl rfl rfl rfl ?_; refine jz ?_; exact ⟨rfl, rfl⟩; apply jjT; exact rfl; rintro w' hq; have := hq.toStep; apply jI; exact eI rfl; refine jz ?_; exact ⟨rfl, rfl⟩; apply jjT; exact rfl; rintro w' hq; have := hq.toStep; refine Ops.convI rfl rfl (wrapi (by omega) (by omega)) ?_; refine jz ?_; exact ⟨rfl, rfl⟩; apply jjT; exact rfl; rintro w' hq; have := hq.toStep; apply jI; exact eI rfl; refine jz ?_; exact ⟨rfl, rfl⟩; apply jjT; exact rfl; rintro w' hq; have := hq.toStep; refine Ops.rem rfl rfl (by omega) (by omega) ?_; rw [hrem]; refine jz ?_; exact ⟨rfl, rfl⟩; refine jjU ?_))
    repeat' ( first
      | (refine jjl 5 9 (by decide +kernel) rfl rfl inferInstance ?_ ?_)
      | ((apply jjW 5; (decide +kernel); exact rfl; (exact inferInstance)))
      | ((apply jjW 9; (decide +kernel); exact rfl; (exact inferInstance)))
      | (refine jjQ (PlaceOf_leaf a c cs _ hs ht (m % L) p hp) rfl rfl ?_; rintro _ v5 hv5 rfl; refine jz ?_; (refine jjV [6, 7, 8] ?_ ?_ ?_; (decide +kernel); (exact inferInstance); ((repeat' (first|(apply jjT; exact rfl)|rintro w' hq|(apply jI; exact eU rfl)|refine ju rfl rfl ?_|refine jz ?_|exact ⟨rfl, rfl⟩|refine jjU ?_)))))
      | (refine jjY ?_; intro b8 v8 hb8 hs8 hv8 hk8; have k8 := Bk.of hk8; have z8 : w5.heap.size ≤ b8 := (by rw [hb8]; exact Ext.size inferInstance); refine jz ?_)
      | ((apply jjW 10; (decide +kernel); exact rfl; (exact inferInstance)); refine Ops.store rfl rfl rfl rfl rfl ?_; intro V2 hp2; have e2 : Ext w5 V2 := hp2.ext inferInstance z8; refine jz ?_; (refine jjV [11] ?_ ?_ ?_; (decide +kernel); (exact e2); ((repeat' (first|(apply jjT; exact rfl)|rintro w' hq|(apply jJ; exact eI rfl)|refine jz ?_|exact ⟨rfl, rfl⟩|refine jjU ?_)))); refine jjX (by decide +kernel) e2 ?_; exact ⟨rfl, rfl, rfl, ⟨b8, rfl, z8, Bk.toAt (h := Bk.of hp2.new)⟩, e2⟩))
  rintro s w7 ⟨h2, h4, h9, ⟨b8, h8, hb8, hA8'⟩, x7⟩
  have hA8 : At w7 b8 0 [.int .i64 p.1, .int .i64 p.2.1, .int .i64 p.2.2] := hA8'
  have hB47 : Bk w7 b4 [.int .i64 0, .int .i64 0, .int .i64 0] 43 := hB4.ext x7
  have hA27 : At w7 b2 0 [.slice a cs.length c] := hA2.ext x7
  have hE7 : Ext w w7 := hE5.trans x7
  refine W.keep0 [(2, .pointer (some ⟨b2, 0, none⟩)), (4, .pointer (some ⟨b4, 0, none⟩)), (8, .pointer (some ⟨b8, 0, none⟩)), (9, .int .i64 0)] ⟨h2, h4, h8, h9, trivial⟩ fun s1 => ?_
  clear h2 h4 h8 h9
  ((refine jjB ?_))
  refine W.draw (fun w' => Ext w w' ∧ At w' b2 0 [.slice a cs.length c] ∧ At w' b8 0 [.int .i64 p.1, .int .i64 p.2.1, .int .i64 p.2.2]) ?_
  intro w8 hS8
  refine AnyS.mono (K' := fun s w' => s 4 = .pointer (some ⟨b4, 0, none⟩) ∧ s 5 = .bool true ∧ At w' b4 0 (encPl p).cells.toList ∧ Ext w w') ?_ ?_
  rotate_left
  · skip
    refine jjV [0, 1, 2, 3, 4, 5] (by decide +kernel) ⟨inferInstance, inferInstance, inferInstance⟩ ?_
    ((apply jjT; exact rfl; rintro w' ⟨q1, q2, q3⟩; refine jO rfl rfl rfl rfl ?_; refine jz ?_; exact ⟨rfl, rfl⟩; apply jjT; exact rfl; rintro w' ⟨q1, q2, q3⟩; apply jI; exact eI rfl; refine jz ?_; exact ⟨rfl, rfl⟩; apply jjT; exact rfl; rintro w' ⟨q1, q2, q3⟩; refine jjh rfl rfl (by omega) ?_; refine jz ?_; exact ⟨rfl, rfl⟩; apply jjT; exact rfl; rintro w' ⟨q1, q2, q3⟩; apply jI; exact eB rfl; refine jz ?_; exact ⟨rfl, rfl⟩; apply jjT; exact rfl; rintro w' ⟨q1, q2, q3⟩; refine jT rfl rfl rfl ?_; refine jO rfl rfl rfl rfl ?_; refine jz ?_; exact ⟨rfl, rfl⟩; apply jjT; exact rfl; rintro w' ⟨q1, q2, q3⟩; refine jT rfl rfl rfl ?_; refine jO rfl rfl rfl rfl ?_; refine jz ?_; exact ⟨rfl, rfl⟩; refine jjU ?_))
    (apply jjW 6; (decide +kernel); exact rfl; (exact ⟨inferInstance, inferInstance, inferInstance⟩))
    have hE8 : Ext w w8 := inferInstance
    have i8 : RowI w8 (.slice a cs.length c) true 2 (cs.map encCh) := ⟨hrow.h.ext hE8⟩
    have j8 : TextI w8 cs := hT.ext hE8
    refine jT rfl rfl rfl ?_
    refine jjQ ((Place_ref1 a c cs _ p hs).mono fun v _ _ h => h.trans (by rw [hpb])) rfl rfl ?_
    rintro _ w9 hS9 rfl
    refine jz ?_
    have hE9 : Ext w w9 := inferInstance
    have hA29 : At w9 b2 0 [.slice a cs.length c] := inferInstance
    have hA89 : At w9 b8 0 [.int .i64 p.1, .int .i64 p.2.1, .int .i64 p.2.2] := inferInstance
    refine jjV [7] (by decide +kernel) ⟨hE9, hA29, hA89⟩ ?_
    ((apply jjT; exact rfl; rintro w' ⟨q1, q2, q3⟩; apply jK rfl; exact eB rfl; refine jz ?_; exact ⟨rfl, rfl⟩; refine jjU ?_))
    (apply jjW 8; (decide +kernel); exact rfl; (exact ⟨hE9, hA29, hA89⟩))
    refine Ops.store rfl rfl rfl rfl rfl ?_
    intro V2 hp2
    refine jz ?_
    have hE10 : Ext w V2 := hp2.ext hE9 z4
    have hA210 : At V2 b2 0 [.slice a cs.length c] := hp2.at_ hA29 (by omega)
    have hA810 : At V2 b8 0 [.int .i64 p.1, .int .i64 p.2.1, .int .i64 p.2.2] := hp2.at_ hA89 (by omega)
    refine jjV [9] (by decide +kernel) ⟨hE10, hA210, hA810⟩ ?_
    ((apply jjT; exact rfl; rintro w' ⟨q1, q2, q3⟩; apply jJ; exact eB rfl; refine jz ?_; exact ⟨rfl, rfl⟩; refine jjU ?_))
    refine jjX (by decide +kernel) ⟨hE10, hA210, hA810⟩ ?_
    exact ⟨rfl, rfl, Bk.toAt (h := Bk.of hp2.new), hE10⟩
  rintro s w9 ⟨h4, h5, hA4, x9⟩
  have hA49 : At w9 b4 0 [.int .i64 p.1, .int .i64 p.2.1, .int .i64 p.2.2] := hA4
  refine W.keep0 [(4, .pointer (some ⟨b4, 0, none⟩)), (5, .bool true)] ⟨h4, h5, trivial⟩ fun s2 => ?_
  (refine jjF ?_)
  refine fin2C rfl rfl rfl rfl rfl rfl ⟨x9, rfl⟩
end
end Go.Proofs.YtgnjjocafmofaaaGreatDoor

/- ready, width, place: what the laws ask first. -/
namespace Go.Proofs.YtgnjjocafmofaaaGreatDoor
open Go.RowKit

def readyB (t : Tx) (wd side : Int) : Bool := !greatT t && (textB t && cutB wd side)
theorem readyB_yes {t : Tx} {wd side : Int} (h : readyB t wd side = true) : greatT t = false ∧ textB t = true ∧ cutB wd side = true := by
  simpa [readyB] using h
section
variable (a : Option Addr) (c : Nat) (cs : List Ch) (wd side : Int) (w : World) [hrow : RowI w (.slice a cs.length c) true 2 (cs.map encCh)] [hT : TextI w cs]
set_option maxHeartbeats 2000000 in
theorem ready_law3 (hd : 0 ≤ side ∧ side ≤ 255) : Ct Tryz.prog 38 [.agg #[.slice a cs.length c], encCut wd side] w fun v _ => v = .bool (readyB (txF cs) wd side) := by
  refine Ct.ofW (by simp) ?_
  (refine jjB ?_; refine jjC ?_)
  (refine jy rfl ?_; intro b2 w_b2 hb_b2 hs_b2 hS_b2 hk_b2; have hA_b2 := At.ofBlock hk_b2)
  skip
  (refine jy rfl ?_; intro b3 w_b3 hb_b3 hs_b3 hS_b3 hk_b3; have hA_b3 := At.ofBlock hk_b3)
  (apply jJ; exact eB rfl; refine jz ?_; refine jjB ?_; refine jjC ?_; refine jO rfl rfl rfl rfl ?_)
  obtain ⟨G, hG⟩ : ∃ G, greatT (txF cs) = G := ⟨_, rfl⟩
  refine jjQ ((Great_ref1 a c cs _).mono fun v _ _ h => h.trans (by rw [hG])) rfl rfl ?_
  rintro _ w2 hS2 rfl
  rw [readyB, hG]
  cases G with
  | true =>
    (refine jp rfl ?_; apply jI; exact eB rfl; refine jU rfl rfl rfl rfl ?_; refine jU rfl rfl rfl rfl ?_; apply jL rfl; exact eB rfl; apply jI; exact eB rfl; refine jU rfl rfl rfl rfl ?_; refine jU rfl rfl rfl rfl ?_; apply jL rfl; exact eB rfl; apply jJ; exact eB rfl; refine jz ?_; refine jjF ?_; refine jB rfl rfl ⟨inferInstance, ?_⟩)
    exact rfl
  | false =>
  have hs := small_of_great hG
  obtain ⟨T, hTT⟩ : ∃ T, textB (txF cs) = T := ⟨_, rfl⟩
  (refine jq rfl ?_; apply jI; exact eB rfl; refine jT rfl rfl rfl ?_; refine jO rfl rfl rfl rfl ?_; refine jT rfl rfl rfl ?_)
  refine jjQ ((Text_ref1 a c cs _ hs).mono fun v _ _ h => h.trans (by rw [hTT])) rfl rfl ?_
  rintro _ w3 hS3 rfl
  rw [hTT]
  cases T with
  | false =>
    (apply jK rfl; exact eB rfl; apply jI; exact eB rfl; refine jU rfl rfl rfl rfl ?_; refine jU rfl rfl rfl rfl ?_; apply jL rfl; exact eB rfl; apply jJ; exact eB rfl; refine jz ?_; refine jjF ?_; refine jB rfl rfl ⟨inferInstance, ?_⟩)
    exact rfl
  | true =>
  (apply jK rfl; exact eB rfl; apply jI; exact eB rfl; refine jT rfl rfl rfl ?_; refine jO rfl rfl rfl rfl ?_; refine jT rfl rfl rfl ?_)
  refine jjQ (Cut_ref3 wd side hd _) rfl rfl ?_
  rintro _ w4 hS4 rfl
  (apply jK rfl; exact eB rfl; apply jJ; exact eB rfl; refine jz ?_; refine jjF ?_; refine jB rfl rfl ⟨inferInstance, ?_⟩)
  exact rfl
end
end Go.Proofs.YtgnjjocafmofaaaGreatDoor

/- The proof engine, part 32: iterators that write one block of their own while they run. -/
namespace Go.Proofs.YtgnjjocafmofaaaGreatDoor
open Go.RowKit

/-- Below N all is as it was but block kb; data are as they were but in kb. -/
structure GrowB (N kb : Nat) (w w' : World) : Prop where
  os : w'.os = w.os
  tape : w'.tape = w.tape
  output : w'.output = w.output
  size : w.heap.size ≤ w'.heap.size
  old : ∀ (k : Nat), k < N → k ≠ kb → w'.heap[k]? = w.heap[k]?
  data : ∀ (k : Nat) (o : Obj), w.heap[k]? = some o → Obj.loopy o = false → k ≠ kb → w'.heap[k]? = some o
  kd : (∃ o, w.heap[kb]? = some o ∧ Obj.loopy o = false) → ∃ o, w'.heap[kb]? = some o ∧ Obj.loopy o = false
theorem GrowB.refl (N kb : Nat) (w : World) : GrowB N kb w w := ⟨rfl, rfl, rfl, Nat.le_refl _, fun _ _ _ => rfl, fun _ _ h _ _ => h, id⟩
theorem GrowB.trans {N kb : Nat} {a b c : World} (h : GrowB N kb a b) (k : GrowB N kb b c) : GrowB N kb a c :=
  ⟨k.os.trans h.os, k.tape.trans h.tape, k.output.trans h.output, Nat.le_trans h.size k.size, fun i hi hn => (k.old i hi hn).trans (h.old i hi hn), fun i o hi ho hn => k.data i o (h.data i o hi ho hn) ho hn, fun x => k.kd (h.kd x)⟩
theorem GrowB.mono {N M kb : Nat} {w w' : World} (h : GrowB N kb w w') (hM : M ≤ N) : GrowB M kb w w' := ⟨h.os, h.tape, h.output, h.size, fun k hk => h.old k (by omega), h.data, h.kd⟩
theorem GrowB.cell {N kb : Nat} {w w' : World} (g : GrowB N kb w w') {b o : Nat} {v : Value} (h : w.cell? ⟨b, o, none⟩ = some v) (hn : b ≠ kb) : w'.cell? ⟨b, o, none⟩ = some v := by
  obtain ⟨ob, hb, hd⟩ := cell_block h
  have := g.data b ob hb hd hn
  rw [← h]
  exact World.cell?_of_block (a := ⟨b, o, none⟩) (this.trans hb.symm)
/-- A step that leaves the machine's blocks alone but those in E. -/
structure TrE (E : Nat → Prop) (w w' : World) : Prop where
  size : w.heap.size ≤ w'.heap.size
  keep : ∀ (k : Nat) (o : Obj), ¬ E k → w.heap[k]? = some o → Obj.loopy o = true → w'.heap[k]? = some o
theorem TrE.trans {E : Nat → Prop} {a b c : World} (h : TrE E a b) (k : TrE E b c) : TrE E a c := ⟨Nat.le_trans h.size k.size, fun i o hi ho hl => k.keep i o hi (h.keep i o hi ho hl) hl⟩
theorem TrE.mono {E F : Nat → Prop} {a b : World} (h : TrE E a b) (hf : ∀ k, E k → F k) : TrE F a b := ⟨h.size, fun i o hi ho hl => h.keep i o (fun e => hi (hf i e)) ho hl⟩
theorem Yd.mono {P : Program} {l : Nat} {args : List Value} {w : World} {R R' : Ending → World → Prop} (h : Yd P l args w R) (hr : ∀ e w', R e w' → R' e w') : Yd P l args w R' := by
  obtain ⟨fn, tmps, assign, body, h1, h2⟩ := h
  exact ⟨fn, tmps, assign, body, h1, h2.mono hr⟩
section
variable {P : Program} {ro : Option Nat} {n : Nat} {X : Ctx} {s : Sl} {ds : List Deferred} {w : World}
/-- A range whose rounds write what J tells. -/
theorem W.rangeJ {α : Type} {g : Operand} {ps : List Nat} {assign body : Code} (N : Nat) (xs : List α) (enc : α → List Value) {Fct : World → Prop} {gf : Nat} {lb : List Value}
    (hit : Iter P gf lb xs enc Fct) (hg : ev n s g = .func (.func gf) #[] lb.toArray) [he : Enters P gf] (hps : ∀ x, (enc x).length = ps.length) (hro : RoOk w ro) (hmk : Mks N w ds) (hN : N ≤ w.heap.size)
    (J : Nat → World → Prop) (Jx : Code → Nat → World → Prop) (hJ : ∀ i V V', J i V → Grow w.heap.size V V' → J i V') (hJx : ∀ c i V V', Jx c i V → Grow w.heap.size V V' → Jx c i V')
    (hF : ∀ i V, J i V → Fct V) (hs : ∀ i V, J i V → w.heap.size ≤ V.heap.size) (h0 : J 0 w)
    (M : World → Nat → Prop) (hM1 : ∀ i V k, J i V → M V k → k < V.heap.size) (hM2 : ∀ i V V' k, J i V → Grow w.heap.size V V' → M V' k → M V k)
    (A : α → Sl → World → Prop) (hA : ∀ x s V V', A x s V → Grow w.heap.size V V' → A x s V')
    (hassign : ∀ l i x V, xs[i]? = some x → J i V → w.heap.size ≤ l → IsRec V l →
      W P (some l) n assign { nx := fun s' ds' V' => ds' = [] ∧ Tr V V' ∧ Fr M V V' ∧ J i V' ∧ A x s' V', rt := fun _ _ _ => False, ex := fun _ _ _ _ => False } (setPs s ps (enc x)) [] V)
    (hbody : ∀ l i x s' V, xs[i]? = some x → J i V → A x s' V → w.heap.size ≤ l → IsRec V l →
      W P (some l) n body { nx := fun _ _ V' => Tr V V' ∧ Fr M V V' ∧ J (i + 1) V', rt := fun _ _ V' => Tr V V' ∧ Jx .ret (i + 1) V', ex := fun id _ _ V' => Tr V V' ∧ Jx (.exit id) (i + 1) V' } s' [] V)
    (hdone : ∀ ds' V, Mks N V ds' → Tr w V → J xs.length V → X.nx s ds' V)
    (hstop : ∀ ds' c i V, Mks N V ds' → Tr w V → i ≤ xs.length → Jx c i V → W P ro n c X s ds' V) :
    W P ro n (.rangeFunc g ps.toArray assign body) X s ds w :=
  W.rangeR N xs enc (fun _ => Ext) hg hps hro hmk hN J Jx hJ hJx (fun V1 i V V' hE hz h e => hJ i V V' h (e.grow (Nat.le_trans hE.size hz))) (fun V1 c i V V' hE hz h e => hJx c i V V' h (e.grow (Nat.le_trans hE.size hz)))
    (fun V1 V V' _ _ e => ⟨e.size, fun k o _ hk ho => e.tr.keep k o hk ho⟩) h0 M (fun i V V' k h e hm => .inl (hM2 i V V' k h e hm))
    (fun l J' Jx' V1 hE h1 h2 h3 h4 hY h0' => hit l J' Jx' M V1 h3 h4 (fun i V h => hF i V (h1 i V h).1) (fun i V k h => hM1 i V k (h1 i V h).1) (fun i V V' k h e => hM2 i V V' k (h1 i V h).1 (e.grow (hs i V (h1 i V h).1))) hY h0')
    A hA hassign hbody hdone hstop
end
/-! ### A slice in a variable that rounds append to, and nothing else -/
def MOb (b : Nat) (V : World) (k : Nat) : Prop := k = b ∨ ∃ v, V.cell? ⟨b, 0, none⟩ = some v ∧ v.ownBlock = some k
theorem MOb.lt {b kb B e e' k' : Nat} {agg : Bool} {V : World} {v : Value} {xs : List Value} {k : Nat} (hb : Bk V b [v] e) (ho : OwnL V B e' agg k' v xs) (hbk : b ≠ kb) (hB : kb < B) (h : MOb b V k) : k < V.heap.size ∧ k ≠ kb := by
  rcases h with rfl | ⟨v', hv, hk⟩
  · exact ⟨hb.lt, hbk⟩
  · rw [hb.cell1] at hv; cases hv
    have := ho.block k hk
    omega
theorem MOb.back {b e N kb : Nat} {V V' : World} {v : Value} {k : Nat} (hb : Bk V b [v] e) (g : GrowB N kb V V') (hn : b ≠ kb) (h : MOb b V' k) : MOb b V k := by
  rcases h with h | ⟨v', hv, hk⟩
  · exact .inl h
  · rw [g.cell hb.cell1 hn] at hv; cases hv
    exact .inr ⟨v, hb.cell1, hk⟩
theorem MOb.same {b e e' : Nat} {V V' : World} {v : Value} {k : Nat} (hb : Bk V b [v] e) (hb' : Bk V' b [v] e') (h : MOb b V' k) : MOb b V k := by
  rcases h with h | ⟨v', hv, hk⟩
  · exact .inl h
  · rw [hb'.cell1] at hv; cases hv
    exact .inr ⟨v, hb.cell1, hk⟩
theorem MOb.append {b B e e' : Nat} {V1 V2 V3 : World} {v v2 : Value} {o : Obj} (hb : Bk V1 b [v] e) (hA : App B V1 V2 v) (hp : PutO V2 V3 b o) (hb3 : Bk V3 b [v2] e') (hw : v2.ownBlock = v.ownBlock ∨ v2.ownBlock = some V1.heap.size) : Fr (MOb b) V1 V3 :=
  ⟨by rw [hp.size]; exact hA.g.size, fun k o' hk _ hm => by
    have h1 : v.ownBlock ≠ some k := fun e => hm (.inr ⟨v, hb.cell1, e⟩)
    have h2 : k ≠ b := fun e => hm (.inl e)
    exact (hp.other k h2).trans (hA.other hk h1),
   fun k hk => by
    rcases hk with h | ⟨v', hv, hk⟩
    · exact .inl (.inl h)
    · rw [hb3.cell1] at hv; cases hv
      rcases hw with h | h
      · exact .inl (.inr ⟨v, hb.cell1, by rw [← h]; exact hk⟩)
      · rw [h] at hk; cases hk; exact .inr (Nat.le_refl _)⟩
end Go.Proofs.YtgnjjocafmofaaaGreatDoor

/- leaf: the places of each word of a text, as a map. -/
namespace Go.Proofs.YtgnjjocafmofaaaGreatDoor
open Go.RowKit

theorem map_two {κ : Type} {f : κ → Value} (hf : ∀ x y, f x = f y → x = y) : ∀ {m m' : List (κ × Value)}, m.map (fun p => f p.1) = m'.map (fun p => f p.1) → m.map (·.2) = m'.map (·.2) → m = m'
  | [], [], _, _ => rfl
  | [], _ :: _, h, _ => by simp at h
  | _ :: _, [], h, _ => by simp at h
  | (a, b) :: m, (c, d) :: m', h, h2 => by
    simp only [List.map_cons, List.cons.injEq] at h h2
    obtain rfl := hf _ _ h.1
    obtain rfl := h2.1
    rw [map_two hf h.2 h2.2]
theorem MapE.uniq {κ : Type} {encK : κ → Value} (hf : ∀ x y, encK x = encK y → x = y) {w : World} {b : Nat} {m m' : List (κ × Value)} (h : MapE encK w b m) (h' : MapE encK w b m') : m = m' := by
  obtain ⟨es, c, h1, h2, h3, _⟩ := h.h
  obtain ⟨es', c', h1', h2', h3', _⟩ := h'.h
  rw [h1] at h1'
  cases h1'
  exact map_two hf (h2.symm.trans h2') (h3.symm.trans h3')
theorem str_inj (x y : ByteArray) (h : Value.string x = Value.string y) : x = y := by cases h; rfl
/-- The places of a word among the first words. -/
def plsN (t : Tx) (i : Nat) (s : ByteArray) : List Pl := (((allW t t.length).take i).filter fun x => decide (x.2 = s)).map (·.1)
theorem plsN_len (t : Tx) (i : Nat) (s : ByteArray) : (plsN t i s).length ≤ i := by
  rw [plsN, List.length_map]
  exact Nat.le_trans (List.length_filter_le _ _) (List.length_take_le _ _)
theorem plsN_snoc {t : Tx} {i : Nat} {p : Pl} {s : ByteArray} (h : (allW t t.length)[i]? = some (p, s)) (x : ByteArray) : plsN t (i + 1) x = plsN t i x ++ if s = x then [p] else [] := by
  rw [plsN, List.take_add_one, h, List.filter_append, List.map_append, ← plsN]
  by_cases e : s = x
  · simp [e]
  · simp [e]
/-- What rounds write: the map, and its values' own blocks. -/
def MI (mb : Nat) (V : World) (k : Nat) : Prop := k = mb ∨ ∃ m s, MapE Value.string V mb m ∧ ((mget m s).getD nilV).ownBlock = some k
structure IxJ (w w2 : World) (t : Tx) (b3 mb bx bk : Nat) (a : Option Addr) (c cl : Nat) (i : Nat) (V : World) : Prop where
  e : Ext w V
  sz : w2.heap.size ≤ V.heap.size
  k3 : At V b3 0 [.map (some mb)]
  kx : At V bx 0 [.pointer (some ⟨bk, 0, none⟩)]
  kk : At V bk 0 [.slice a cl c]
  m : ∃ m, MapE Value.string V mb m ∧ (NdG m ∧ ∀ s, OwnL V w2.heap.size 43 true 3 ((mget m s).getD nilV) ((plsN t i s).map encPl)) ∧ ∀ (p q : ByteArray) (g : Nat), p ≠ q → ((mget m p).getD nilV).ownBlock = some g → ((mget m q).getD nilV).ownBlock ≠ some g
section
variable (a : Option Addr) (c : Nat) (cs : List Ch) (w : World) [hrow : RowI w (.slice a cs.length c) true 2 (cs.map encCh)] [hT : TextI w cs]
set_option maxHeartbeats 4000000 in
theorem index_leaf (hs : SmallT cs) (ht : textB (txF cs) = true) (bk : Nat) [hb : At w bk 0 [.slice a cs.length c]] : Ct Tryz.prog 101 [.pointer (some ⟨bk, 0, none⟩)] w fun v w' => ∃ mb m, v = .map (some mb) ∧ w.heap.size ≤ mb ∧ MapE Value.string w' mb m ∧ NdG m ∧ ∀ s, OwnL w' (mb + 1) 43 true 3 ((mget m s).getD nilV) ((plsN (txF cs) (allW (txF cs) (txF cs).length).length s).map encPl) := by
  have hal := allW_small ht
  refine Ct.ofWM (by simp) ?_
  (refine jjB ?_; refine jjC ?_; apply jJ; exact eM rfl; refine jz ?_; refine jjB ?_; refine jjC ?_)
  refine Ops.makeMap Value.string ?_
  intro mb w1 hmb hs1 hS1 hM1
  skip
  (apply jjR rfl; (intro _; first|exact eI rfl|exact eB rfl|exact eP rfl|exact eS rfl|exact eT rfl|exact eA rfl|exact eU rfl|exact eF rfl|exact eM rfl|exact eN rfl|exact rfl); exact rfl; exact rfl; exact rfl; exact rfl; intro b3 w_b3 hb_b3 hs_b3 hS_b3 hk_b3; have hA_b3 := Bk.of hk_b3)
  (refine jz ?_; refine jjB ?_; refine jjB ?_; refine jjC ?_; apply jI; exact eP rfl)
  refine jjQ (all_leaf bk _) rfl rfl ?_
  rintro _ w2 hS2 ⟨bx, rfl, hbx, hAx⟩
  (refine jz ?_; refine jjD ?_)
  have hE2 : Ext w w2 := inferInstance
  have zz := hE2.size
  have z3 := hS_b3.size
  have z2 := hS2.size
  have hM2 : MapE Value.string w2 mb [] := hM1.ext (hS_b3.ext.trans hS2.ext)
  have hA3 : At w2 b3 0 [.map (some mb)] := inferInstance
  have hAk : At w2 bk 0 [.slice a cs.length c] := inferInstance
  have hwm : w.heap.size ≤ mb := by omega
  have hbm : b3 ≠ mb := by omega
  have hlx := hAx.lt
  have hlk := hb.lt
  have hxm : bx ≠ mb := by omega
  have hkm : bk ≠ mb := by omega
  have hmw : mb < w2.heap.size := by omega
  have h3l := hA3.lt
  refine W.rangeJ w.heap.size (allW (txF cs) (txF cs).length) encPW (all1_leaf bx bk a c cs hs) rfl (fun _ => rfl) trivial inferInstance zz
    (IxJ w w2 (txF cs) b3 mb bx bk a c cs.length) (fun _ _ _ => False) ?hJ (fun _ _ _ _ h _ => h) ?hF (fun i V h => h.sz) ?h0 (MI mb) ?hM1 ?hM2
    (fun x s' V => ∃ b4, s' 3 = .pointer (some ⟨b3, 0, none⟩) ∧ s' 4 = .pointer (some ⟨b4, 0, none⟩) ∧ s' 5 = .string x.2 ∧ w2.heap.size ≤ b4 ∧ Bk V b4 (encPl x.1).cells.toList 43 ∧ ∃ m, MapE Value.string V mb m ∧ ∀ s, ((mget m s).getD nilV).ownBlock ≠ some b4) (fun x s V V' ⟨b4, h1, h2, h3, h4, h5, m, h6, h7⟩ g => ⟨b4, h1, h2, h3, h4, h5.grow g, m, h6.grow g, h7⟩) ?hassign ?hbody ?hdone (fun _ _ _ _ _ _ _ h => h.elim)
  case hJ =>
    rintro i V V' ⟨h1, h2, h3, h4, h5, m, h6, h7, h8⟩ g
    exact ⟨h1.ofGrow g zz, Nat.le_trans h2 g.size, h3.grow g, h4.grow g, h5.grow g, m, h6.grow g, ⟨h7.1, fun s => (h7.2 s).grow g⟩, h8⟩
  case hF =>
    rintro i V ⟨h1, h2, h3, h4, h5, m, h6, h7, h8⟩
    exact ⟨h4, h5, hrow.h.ext h1, hT.ext h1⟩
  case h0 =>
    exact ⟨hE2, Nat.le_refl _, hA3, hAx, hAk, [], hM2, ⟨by simp [NdG], fun s => by simpa [mget, plsN] using OwnL.nil _ _ _ _ _⟩, fun p q g _ h => by simp [mget, Value.ownBlock] at h⟩
  case hM1 =>
    rintro i V k ⟨h1, h2, h3, h4, h5, m, h6, h7, h8⟩ (rfl | ⟨m', s, h9, h10⟩)
    · exact h6.lt
    · obtain rfl := MapE.uniq str_inj h6 h9
      exact ((h7.2 s).block k h10).2
  case hM2 =>
    rintro i V V' k ⟨h1, h2, h3, h4, h5, m, h6, h7, h8⟩ g (rfl | ⟨m', s, h9, h10⟩)
    · exact .inl rfl
    · obtain rfl := MapE.uniq str_inj (h6.grow g) h9
      exact .inr ⟨m, s, h6, h10⟩
  case hassign =>
    rintro l i x V hx ⟨h1, h2, h3, h4, h5, m, h6, h7, h8⟩ hl hr
    (refine jjB ?_; refine jjC ?_)
    (apply jjR rfl; (intro _; first|exact eI rfl|exact eB rfl|exact eP rfl|exact eS rfl|exact eT rfl|exact eA rfl|exact eU rfl|exact eF rfl|exact eM rfl|exact eN rfl|exact rfl); exact rfl; exact rfl; exact rfl; exact rfl; intro b4 w_b4 hb_b4 hs_b4 hS_b4 hk_b4; have hA_b4 := Bk.of hk_b4)
    (refine jz ?_; refine jjC ?_; apply jJ; exact eT rfl; refine jz ?_)
    have e4 := hS_b4.ext
    have y4 := e4.size
    exact ⟨rfl, e4.tr, Fr.ofExt e4 fun k hk => .inl (by
      rcases hk with rfl | ⟨m', s, h9, h10⟩
      · exact .inl rfl
      · obtain rfl := MapE.uniq str_inj (h6.ext e4) h9
        exact .inr ⟨m, s, h6, h10⟩), ⟨h1.trans e4, by omega, h3.ext e4, h4.ext e4, h5.ext e4, m, h6.ext e4, ⟨h7.1, fun s => (h7.2 s).ext e4⟩, h8⟩, b4, rfl, rfl, rfl, by omega, inferInstance, m, h6.ext e4, fun s e => by have := ((h7.2 s).block _ e).2; omega⟩
  case hbody =>
    rintro l i x s' V hx ⟨h1, h2, h3, h4, h5, m, h6, h7, h8⟩ ⟨b4, ha3, ha4, ha5, hb4, hB4, m', h6', hd4⟩ hl hr
    obtain ⟨p, t⟩ := x
    obtain rfl := MapE.uniq str_inj h6 h6'
    refine W.fix (d := 3) ha3 (W.fix (d := 4) ha4 (W.fix (d := 5) ha5 ?_))
    have hlt := (List.getElem?_eq_some_iff.1 hx).1
    have hsn := plsN_snoc hx
    have hA4 : At V b4 0 [.int .i64 p.1, .int .i64 p.2.1, .int .i64 p.2.2] := Bk.toAt (h := hB4)
    have h4m : b4 ≠ mb := by omega
    obtain ⟨v0, hv0⟩ : ∃ v0, (mget m t).getD nilV = v0 := ⟨_, rfl⟩
    have hO0 := h7.2 t
    rw [hv0] at hO0
    have hne0 : ∀ q, ((mget m q).getD nilV).ownBlock ≠ some mb := fun q e => by have := ((h7.2 q).block _ e).1; omega
    have hpl := plsN_len (txF cs) i t
    ((refine jjD ?_))
    refine W.drawX 8 (fun w' => At w' b3 0 [.map (some mb)] ∧ At w' b4 0 [.int .i64 p.1, .int .i64 p.2.1, .int .i64 p.2.2] ∧ MapE Value.string w' mb m) ?_
    intro w4 hS4
    have x4 := hS4.ext
    have s4 := And.intro (h3.ext x4) (And.intro (hA4.ext x4) (h6.ext x4))
    refine AnyX.take [0, 1, 2, 3, 4, 5] (by decide +kernel) s4 ?_
    ((apply jjT; exact rfl; rintro w' ⟨q1, q2, q3⟩; refine jN rfl rfl rfl ?_; refine jz ?_; exact ⟨rfl, rfl⟩; apply jjT; exact rfl; rintro w' ⟨q1, q2, q3⟩; apply jI; exact eT rfl; refine jz ?_; exact ⟨rfl, rfl⟩; apply jjT; exact rfl; rintro w' ⟨q1, q2, q3⟩; refine jN rfl rfl rfl ?_; refine jz ?_; exact ⟨rfl, rfl⟩; apply jjT; exact rfl; rintro w' ⟨q1, q2, q3⟩; apply jI; exact eT rfl; refine jz ?_; exact ⟨rfl, rfl⟩; apply jjT; exact rfl; rintro w' ⟨q1, q2, q3⟩; refine Ops.lookupV (k := t) hv0 q3 rfl rfl ?_; refine jz ?_; exact ⟨rfl, rfl⟩; apply jjT; exact rfl; rintro w' ⟨q1, q2, q3⟩; refine jO rfl rfl rfl rfl ?_; refine jz ?_; exact ⟨rfl, rfl⟩; refine jjU ?_))
    (apply AnyX.one 6; (decide +kernel); exact rfl; (exact s4))
    (refine jjP (v := .agg _) rfl (by exact rfl) (by exact rfl) (by exact rfl) (by exact rfl) ?_; intro b7 w_b7 hb_b7 hs_b7 hS_b7 hk_b7; have hR_b7 := RowV.one (agg := true) (k := 3) rfl hk_b7)
    refine jz ?_
    have hR7 : RowV w_b7 true 3 (.slice (some ⟨b7, 0, none⟩) 1 1) ([p].map encPl) := hR_b7
    have e7 := x4.trans hS_b7.ext
    have z7 := e7.size
    have s7 := And.intro (h3.ext e7) (And.intro (hA4.ext e7) (h6.ext e7))
    (apply AnyX.one 7; (decide +kernel); exact rfl; (exact s7))
    refine Ops.appendL (hO0.ext e7) (by omega) hR7 rfl rfl rfl rfl rfl (by simp only [List.length_map, List.length_cons, List.length_nil]; omega) (by simp only [List.length_map, List.length_cons, List.length_nil]; omega) ?_
    intro v2 w8 hA8 hO8 _ hown8
    refine jz ?_
    have hnb : ∀ b, b < w2.heap.size → v0.ownBlock ≠ some b := fun b h e => by have := (hO0.block _ e).1; omega
    have hn4 : v0.ownBlock ≠ some b4 := by rw [← hv0]; exact hd4 t
    have hm8 : MapE Value.string w8 mb m := (h6.ext e7).app hA8 (hnb _ hmw)
    have s8 := And.intro (hA8.at_ (h3.ext e7) (hnb _ h3l)) (And.intro (hA8.at_ (hA4.ext e7) hn4) hm8)
    (apply AnyX.one 8; (decide +kernel); exact rfl; (exact s8))
    refine Ops.mapUpdate (k := t) (v := v2) hm8 rfl rfl rfl ?_
    intro w9 o9 hp9 hM9
    refine jz ?_
    refine AnyX.done (by decide +kernel) ?_
    skip
    have z8 := hA8.g.size
    have z9 := hp9.size
    have hv2m : v2.ownBlock ≠ some mb := fun e => by
      rcases hown8 with h | h
      · rw [h, ← hv0] at e; exact hne0 _ e
      · rw [h] at e; cases e; omega
    refine ⟨(e7.tr.trans hA8.tr).trans (hp9.tr hm8.loopy), ⟨by omega, fun k o hk ho hMk => ?_, fun k hMk => ?_⟩, hp9.ext (hA8.ext (h1.trans e7) zz) hwm, by omega, hp9.at_ (hA8.at_ (h3.ext e7) (hnb _ h3l)) hbm, hp9.at_ (hA8.at_ (h4.ext e7) (hnb _ hlx)) hxm, hp9.at_ (hA8.at_ (h5.ext e7) (hnb _ (by omega))) hkm, _, hM9, ⟨h7.1.set t v2, fun x => ?_⟩, fun q1 q2 g hpq => ?_⟩
    · have k8 := hA8.other (e7.block' hk) (fun e => hMk (.inr ⟨m, t, h6, by rw [hv0]; exact e⟩))
      exact (hp9.other k (fun e => hMk (.inl e))).trans k8
    · rcases hMk with rfl | ⟨m', s, h9, h10⟩
      · exact .inl (.inl rfl)
      · obtain rfl := MapE.uniq str_inj hM9 h9
        by_cases hp : s = t
        · subst hp
          rw [mget_set_same, Option.getD_some] at h10
          rcases hown8 with h | h
          · exact .inl (.inr ⟨m, s, h6, by rw [hv0, ← h]; exact h10⟩)
          · rw [h] at h10
            cases h10
            exact .inr (by omega)
        · rw [mget_set_other _ _ hp] at h10
          exact .inl (.inr ⟨m, s, h6, h10⟩)
    · rw [hsn]
      by_cases hp : x = t
      · subst hp
        rw [mget_set_same, if_pos rfl, List.map_append]
        exact hO8.put hp9 hv2m
      · rw [mget_set_other _ _ hp, if_neg (fun e => hp e.symm), List.append_nil]
        exact (((h7.2 x).ext e7).app hA8 fun g hg => by rw [← hv0]; exact h8 x t g hp hg).put hp9 (hne0 x)
    · by_cases hp : q1 = t
      · have hq : q2 ≠ t := fun e => hpq (hp.trans e.symm)
        subst hp
        rw [mget_set_same, mget_set_other _ _ hq, Option.getD_some]
        intro h hq2
        rcases hown8 with h3 | h3
        · rw [h3, ← hv0] at h
          exact h8 _ q2 g hpq h hq2
        · rw [h3] at h
          have := ((h7.2 q2).block g hq2).2
          cases h
          omega
      · rw [mget_set_other _ _ hp]
        by_cases hq : q2 = t
        · subst hq
          rw [mget_set_same, Option.getD_some]
          intro h hq2
          rcases hown8 with h3 | h3
          · rw [h3, ← hv0] at hq2
            exact h8 q1 _ g hpq h hq2
          · rw [h3] at hq2
            have := ((h7.2 q1).block g h).2
            cases hq2
            omega
        · rw [mget_set_other _ _ hq]
          exact h8 q1 q2 g hpq
  case hdone =>
    rintro ds' V hmk htr ⟨h1, h2, h3, h4, h5, m, h6, h7, h8⟩
    (refine jjB ?_; refine jjC ?_; refine jN rfl rfl rfl ?_; apply jJ; exact eM rfl; refine jz ?_; refine jjF ?_)
    refine fin1M rfl rfl hmk fun w' g => ⟨h1.ofGrow g (Nat.le_refl _), mb, m, rfl, hwm, h6.grow g, h7.1, fun s => ((h7.2 s).grow g).mono (by omega)⟩
end
end Go.Proofs.YtgnjjocafmofaaaGreatDoor

/- leaf: Places. -/
namespace Go.Proofs.YtgnjjocafmofaaaGreatDoor
open Go.RowKit

theorem plsN_all (t : Tx) (s : ByteArray) : plsN t (allW t t.length).length s = placesF t s := by rw [plsN, List.take_length, placesF]
/-- The places of a word, or the error. -/
def placesR (t : Tx) (s : ByteArray) : List Pl × Int := if textB t then (if wordB s then (placesF t s, 0) else ([], 2)) else ([], 10)
section
variable (a : Option Addr) (c : Nat) (cs : List Ch) (w : World) [hrow : RowI w (.slice a cs.length c) true 2 (cs.map encCh)] [hT : TextI w cs]
set_option maxHeartbeats 4000000 in
theorem Places_leaf (hs : SmallT cs) (s : ByteArray) (hss : s.size ≤ 1000) : Ct Tryz.prog 57 [.agg #[.slice a cs.length c], .string s] w fun v w' => ∃ sv, v = .tuple #[sv, .int .i64 (placesR (txF cs) s).2] ∧ OwnL w' w.heap.size 43 true 3 sv ((placesR (txF cs) s).1.map encPl) := by
  refine Ct.ofW (by simp) ?_
  (refine jjB ?_; refine jjC ?_)
  (refine jy rfl ?_; intro b2 w_b2 hb_b2 hs_b2 hS_b2 hk_b2; have hA_b2 := At.ofBlock hk_b2)
  (apply jJ; exact eS rfl; apply jJ; exact eI rfl; refine jz ?_; refine jjB ?_; refine jjC ?_; refine jO rfl rfl rfl rfl ?_)
  obtain ⟨B, hB⟩ : ∃ B, textB (txF cs) = B := ⟨_, rfl⟩
  refine jjQ ((open_leaf a c cs _ hs).mono fun v _ _ h => by rw [hB] at h; exact h) rfl rfl ?_
  rintro _ w2 hS2 ⟨o, rfl, ho⟩
  rw [placesR, hB]
  cases B with
  | false =>
    (apply jI; exact eU rfl; refine ju rfl rfl ?_; refine ju rfl rfl ?_; apply jJ; exact rfl; apply jJ; exact eI rfl; refine jz ?_; refine jjB ?_; refine jjB ?_; refine jjC ?_; apply jI; exact eI rfl; refine jc rfl rfl ?_; refine jz ?_; refine jjJ rfl ?_; refine jjB ?_; refine jjC ?_; apply jI; exact eI rfl; apply jJ; exact eS rfl; apply jJ; exact eI rfl; refine jz ?_; refine jjF ?_; refine jC rfl rfl rfl ⟨inferInstance, ?_⟩)
    exact ⟨_, rfl, OwnL.nil _ _ _ _ _⟩
  | true =>
  obtain ⟨bk, hbk, rfl, hAk⟩ := ho rfl
  obtain ⟨B2, hB2⟩ : ∃ B, wordB s = B := ⟨_, rfl⟩
  rw [if_pos rfl, if_pos rfl, hB2]
  (apply jI; exact eU rfl; refine ju rfl rfl ?_; refine ju rfl rfl ?_; apply jJ; exact eP rfl; apply jJ; exact eI rfl; refine jz ?_; refine jjB ?_; refine jjB ?_; refine jjC ?_; apply jI; exact eI rfl; refine jjk rfl rfl (by omega) ?_; refine jz ?_; refine jjK rfl ?_; refine jjG ?_; refine jjB ?_; refine jjB ?_; refine jjC ?_; apply jI; exact eT rfl)
  refine jjQ ((word_leaf s _ (by omega)).mono fun v _ _ h => h.trans (by rw [hB2])) rfl rfl ?_
  rintro _ w3 hS3 rfl
  cases B2 with
  | false =>
    (refine jq rfl ?_; refine jz ?_; refine jjJ rfl ?_; refine jjB ?_; refine jjC ?_; apply jJ; exact eS rfl; apply jJ; exact eI rfl; refine jz ?_; refine jjF ?_; refine jC rfl rfl rfl ⟨inferInstance, ?_⟩)
    exact ⟨_, rfl, OwnL.nil _ _ _ _ _⟩
  | true =>
  have hAk3 : At w3 bk 0 [.slice a cs.length c] := hAk.ext hS3.ext
  have zE : w.heap.size ≤ w3.heap.size := Ext.size inferInstance
  (refine jp rfl ?_; refine jz ?_; refine jjK rfl ?_; refine jjG ?_; refine jjB ?_; refine jjC ?_; apply jI; exact eP rfl)
  refine jjQ (index_leaf a c cs _ hs hB bk) rfl rfl ?_
  rintro _ w4 hS4 ⟨mb, m, rfl, hmb, hM, hnd, hO⟩
  have hO4 := (hO s).mono (B' := w.heap.size) (by omega)
  rw [plsN_all] at hO4
  obtain ⟨v0, hv0⟩ : ∃ v0, (mget m s).getD nilV = v0 := ⟨_, rfl⟩
  rw [hv0] at hO4
  obtain ⟨va, vl, vc, rfl⟩ := hO4.slice3
  (apply jI; exact eT rfl)
  refine Ops.lookupV (k := s) hv0 hM rfl rfl ?_
  (apply jJ; exact eS rfl; apply jJ; exact eI rfl; refine jz ?_; refine jjF ?_; refine jC rfl rfl rfl ⟨inferInstance, ?_⟩)
  exact ⟨_, rfl, hO4⟩
end
end Go.Proofs.YtgnjjocafmofaaaGreatDoor

/- Whether a place is in a list. -/
namespace Go.Proofs.YtgnjjocafmofaaaGreatDoor
open Go.RowKit

set_option maxHeartbeats 1000000 in
theorem in_where1 (a : Option Addr) (c : Nat) (l : List Pl) (p : Pl) (w : World) [hr : RowI w (.slice a l.length c) true 3 (l.map encPl)] : Ct Tryz.prog 58 [.slice a l.length c, encPl p] w fun v _ => v = .bool (decide (p ∈ l)) := by
  have hlen := hr.h.len
  rw [List.length_map] at hlen
  refine Ct.ofW (by simp) ?_
  (refine jjB ?_; refine jjC ?_)
  (refine jy rfl ?_; intro b3 w_b3 hb_b3 hs_b3 hS_b3 hk_b3; have hA_b3 := At.ofBlock hk_b3)
  (apply jJ; exact eB rfl; refine jz ?_; refine jjB ?_; refine jjB ?_; refine jjC ?_; apply jI; exact eS rfl; refine jh rfl ?_; apply jI; exact eI rfl; refine jz ?_; refine jjD ?_)
  refine W.keep0 [(3, .pointer (some ⟨b3, 0, none⟩)), (7, .slice a l.length c), (8, .int .i64 (l.length : Int)), (9, .int .i64 ((0 : Nat) : Int))] ⟨eP rfl, eS rfl, eI rfl, eI rfl, trivial⟩ fun s0 => ?_
  refine W.loop (10 :: 11 :: 12 :: 6 :: 13 :: 14 :: 15 :: 4 :: 16 :: 9 :: []) (fun g s' V => ∃ k : Nat, s' 9 = .int .i64 ((k : Nat) : Int) ∧ g = l.length - k ∧ k ≤ l.length ∧ ∀ (j : Nat) (hj : j < l.length), j < k → l[j] ≠ p) l.length ⟨0, rfl, rfl, Nat.zero_le _, by intros; omega⟩ ?_
  rintro _ sd V hSV ⟨k, h9, rfl, hk, hno⟩
  refine W.fix (d := 9) h9 ?_
  clear h9
  by_cases hk3 : k < l.length
  · obtain ⟨u, hu⟩ : ∃ u, l[k] = u := ⟨_, rfl⟩
    (refine jjB ?_; refine jjC ?_; refine jjZ rfl rfl (by omega) ?_; refine jz ?_; refine jjB ?_; refine jjJ rfl ?_; refine jjG ?_; refine jjB ?_; refine jjD ?_; refine jjB ?_; refine jjC ?_; refine jF rfl rfl rfl (map_get (by omega)) ?_; intro _ _ _; refine jQ rfl rfl ?_)
    (apply jjR rfl; (intro _; first|exact eI rfl|exact eB rfl|exact eP rfl|exact eS rfl|exact eT rfl|exact eA rfl|exact eU rfl|exact eF rfl|exact eM rfl|exact eN rfl|exact rfl); exact rfl; exact rfl; exact rfl; exact rfl; intro b6 w_b6 hb_b6 hs_b6 hS_b6 hk_b6; have hA_b6 := Bk.of hk_b6)
    rw [hu] at hA_b6
    have hx6 : At w_b6 b6 0 [.int .i64 u.1, .int .i64 u.2.1, .int .i64 u.2.2] := Bk.toAt (h := hA_b6)
    (refine jz ?_; refine jjB ?_; refine jjC ?_; refine jO rfl rfl rfl rfl ?_; refine jO rfl rfl rfl rfl ?_)
    refine Ops.eqlT (enc := encPl) u p rfl rfl ?_
    by_cases he : u = p
    · rw [decide_eq_true he]
      (refine jz ?_; refine jjJ rfl ?_; refine jjB ?_; refine jjC ?_; apply jJ; exact eB rfl; refine jz ?_; refine jjF ?_; refine jB rfl rfl ⟨inferInstance, ?_⟩)
      exact congrArg Value.bool (decide_eq_true (by rw [← he, ← hu]; exact List.getElem_mem hk3)).symm
    · rw [decide_eq_false he]
      (refine jz ?_; refine jjK rfl ?_; refine jjG ?_; refine jjC ?_; refine jY rfl rfl (by omega) ?_; apply jI; exact eI rfl; refine jz ?_)
      exact ⟨rfl, by ((refine Same.upd rfl ?_; refine Same.upd rfl ?_; refine Same.upd rfl ?_; refine Same.upd rfl ?_; refine Same.upd rfl ?_; refine Same.upd rfl ?_; refine Same.upd rfl ?_; refine Same.upd rfl ?_; refine Same.upd rfl ?_; refine Same.upd rfl ?_; exact Same.ovN)), l.length - (k + 1), by omega, inferInstance, k + 1, congrArg (Value.int .i64) (by omega), rfl, by omega, fun j hj hjk => by
        rcases Nat.lt_or_ge j k with h | h
        · exact hno j hj h
        · obtain rfl : j = k := by omega
          rw [hu]; exact he⟩
  obtain rfl : k = l.length := by omega
  (refine jjB ?_; refine jjC ?_; refine jja rfl rfl (by omega) ?_; refine jz ?_; refine jjB ?_; refine jjK rfl ?_; refine jjE ?_; refine jjB ?_; refine jjC ?_; apply jJ; exact eB rfl; refine jz ?_; refine jjF ?_; refine jB rfl rfl ⟨inferInstance, ?_⟩)
  exact congrArg Value.bool (decide_eq_false fun hm => by
    obtain ⟨i, hi, e⟩ := List.mem_iff_getElem.1 hm
    exact hno i hi hi e).symm
end Go.Proofs.YtgnjjocafmofaaaGreatDoor

/- Plain law: the word of a slip is the word of its place; what all slips are. -/
namespace Go.Proofs.YtgnjjocafmofaaaGreatDoor
open Go.RowKit

theorem make_yes {t : Tx} {p : Pl} (h : placeB t p = true) (side wd : Int) : ∃ s, makeF t side wd p = some s := by
  cases hm : makeF t side wd p with
  | none => rw [makeF_no_place hm] at h; cases h
  | some s => exact ⟨s, rfl⟩
end Go.Proofs.YtgnjjocafmofaaaGreatDoor

/- The law: where a slip may be from. -/
namespace Go.Proofs.YtgnjjocafmofaaaGreatDoor
open Go.RowKit

theorem slip_less {s : Slp} (h : slipB s = true) (q : Pl) : slipB (q, s.2.1, s.2.2.1, ⟨#[]⟩) = true ∧ slipB (q, s.2.1, ⟨#[]⟩, ⟨#[]⟩) = true ∧ wordB s.2.1 = true := by
  simp only [slipB, Bool.and_eq_true] at h ⊢
  exact ⟨⟨h.1, rfl, h.2.2⟩, ⟨rfl, rfl, h.2.2⟩, h.2.2⟩
section
variable (a : Option Addr) (c : Nat) (cs : List Ch) (wd side : Int) (w : World) [hrow : RowI w (.slice a cs.length c) true 2 (cs.map encCh)] [hT : TextI w cs] [hgs : At w 1 0 sidesC] [hgk : At w 0 0 kindsC] [hmx : MxI w]
set_option maxRecDepth 20000 in
set_option maxHeartbeats 16000000 in
theorem SlipWhere_law (hd : 0 ≤ side ∧ side ≤ 255) (x1 x2 : Nat) (hx1 : x1 ≤ 65535) (hx2 : x2 ≤ 65535) : Ct Tryz.prog 13 [.agg #[.slice a cs.length c], encCut wd side, .int .u16 (x1 : Int), .int .u16 (x2 : Int)] w fun v _ => v = .bool true := by
  refine Ct.ofW (by simp) ?_
  (refine jjB ?_; refine jjC ?_)
  (refine jy rfl ?_; intro b4 w_b4 hb_b4 hs_b4 hS_b4 hk_b4; have hA_b4 := At.ofBlock hk_b4)
  skip
  (refine jy rfl ?_; intro b5 w_b5 hb_b5 hs_b5 hS_b5 hk_b5; have hA_b5 := At.ofBlock hk_b5)
  (apply jJ; exact eB rfl; refine jz ?_; refine jjB ?_; refine jjC ?_)
  refine jjQ (alive_law3 _) rfl rfl ?_
  rintro _ w6 hS6 rfl
  obtain ⟨R, hR⟩ : ∃ R, readyB (txF cs) wd side = R := ⟨_, rfl⟩
  (apply jJ; exact eB rfl; refine jz ?_; refine jjB ?_; refine jjB ?_; refine jjC ?_; refine jO rfl rfl rfl rfl ?_; refine jO rfl rfl rfl rfl ?_)
  refine jjQ ((ready_law3 a c cs wd side _ hd).mono fun v _ _ h => h.trans (by rw [hR])) rfl rfl ?_
  rintro _ w7 hS7 rfl
  cases R with
  | false =>
    (refine jq rfl ?_; apply jI; exact eB rfl; refine jU rfl rfl rfl rfl ?_; refine jU rfl rfl rfl rfl ?_; apply jK rfl; exact eB rfl; refine jz ?_; refine jjJ rfl ?_; refine jjB ?_; refine jjC ?_; apply jI; exact eB rfl; apply jJ; exact eB rfl; refine jz ?_; refine jjF ?_; refine jB rfl rfl ⟨inferInstance, ?_⟩)
    exact rfl
  | true =>
  obtain ⟨hG, hTT, hc⟩ := readyB_yes hR
  have hs := small_of_great hG
  have ha : askE (txF cs) wd side = 0 := askE_yes hTT hc
  have hpos := allP_pos hTT
  obtain ⟨p, hp⟩ := pick_pos hpos x1
  obtain ⟨q, hq⟩ := pick_pos hpos x2
  have hpb := placeB_mem.2 (List.mem_of_getElem? hp)
  have hqb := placeB_mem.2 (List.mem_of_getElem? hq)
  obtain ⟨so, hso⟩ := make_yes hpb side wd
  obtain ⟨sx, hsx⟩ := make_yes hqb side wd
  have hro := (make_right hTT hc hso).1
  obtain ⟨hr1, -, hwo⟩ := slip_less hro q
  obtain ⟨-, hr2, -⟩ := slip_less hro (0, 0, 0)
  have hs0 := small_of_right hro
  have hs1 := small_of_right hr1
  have hs2 := small_of_right hr2
  have hself := where_self hTT hc hso
  have hsame : sx.2 = so.2 → q ∈ whereF (txF cs) so := fun e => where_same (t := txF cs) e ▸ where_self hTT hc hsx
  have h12 : ∀ y ∈ whereF (txF cs) so, y ∈ whereF (txF cs) (q, so.2.1, so.2.2.1, ⟨#[]⟩) := fun y hy => where_some hy
  have h23 : ∀ y ∈ whereF (txF cs) (q, so.2.1, so.2.2.1, ⟨#[]⟩), y ∈ whereF (txF cs) ((0, 0, 0), so.2.1, ⟨#[]⟩, ⟨#[]⟩) := fun y hy => where_bare hy
  have h34 := where_places (txF cs) so.2.1 (0, 0, 0)
  (refine jp rfl ?_; apply jI; exact eB rfl; refine jT rfl rfl rfl ?_; apply jI; exact eB rfl; refine jT rfl rfl rfl ?_; refine jp rfl ?_; apply jL rfl; exact eB rfl; refine jz ?_; refine jjK rfl ?_; refine jjG ?_; refine jjB ?_; refine jjC ?_; refine jO rfl rfl rfl rfl ?_; apply jI; exact eI rfl)
  refine jjQ (place_law3 a c cs _ hs hTT x1 hx1 p hp) rfl rfl ?_
  rintro _ w8 hS8 rfl
  (apply jI; exact eU rfl; refine ju rfl rfl ?_; refine ju rfl rfl ?_)
  (apply jjR rfl; (intro _; first|exact eI rfl|exact eB rfl|exact eP rfl|exact eS rfl|exact eT rfl|exact eA rfl|exact eU rfl|exact eF rfl|exact eM rfl|exact eN rfl|exact rfl); exact rfl; exact rfl; exact rfl; exact rfl; intro b10 w_b10 hb_b10 hs_b10 hS_b10 hk_b10; have hA_b10 := Bk.of hk_b10)
  (apply jJ; exact eB rfl; refine jz ?_; refine jjB ?_; refine jjC ?_; refine jO rfl rfl rfl rfl ?_; apply jI; exact eI rfl)
  refine jjQ (place_law3 a c cs _ hs hTT x2 hx2 q hq) rfl rfl ?_
  rintro _ w9 hS9 rfl
  (apply jI; exact eU rfl; refine ju rfl rfl ?_; refine ju rfl rfl ?_)
  (apply jjR rfl; (intro _; first|exact eI rfl|exact eB rfl|exact eP rfl|exact eS rfl|exact eT rfl|exact eA rfl|exact eU rfl|exact eF rfl|exact eM rfl|exact eN rfl|exact rfl); exact rfl; exact rfl; exact rfl; exact rfl; intro b12 w_b12 hb_b12 hs_b12 hS_b12 hk_b12; have hA_b12 := Bk.of hk_b12)
  have hx10 : At w_b12 b10 0 [.int .i64 p.1, .int .i64 p.2.1, .int .i64 p.2.2] := (Bk.toAt (h := hA_b10)).ext inferInstance
  have hx12 : At w_b12 b12 0 [.int .i64 q.1, .int .i64 q.2.1, .int .i64 q.2.2] := Bk.toAt (h := hA_b12)
  (apply jJ; exact eB rfl; refine jz ?_; refine jjB ?_; refine jjC ?_; refine jO rfl rfl rfl rfl ?_; refine jO rfl rfl rfl rfl ?_; refine jO rfl rfl rfl rfl ?_)
  refine jjQ ((Make_slip a c cs wd side _ p hs hd).mono fun v _ _ h => h.trans (by rw [makeR_some ha hso])) rfl rfl ?_
  rintro _ w10 hS10 rfl
  (apply jI; exact eU rfl; refine ju rfl rfl ?_; refine ju rfl rfl ?_)
  (apply jjR rfl; (intro _; first|exact eI rfl|exact eB rfl|exact eP rfl|exact eS rfl|exact eT rfl|exact eA rfl|exact eU rfl|exact eF rfl|exact eM rfl|exact eN rfl|exact rfl); exact rfl; exact rfl; exact rfl; exact rfl; intro b14 w_b14 hb_b14 hs_b14 hS_b14 hk_b14; have hA_b14 := Bk.of hk_b14)
  have hx14 : At w_b14 b14 0 [.int .i64 so.1.1, .int .i64 so.1.2.1, .int .i64 so.1.2.2, .string so.2.1, .string so.2.2.1, .string so.2.2.2] := Bk.toAt (h := hA_b14)
  (apply jJ; exact eI rfl; refine jz ?_; refine jjB ?_; refine jjC ?_; refine jO rfl rfl rfl rfl ?_; refine jO rfl rfl rfl rfl ?_; refine jO rfl rfl rfl rfl ?_)
  refine jjQ ((Make_slip a c cs wd side _ q hs hd).mono fun v _ _ h => h.trans (by rw [makeR_some ha hsx])) rfl rfl ?_
  rintro _ w11 hS11 rfl
  (apply jI; exact eU rfl; refine ju rfl rfl ?_; refine ju rfl rfl ?_)
  (apply jjR rfl; (intro _; first|exact eI rfl|exact eB rfl|exact eP rfl|exact eS rfl|exact eT rfl|exact eA rfl|exact eU rfl|exact eF rfl|exact eM rfl|exact eN rfl|exact rfl); exact rfl; exact rfl; exact rfl; exact rfl; intro b16 w_b16 hb_b16 hs_b16 hS_b16 hk_b16; have hA_b16 := Bk.of hk_b16)
  have hx16 : At w_b16 b16 0 [.int .i64 sx.1.1, .int .i64 sx.1.2.1, .int .i64 sx.1.2.2, .string sx.2.1, .string sx.2.2.1, .string sx.2.2.2] := Bk.toAt (h := hA_b16)
  (apply jJ; exact eI rfl; refine jz ?_; refine jjB ?_; refine jjC ?_; refine jO rfl rfl rfl rfl ?_; refine jO rfl rfl rfl rfl ?_)
  refine jjQ ((Where_slip a c cs _ so hs hs0).mono fun v _ _ h => by rw [whereR_yes hTT hro] at h; exact h) rfl rfl ?_
  rintro _ w12 hS12 ⟨v1, rfl, hO1⟩
  obtain ⟨L1, hL1⟩ : ∃ L, whereF (txF cs) so = L := ⟨_, rfl⟩
  obtain ⟨L2, hL2⟩ : ∃ L, whereF (txF cs) (q, so.2.1, so.2.2.1, ⟨#[]⟩) = L := ⟨_, rfl⟩
  obtain ⟨L3, hL3⟩ : ∃ L, whereF (txF cs) ((0, 0, 0), so.2.1, ⟨#[]⟩, ⟨#[]⟩) = L := ⟨_, rfl⟩
  rw [hL1, hL2] at h12
  rw [hL2, hL3] at h23
  rw [hL1] at hself hsame
  rw [hL3] at h34
  simp only [hL1] at hO1
  obtain ⟨a1, c1, e1⟩ := hO1.slice
  rw [List.length_map] at e1
  subst e1
  (apply jI; exact eU rfl; refine ju rfl rfl ?_; refine ju rfl rfl ?_; apply jJ; exact eS rfl; apply jJ; exact eI rfl; refine jz ?_; refine jjB ?_; refine jjC ?_; refine jO rfl rfl rfl rfl ?_; refine jO rfl rfl rfl rfl ?_; refine jm ?_; refine jn rfl ?_; refine jN rfl rfl rfl ?_; refine jm ?_; refine jn rfl ?_; refine jN rfl rfl rfl ?_)
  (refine jjS (cells := [.int .i64 q.1, .int .i64 q.2.1, .int .i64 q.2.2, .string so.2.1, .string so.2.2.1, .string ⟨#[]⟩]) ?_ ?_; exact rfl)
  skip
  refine jjQ ((Where_slip a c cs _ (q, so.2.1, so.2.2.1, ⟨#[]⟩) hs hs1).mono fun v _ _ h => by rw [whereR_yes hTT hr1, hL2] at h; exact h) rfl rfl ?_
  rintro _ w13 hS13 ⟨v2, rfl, hO2⟩
  simp only at hO2
  obtain ⟨a2, c2, e2⟩ := hO2.slice
  rw [List.length_map] at e2
  subst e2
  (apply jI; exact eU rfl; refine ju rfl rfl ?_; refine ju rfl rfl ?_; apply jJ; exact eS rfl; apply jJ; exact eI rfl; refine jz ?_; refine jjB ?_; refine jjC ?_; refine jO rfl rfl rfl rfl ?_; refine jm ?_; refine jn rfl ?_; refine jN rfl rfl rfl ?_)
  (refine jjS (cells := [.int .i64 0, .int .i64 0, .int .i64 0, .string so.2.1, .string ⟨#[]⟩, .string ⟨#[]⟩]) ?_ ?_; exact rfl)
  skip
  refine jjQ ((Where_slip a c cs _ ((0, 0, 0), so.2.1, ⟨#[]⟩, ⟨#[]⟩) hs hs2).mono fun v _ _ h => by rw [whereR_yes hTT hr2, hL3] at h; exact h) rfl rfl ?_
  rintro _ w14 hS14 ⟨v3, rfl, hO3⟩
  simp only at hO3
  obtain ⟨a3, c3, e3⟩ := hO3.slice
  rw [List.length_map] at e3
  subst e3
  (apply jI; exact eU rfl; refine ju rfl rfl ?_; refine ju rfl rfl ?_; apply jJ; exact eS rfl; apply jJ; exact eI rfl; refine jz ?_; refine jjB ?_; refine jjC ?_; refine jO rfl rfl rfl rfl ?_; refine jm ?_; refine jn rfl ?_; refine jN rfl rfl rfl ?_)
  refine jjQ ((Places_leaf a c cs _ hs so.2.1 hs0.1).mono fun v _ _ h => by rw [placesR, if_pos hTT, if_pos hwo, ← h34] at h; exact h) rfl rfl ?_
  rintro _ w15 hS15 ⟨v4, rfl, hO4⟩
  simp only at hO4
  obtain ⟨a4, c4, e4⟩ := hO4.slice
  rw [List.length_map] at e4
  subst e4
  have r3 : RowV w15 true 3 (.slice a3 L3.length c3) (L3.map encPl) := hO3.row.ext inferInstance
  have r4 : RowV w15 true 3 (.slice a4 L3.length c4) (L3.map encPl) := hO4.row
  (apply jI; exact eU rfl; refine ju rfl rfl ?_; refine ju rfl rfl ?_; apply jJ; exact eS rfl; apply jJ; exact eI rfl; refine jz ?_; refine jjB ?_; refine jjB ?_; refine jjC ?_; apply jI; exact eB rfl; refine jp rfl ?_; apply jI; exact eB rfl; refine jT rfl rfl rfl ?_; apply jI; exact eB rfl; refine jT rfl rfl rfl ?_; refine jp rfl ?_; apply jL rfl; exact eB rfl; apply jI; exact eB rfl; refine jT rfl rfl rfl ?_; apply jI; exact eI rfl; refine jT rfl rfl rfl ?_; refine jjk rfl rfl (by omega) ?_; apply jL rfl; exact eB rfl; apply jI; exact eB rfl; refine jT rfl rfl rfl ?_; apply jI; exact eI rfl; refine jT rfl rfl rfl ?_; refine jjk rfl rfl (by omega) ?_; apply jL rfl; exact eB rfl; apply jI; exact eB rfl; refine jT rfl rfl rfl ?_; apply jI; exact eI rfl; refine jT rfl rfl rfl ?_; refine jjk rfl rfl (by omega) ?_; apply jL rfl; exact eB rfl; apply jI; exact eB rfl; refine jT rfl rfl rfl ?_; apply jI; exact eI rfl; refine jT rfl rfl rfl ?_; refine jjk rfl rfl (by omega) ?_; apply jL rfl; exact eB rfl; apply jI; exact eB rfl; refine jT rfl rfl rfl ?_; apply jI; exact eI rfl; refine jT rfl rfl rfl ?_; refine jjk rfl rfl (by omega) ?_; apply jL rfl; exact eB rfl; apply jI; exact eB rfl; refine jT rfl rfl rfl ?_; apply jI; exact eI rfl; refine jT rfl rfl rfl ?_; refine jjk rfl rfl (by omega) ?_; apply jL rfl; exact eB rfl; apply jI; exact eB rfl; refine jT rfl rfl rfl ?_; apply jI; exact eS rfl; refine jT rfl rfl rfl ?_; apply jI; exact eS rfl; refine jT rfl rfl rfl ?_)
  refine jjQ ((same_places1 a3 a4 c3 c4 L3.length L3.length L3 L3 _ rfl rfl r3 r4).mono (R' := fun v _ => v = .bool true) fun v _ _ h => h.trans (by rw [decide_eq_true rfl])) rfl rfl ?_
  rintro _ w16 hS16 rfl
  (refine jT rfl rfl rfl ?_; refine jp rfl ?_; apply jL rfl; exact eB rfl; refine jz ?_; refine jjK rfl ?_; refine jjG ?_; refine jjB ?_; refine jjC ?_; apply jJ; exact eF rfl; refine jz ?_; refine jjB ?_; refine jjB ?_; refine jjC ?_; apply jI; exact eS rfl; refine jh rfl ?_; apply jI; exact eI rfl; refine jz ?_; refine jjD ?_)
  have hE16 : Ext w w16 := inferInstance
  have i1 : RowI w16 (.slice a1 L1.length c1) true 3 (L1.map encPl) := ⟨hO1.row.ext inferInstance⟩
  have i2 : RowI w16 (.slice a2 L2.length c2) true 3 (L2.map encPl) := ⟨hO2.row.ext inferInstance⟩
  have i3 : RowI w16 (.slice a3 L3.length c3) true 3 (L3.map encPl) := ⟨r3.ext hS16.ext⟩
  have y10 : At w16 b10 0 [.int .i64 p.1, .int .i64 p.2.1, .int .i64 p.2.2] := hx10.ext inferInstance
  have y12 : At w16 b12 0 [.int .i64 q.1, .int .i64 q.2.1, .int .i64 q.2.2] := hx12.ext inferInstance
  have y14 : At w16 b14 0 [.int .i64 so.1.1, .int .i64 so.1.2.1, .int .i64 so.1.2.2, .string so.2.1, .string so.2.2.1, .string so.2.2.2] := hx14.ext inferInstance
  have y16 : At w16 b16 0 [.int .i64 sx.1.1, .int .i64 sx.1.2.1, .int .i64 sx.1.2.2, .string sx.2.1, .string sx.2.2.1, .string sx.2.2.2] := hx16.ext inferInstance
  have l1 := i1.h.len
  have l2 := i2.h.len
  rw [List.length_map] at l1 l2
  clear hA_b10 hA_b12 hA_b14 hA_b16 hx10 hx12 hx14 hx16 hO1 hO2 hO3 hO4 r3 r4 hL1 hL2 hL3 h34 hso hsx hro hr1 hr2 hp hq
  refine W.keep0 [(9, .bool true), (10, .pointer (some ⟨b10, 0, none⟩)), (12, .pointer (some ⟨b12, 0, none⟩)), (14, .pointer (some ⟨b14, 0, none⟩)), (16, .pointer (some ⟨b16, 0, none⟩)), (18, .slice a1 L1.length c1), (20, .slice a2 L2.length c2), (22, .slice a3 L3.length c3), (26, .func (.func 58) #[] #[]), (136, .slice a1 L1.length c1), (137, .int .i64 (L1.length : Int)), (138, .int .i64 ((0 : Nat) : Int))] ⟨eB rfl, eP rfl, eP rfl, eP rfl, eP rfl, eS rfl, eS rfl, eS rfl, eF rfl, eS rfl, eI rfl, eI rfl, trivial⟩ fun s0 => ?_
  refine W.loop (139 :: 140 :: 141 :: 28 :: 142 :: 143 :: 144 :: 145 :: 146 :: 8 :: 147 :: 138 :: []) (fun g s' V => ∃ k : Nat, s' 138 = .int .i64 ((k : Nat) : Int) ∧ g = L1.length - k ∧ k ≤ L1.length) L1.length ⟨0, rfl, rfl, Nat.zero_le _⟩ ?_
  rintro _ sd V hSV ⟨k, h138, rfl, hk⟩
  refine W.fix (d := 138) h138 ?_
  clear h138
  by_cases hk3 : k < L1.length
  · obtain ⟨u, hu⟩ : ∃ u, L1[k] = u := ⟨_, rfl⟩
    have hin := h12 u (hu ▸ List.getElem_mem hk3)
    (refine jjB ?_; refine jjC ?_; refine jjZ rfl rfl (by omega) ?_; refine jz ?_; refine jjB ?_; refine jjJ rfl ?_; refine jjG ?_; refine jjB ?_; refine jjD ?_; refine jjB ?_; refine jjC ?_; refine jF rfl rfl rfl (map_get (by omega)) ?_; intro _ _ _; refine jQ rfl rfl ?_)
    rw [hu]
    (apply jjR rfl; (intro _; first|exact eI rfl|exact eB rfl|exact eP rfl|exact eS rfl|exact eT rfl|exact eA rfl|exact eU rfl|exact eF rfl|exact eM rfl|exact eN rfl|exact rfl); exact rfl; exact rfl; exact rfl; exact rfl; intro b28 w_b28 hb_b28 hs_b28 hS_b28 hk_b28; have hA_b28 := Bk.of hk_b28)
    have hx28 : At w_b28 b28 0 [.int .i64 u.1, .int .i64 u.2.1, .int .i64 u.2.2] := Bk.toAt (h := hA_b28)
    (refine jz ?_; refine jjB ?_; refine jjC ?_; apply jI; exact eF rfl; apply jI; exact eS rfl; refine jO rfl rfl rfl rfl ?_)
    refine jjQ ((in_where1 a2 c2 L2 u _).mono fun v _ _ h => h.trans (by rw [decide_eq_true hin])) rfl rfl ?_
    rintro _ w18 hS18 rfl
    (refine jp rfl ?_; refine jz ?_; refine jjK rfl ?_; refine jjG ?_; refine jjC ?_; refine jY rfl rfl (by omega) ?_; apply jI; exact eI rfl; refine jz ?_)
    exact ⟨rfl, by ((refine Same.upd rfl ?_; refine Same.upd rfl ?_; refine Same.upd rfl ?_; refine Same.upd rfl ?_; refine Same.upd rfl ?_; refine Same.upd rfl ?_; refine Same.upd rfl ?_; refine Same.upd rfl ?_; refine Same.upd rfl ?_; refine Same.upd rfl ?_; refine Same.upd rfl ?_; refine Same.upd rfl ?_; exact Same.ovN)), L1.length - (k + 1), by omega, inferInstance, k + 1, congrArg (Value.int .i64) (by omega), rfl, by omega⟩
  obtain rfl : k = L1.length := by omega
  (refine jjB ?_; refine jjC ?_; refine jja rfl rfl (by omega) ?_; refine jz ?_; refine jjB ?_; refine jjK rfl ?_; refine jjE ?_; refine jjB ?_; refine jjB ?_; refine jjC ?_; apply jI; exact eS rfl; refine jh rfl ?_; apply jI; exact eI rfl; refine jz ?_; refine jjD ?_)
  have sV : Ext w16 V := hSV.ext
  refine W.keep0 [(9, .bool true), (10, .pointer (some ⟨b10, 0, none⟩)), (12, .pointer (some ⟨b12, 0, none⟩)), (14, .pointer (some ⟨b14, 0, none⟩)), (16, .pointer (some ⟨b16, 0, none⟩)), (18, .slice a1 L1.length c1), (22, .slice a3 L3.length c3), (26, .func (.func 58) #[] #[]), (148, .slice a2 L2.length c2), (149, .int .i64 (L2.length : Int)), (150, .int .i64 ((0 : Nat) : Int))] ⟨eB rfl, eP rfl, eP rfl, eP rfl, eP rfl, eS rfl, eS rfl, eF rfl, eS rfl, eI rfl, eI rfl, trivial⟩ fun s1 => ?_
  refine W.loop (151 :: 152 :: 153 :: 30 :: 154 :: 155 :: 156 :: 157 :: 158 :: 8 :: 159 :: 150 :: []) (fun g s' V' => ∃ k : Nat, s' 150 = .int .i64 ((k : Nat) : Int) ∧ g = L2.length - k ∧ k ≤ L2.length) L2.length ⟨0, rfl, rfl, Nat.zero_le _⟩ ?_
  rintro _ sd2 V2 hSV2 ⟨k, h150, rfl, hk⟩
  refine W.fix (d := 150) h150 ?_
  clear h150
  by_cases hk3 : k < L2.length
  · obtain ⟨u, hu⟩ : ∃ u, L2[k] = u := ⟨_, rfl⟩
    have hin := h23 u (hu ▸ List.getElem_mem hk3)
    (refine jjB ?_; refine jjC ?_; refine jjZ rfl rfl (by omega) ?_; refine jz ?_; refine jjB ?_; refine jjJ rfl ?_; refine jjG ?_; refine jjB ?_; refine jjD ?_; refine jjB ?_; refine jjC ?_; refine jF rfl rfl rfl (map_get (by omega)) ?_; intro _ _ _; refine jQ rfl rfl ?_)
    rw [hu]
    (apply jjR rfl; (intro _; first|exact eI rfl|exact eB rfl|exact eP rfl|exact eS rfl|exact eT rfl|exact eA rfl|exact eU rfl|exact eF rfl|exact eM rfl|exact eN rfl|exact rfl); exact rfl; exact rfl; exact rfl; exact rfl; intro b30 w_b30 hb_b30 hs_b30 hS_b30 hk_b30; have hA_b30 := Bk.of hk_b30)
    have hx30 : At w_b30 b30 0 [.int .i64 u.1, .int .i64 u.2.1, .int .i64 u.2.2] := Bk.toAt (h := hA_b30)
    (refine jz ?_; refine jjB ?_; refine jjC ?_; apply jI; exact eF rfl; apply jI; exact eS rfl; refine jO rfl rfl rfl rfl ?_)
    refine jjQ ((in_where1 a3 c3 L3 u _).mono fun v _ _ h => h.trans (by rw [decide_eq_true hin])) rfl rfl ?_
    rintro _ w18 hS18 rfl
    (refine jp rfl ?_; refine jz ?_; refine jjK rfl ?_; refine jjG ?_; refine jjC ?_; refine jY rfl rfl (by omega) ?_; apply jI; exact eI rfl; refine jz ?_)
    exact ⟨rfl, by ((refine Same.upd rfl ?_; refine Same.upd rfl ?_; refine Same.upd rfl ?_; refine Same.upd rfl ?_; refine Same.upd rfl ?_; refine Same.upd rfl ?_; refine Same.upd rfl ?_; refine Same.upd rfl ?_; refine Same.upd rfl ?_; refine Same.upd rfl ?_; refine Same.upd rfl ?_; refine Same.upd rfl ?_; exact Same.ovN)), L2.length - (k + 1), by omega, inferInstance, k + 1, congrArg (Value.int .i64) (by omega), rfl, by omega⟩
  obtain rfl : k = L2.length := by omega
  (refine jjB ?_; refine jjC ?_; refine jja rfl rfl (by omega) ?_; refine jz ?_; refine jjB ?_; refine jjK rfl ?_; refine jjE ?_; refine jjB ?_; refine jjC ?_; refine jm ?_; refine jn rfl ?_; refine jN rfl rfl rfl ?_; refine jm ?_; refine jn rfl ?_; refine jN rfl rfl rfl ?_)
  refine Ops.eqlS rfl rfl ?_
  have hinp : Ct Tryz.prog 58 [.slice a1 L1.length c1, encPl p] V2 fun v _ => v = .bool true := (in_where1 a1 c1 L1 p _).mono fun v _ _ h => h.trans (by rw [decide_eq_true hself])
  by_cases q1 : sx.2.1 = so.2.1
  rotate_left
  · rw [decide_eq_false q1]
    (apply jI; exact eB rfl; refine jU rfl rfl rfl rfl ?_; refine jU rfl rfl rfl rfl ?_; refine jU rfl rfl rfl rfl ?_; refine jU rfl rfl rfl rfl ?_; refine jU rfl rfl rfl rfl ?_; apply jL rfl; exact eB rfl; apply jI; exact eB rfl; refine jU rfl rfl rfl rfl ?_; refine jU rfl rfl rfl rfl ?_; refine jU rfl rfl rfl rfl ?_; refine jU rfl rfl rfl rfl ?_; refine jU rfl rfl rfl rfl ?_; apply jL rfl; exact eB rfl; apply jJ; exact eB rfl; refine jz ?_; refine jjB ?_; refine jjC ?_; apply jI; exact eB rfl; apply jI; exact eB rfl; refine jT rfl rfl rfl ?_; apply jI; exact eF rfl; refine jT rfl rfl rfl ?_; apply jI; exact eS rfl; refine jT rfl rfl rfl ?_; refine jO rfl rfl rfl rfl ?_; refine jT rfl rfl rfl ?_)
    refine jjQ hinp rfl rfl ?_
    rintro _ w18 hS18 rfl
    (apply jK rfl; exact eB rfl; apply jI; exact eB rfl; refine jT rfl rfl rfl ?_; apply jI; exact eB rfl; refine jT rfl rfl rfl ?_; refine jq rfl ?_; refine jT rfl rfl rfl ?_; apply jI; exact eB rfl; refine jU rfl rfl rfl rfl ?_; refine jU rfl rfl rfl rfl ?_; refine jU rfl rfl rfl rfl ?_; refine jU rfl rfl rfl rfl ?_; refine jT rfl rfl rfl ?_; apply jK rfl; exact eB rfl; apply jK rfl; exact eB rfl; apply jJ; exact eB rfl; refine jz ?_; refine jjF ?_; refine jB rfl rfl ⟨inferInstance, ?_⟩)
    exact rfl
  rw [decide_eq_true q1]
  (apply jI; exact eB rfl; refine jT rfl rfl rfl ?_; refine jm ?_; refine jn rfl ?_; refine jT rfl rfl rfl ?_; refine jN rfl rfl rfl ?_; refine jT rfl rfl rfl ?_; refine jm ?_; refine jn rfl ?_; refine jT rfl rfl rfl ?_; refine jN rfl rfl rfl ?_; refine jT rfl rfl rfl ?_)
  refine Ops.eqlS rfl rfl ?_
  by_cases q2 : sx.2.2.1 = so.2.2.1
  rotate_left
  · rw [decide_eq_false q2]
    (apply jK rfl; exact eB rfl; apply jI; exact eB rfl; refine jU rfl rfl rfl rfl ?_; refine jU rfl rfl rfl rfl ?_; refine jU rfl rfl rfl rfl ?_; refine jU rfl rfl rfl rfl ?_; refine jU rfl rfl rfl rfl ?_; apply jL rfl; exact eB rfl; apply jJ; exact eB rfl; refine jz ?_; refine jjB ?_; refine jjC ?_; apply jI; exact eB rfl; apply jI; exact eB rfl; refine jT rfl rfl rfl ?_; apply jI; exact eF rfl; refine jT rfl rfl rfl ?_; apply jI; exact eS rfl; refine jT rfl rfl rfl ?_; refine jO rfl rfl rfl rfl ?_; refine jT rfl rfl rfl ?_)
    refine jjQ hinp rfl rfl ?_
    rintro _ w18 hS18 rfl
    (apply jK rfl; exact eB rfl; apply jI; exact eB rfl; refine jT rfl rfl rfl ?_; apply jI; exact eB rfl; refine jT rfl rfl rfl ?_; refine jq rfl ?_; refine jT rfl rfl rfl ?_; apply jI; exact eB rfl; refine jU rfl rfl rfl rfl ?_; refine jU rfl rfl rfl rfl ?_; refine jU rfl rfl rfl rfl ?_; refine jU rfl rfl rfl rfl ?_; refine jT rfl rfl rfl ?_; apply jK rfl; exact eB rfl; apply jK rfl; exact eB rfl; apply jJ; exact eB rfl; refine jz ?_; refine jjF ?_; refine jB rfl rfl ⟨inferInstance, ?_⟩)
    exact rfl
  rw [decide_eq_true q2]
  (apply jK rfl; exact eB rfl; apply jI; exact eB rfl; refine jT rfl rfl rfl ?_; refine jm ?_; refine jn rfl ?_; refine jT rfl rfl rfl ?_; refine jN rfl rfl rfl ?_; refine jT rfl rfl rfl ?_; refine jm ?_; refine jn rfl ?_; refine jT rfl rfl rfl ?_; refine jN rfl rfl rfl ?_; refine jT rfl rfl rfl ?_)
  refine Ops.eqlS rfl rfl ?_
  by_cases q3 : sx.2.2.2 = so.2.2.2
  rotate_left
  · rw [decide_eq_false q3]
    (apply jK rfl; exact eB rfl; apply jJ; exact eB rfl; refine jz ?_; refine jjB ?_; refine jjC ?_; apply jI; exact eB rfl; apply jI; exact eB rfl; refine jT rfl rfl rfl ?_; apply jI; exact eF rfl; refine jT rfl rfl rfl ?_; apply jI; exact eS rfl; refine jT rfl rfl rfl ?_; refine jO rfl rfl rfl rfl ?_; refine jT rfl rfl rfl ?_)
    refine jjQ hinp rfl rfl ?_
    rintro _ w18 hS18 rfl
    (apply jK rfl; exact eB rfl; apply jI; exact eB rfl; refine jT rfl rfl rfl ?_; apply jI; exact eB rfl; refine jT rfl rfl rfl ?_; refine jq rfl ?_; refine jT rfl rfl rfl ?_; apply jI; exact eB rfl; refine jU rfl rfl rfl rfl ?_; refine jU rfl rfl rfl rfl ?_; refine jU rfl rfl rfl rfl ?_; refine jU rfl rfl rfl rfl ?_; refine jT rfl rfl rfl ?_; apply jK rfl; exact eB rfl; apply jK rfl; exact eB rfl; apply jJ; exact eB rfl; refine jz ?_; refine jjF ?_; refine jB rfl rfl ⟨inferInstance, ?_⟩)
    exact rfl
  rw [decide_eq_true q3]
  (apply jK rfl; exact eB rfl; apply jJ; exact eB rfl; refine jz ?_; refine jjB ?_; refine jjC ?_; apply jI; exact eB rfl; apply jI; exact eB rfl; refine jT rfl rfl rfl ?_; apply jI; exact eF rfl; refine jT rfl rfl rfl ?_; apply jI; exact eS rfl; refine jT rfl rfl rfl ?_; refine jO rfl rfl rfl rfl ?_; refine jT rfl rfl rfl ?_)
  refine jjQ hinp rfl rfl ?_
  rintro _ w18 hS18 rfl
  have hqin := hsame (Prod.ext q1 (Prod.ext q2 q3))
  (apply jK rfl; exact eB rfl; apply jI; exact eB rfl; refine jT rfl rfl rfl ?_; apply jI; exact eB rfl; refine jT rfl rfl rfl ?_; refine jp rfl ?_; refine jT rfl rfl rfl ?_; apply jI; exact eB rfl; refine jT rfl rfl rfl ?_; apply jI; exact eF rfl; refine jT rfl rfl rfl ?_; apply jI; exact eS rfl; refine jT rfl rfl rfl ?_; refine jO rfl rfl rfl rfl ?_; refine jT rfl rfl rfl ?_)
  refine jjQ ((in_where1 a1 c1 L1 q _).mono fun v _ _ h => h.trans (by rw [decide_eq_true hqin])) rfl rfl ?_
  rintro _ w19 hS19 rfl
  (refine jT rfl rfl rfl ?_; apply jL rfl; exact eB rfl; apply jK rfl; exact eB rfl; apply jJ; exact eB rfl; refine jz ?_; refine jjF ?_; refine jB rfl rfl ⟨inferInstance, ?_⟩)
  exact rfl
end
end Go.Proofs.YtgnjjocafmofaaaGreatDoor
