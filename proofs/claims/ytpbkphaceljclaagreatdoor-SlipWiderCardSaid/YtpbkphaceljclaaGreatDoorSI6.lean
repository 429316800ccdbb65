/- Texts of the proof, part 6: Al3, PlK, PlL, PlM, PlO, VoP, Lg1, Eng29, Lg2, Eng32, Ix1, Vo1, Gal1, GsP, Vo2, ShS, Vo3, Eng33, Gs1, Eng31, Gs2, Gs3, Gal2, GalS, GalL1, Lib2, Gal3, Gal4, Gal5, Ref8a, Gs4, Eng36, Cw1, Wd1, Cw2, LoP, LwP, Eng30, Eng18, Pc1, Rdy, LawWi. -/
import Derived.Shelf.SlSortCmp.Whole1
import Derived.Laws.Cover1
import Derived.Laws.BitsAllLaws
import Derived.Lib.OthersKept
import Derived.Laws.Small
import Derived.ChangeKeysEq
import Derived.Test.YtpbkphaceljclaaGreatDoorSI5
/- The statements' examples: alive. -/
namespace Go.Proofs.YtpbkphaceljclaaGreatDoor
open Go.RowKit

theorem sea_small {cs : List Ch} (h : txF cs = seaT) : SmallT cs := small_of_great (by rw [h]; kernel_rfl)
theorem smallS_lit {p : Pl} {a b c : ByteArray} (h : (Nat.ble a.size 1000 && (Nat.ble b.size 1000 && Nat.ble c.size 1000)) = true) : SmallS (p, a, b, c) := by
  simp only [Bool.and_eq_true, Nat.ble_eq] at h
  exact h
theorem small_of_right {x : Slp} (h : slipB x = true) : SmallS x := by
  simp only [slipB, wordsB, wordB, Bool.and_eq_true, Bool.or_eq_true, decide_eq_true_eq] at h
  exact ⟨by omega, by omega, by omega⟩
set_option maxHeartbeats 16000000 in
theorem alive_law3 (w : World) [hgs : At w 0 0 sidesC] [hgk : At w 1 0 kindsC] [hmx : MxI w] : Ct Tryz.prog 13 [] w fun v _ => v = .bool true := by
  refine Ct.ofW (by simp) ?_
  (refine jjB ?_; refine jjC ?_; apply jJ; exact eB rfl; refine jz ?_; refine jjB ?_; refine jjC ?_)
  refine jjQ (sea_law3 _) rfl rfl ?_
  rintro _ w1 hS1 ⟨a1, c1, cs1, rfl, hR1, hT1, hx1⟩
  have i1 := RowI.mk hR1
  skip
  refine jjQ (cut_law3 3 _) rfl rfl ?_
  rintro _ w2 hS2 rfl
  have hal := All_slip a1 c1 cs1 14 3 w2 (sea_small hx1) (by omega)
  rw [hx1, sea_ask3] at hal
  skip
  refine jjQ hal rfl rfl ?_
  rintro _ w3 hS3 ⟨lv, rfl, hOl⟩
  obtain ⟨la, lc, rfl⟩ := hOl.slice
  rw [List.length_map, sea_allR] at hOl ⊢
  (apply jI; exact eU rfl; refine ju rfl rfl ?_; refine ju rfl rfl ?_; apply jJ; exact eS rfl; apply jJ; exact eI rfl; refine jz ?_; refine jjB ?_; refine jjC ?_)
  refine jjQ (sea_law3 _) rfl rfl ?_
  rintro _ w4 hS4 ⟨a4, c4, cs4, rfl, hR4, hT4, hx4⟩
  have i4 := RowI.mk hR4
  skip
  refine jjQ (cut_law3 3 _) rfl rfl ?_
  rintro _ w5 hS5 rfl
  skip
  refine jjQ (at_law3 0 1 2 _) rfl rfl ?_
  rintro _ w6 hS6 rfl
  skip
  refine jjQ (at_law3 1 0 0 _) rfl rfl ?_
  rintro _ w7 hS7 rfl
  have hpt := Part_slip a4 c4 cs4 14 3 w7 (0, 1, 2) (1, 0, 0) (sea_small hx4) (by omega)
  rw [hx4, sea_part] at hpt
  skip
  refine jjQ hpt rfl rfl ?_
  rintro _ w8 hS8 ⟨mv, rfl, hOm⟩
  obtain ⟨ma, mc, rfl⟩ := hOm.slice
  have hml : (((allS seaT 3 14).take 8).drop 6).length = 2 := by rw [List.length_drop, List.length_take, sea_len]; rfl
  rw [List.length_map] at hOm ⊢
  have hmr := sea_right
  have hms := sea_miss
  generalize hM : ((allS seaT 3 14).take 8).drop 6 = M at *
  (apply jI; exact eU rfl; refine ju rfl rfl ?_; refine ju rfl rfl ?_; apply jJ; exact eS rfl; apply jJ; exact eI rfl; refine jz ?_; refine jjB ?_; refine jjC ?_)
  refine jjQ (sea_law3 _) rfl rfl ?_
  rintro _ w9 hS9 ⟨a9, c9, cs9, rfl, hR9, hT9, hx9⟩
  have i9 := RowI.mk hR9
  skip
  (refine jjS (cells := [.int .i64 0, .int .i64 0, .int .i64 0, .string wSea, .string wThe, .string wNo]) ?_ ?_; exact rfl)
  have hwh := Where_slip a9 c9 cs9 w9 ((0, 0, 0), wSea, wThe, wNo) (sea_small hx9) (smallS_lit rfl)
  rw [hx9, sea_where] at hwh
  skip
  refine jjQ hwh rfl rfl ?_
  rintro _ w10 hS10 ⟨pv, rfl, hOp⟩
  obtain ⟨pa, pc, rfl⟩ := hOp.slice
  (apply jI; exact eU rfl; refine ju rfl rfl ?_; refine ju rfl rfl ?_; apply jJ; exact eS rfl; apply jJ; exact eI rfl; refine jz ?_; refine jjB ?_; refine jjC ?_)
  refine jjQ (sea_law3 _) rfl rfl ?_
  rintro _ w11 hS11 ⟨a11, c11, cs11, rfl, hR11, hT11, hx11⟩
  have i11 := RowI.mk hR11
  skip
  refine jjQ (salt_law3 _) rfl rfl ?_
  rintro _ w12 hS12 ⟨ra, rc, rfl, hRr⟩
  have ir := RowI.mk hRr
  skip
  refine jjQ (at_law3 0 1 2 _) rfl rfl ?_
  rintro _ w13 hS13 rfl
  have hmv := Moved_slip a11 c11 cs11 w13 4 ra rc saltR (0, 1, 2) (sea_small hx11) (small_of_greatR (by kernel_rfl) salt_small)
  rw [hx11, salt_moved] at hmv
  skip
  refine jjQ hmv rfl rfl ?_
  rintro _ w14 hS14 rfl
  (apply jI; exact eU rfl; refine ju rfl rfl ?_; refine ju rfl rfl ?_)
  (apply jjR rfl; (intro _; first|exact eI rfl|exact eB rfl|exact eP rfl|exact eS rfl|exact eT rfl|exact eA rfl|exact eU rfl|exact eF rfl|exact eM rfl|exact eN rfl|exact rfl); exact rfl; exact rfl; exact rfl; exact rfl; intro b7 w_b7 hb_b7 hs_b7 hS_b7 hk_b7; have hA_b7 := Bk.of hk_b7)
  (apply jJ; exact eI rfl; refine jz ?_; refine jjB ?_; refine jjC ?_)
  refine jjQ (sea_law3 _) rfl rfl ?_
  rintro _ w15 hS15 ⟨a15, c15, cs15, rfl, hR15, hT15, hx15⟩
  have i15 := RowI.mk hR15
  skip
  refine jjQ (cut_law3 3 _) rfl rfl ?_
  rintro _ w16 hS16 rfl
  have hM1 : SmallSs M := ⟨by omega, fun x hx => small_of_right (hmr x hx)⟩
  have im : RowI w16 (.slice ma M.length mc) true 6 (M.map encSl) := ⟨(((((((((hOm.ext hS9.ext).ext hS10.ext).ext hS11.ext).ext hS12.ext).ext hS13.ext).ext hS14.ext).ext hS_b7.ext).ext hS15.ext).ext hS16.ext).row⟩
  have hmi := Missing_slip a15 c15 cs15 14 3 ma mc M w16 (sea_small hx15) (by omega) hM1
  rw [hx15, hms.2] at hmi
  have hms1 := hms.1
  generalize (missR seaT 14 3 M).1 = MP at *
  (apply jI; exact eS rfl)
  refine jjQ hmi rfl rfl ?_
  rintro _ w17 hS17 ⟨xv, rfl, hOx⟩
  obtain ⟨xa, xc, rfl⟩ := hOx.slice
  have e8 : (MP.map encPl).length = 8 := by rw [List.length_map, hms1]
  rw [e8] at hOx ⊢
  (apply jI; exact eU rfl; refine ju rfl rfl ?_; refine ju rfl rfl ?_; apply jJ; exact eS rfl; apply jJ; exact eI rfl; refine jz ?_; refine jjB ?_; refine jjC ?_)
  (refine jjS (cells := [.int .i64 0, .int .i64 0, .int .i64 0, .string wA, .string wNo, .string wNo]) ?_ ?_; exact rfl)
  skip
  (refine jjS (cells := [.int .i64 0, .int .i64 0, .int .i64 0, .string wB, .string wNo, .string wNo]) ?_ ?_; exact rfl)
  skip
  refine jjQ ((Order_slip _ ((0, 0, 0), wA, wNo, wNo) ((0, 0, 0), wB, wNo, wNo) (smallS_lit rfl) (smallS_lit rfl)).mono (R' := fun v _ => v = .tuple #[.int .i64 (-1), .int .i64 0]) fun v _ _ h => h.trans (by rw [sea_order])) rfl rfl ?_
  rintro _ w18 hS18 rfl
  (apply jI; exact eU rfl; refine ju rfl rfl ?_; refine ju rfl rfl ?_; apply jJ; exact eI rfl; apply jJ; exact eI rfl; refine jz ?_; refine jjB ?_; refine jjC ?_)
  refine jjQ (sea_law3 _) rfl rfl ?_
  rintro _ w19 hS19 ⟨a19, c19, cs19, rfl, hR19, hT19, hx19⟩
  have i19 := RowI.mk hR19
  skip
  refine jjQ (cut_law3 3 _) rfl rfl ?_
  rintro _ w20 hS20 rfl
  skip
  refine jjQ (at_law3 0 0 2 _) rfl rfl ?_
  rintro _ w21 hS21 rfl
  skip
  (refine jjS (cells := [.int .i64 0, .int .i64 0, .int .i64 2, .string wIs, .string wSea, .string wOld]) ?_ ?_; exact rfl)
  have hwr := Wrong_slip a19 c19 cs19 14 3 w21 ((0, 0, 2), wIs, wSea, wOld) (sea_small hx19) (by omega) (smallS_lit rfl)
  rw [hx19, sea_wrong] at hwr
  skip
  refine jjQ (hwr.mono (R' := fun v _ => v = .tuple #[.int .u8 4, .int .i64 0]) fun v _ _ h => h) rfl rfl ?_
  rintro _ w22 hS22 rfl
  (apply jI; exact eU rfl; refine ju rfl rfl ?_; refine ju rfl rfl ?_; apply jJ; exact eI rfl; apply jJ; exact eI rfl; refine jz ?_; refine jjB ?_; refine jjC ?_)
  (refine jjS (cells := [.int .i64 0, .int .i64 0, .int .i64 0, .string wA, .string wNo, .string wNo]) ?_ ?_; exact rfl)
  skip
  (refine jjS (cells := [.int .i64 0, .int .i64 0, .int .i64 0, .string wA, .string wNo, .string wNo]) ?_ ?_; exact rfl)
  skip
  refine Ops.buildSliceF (cells := [.int .i64 0, .int .i64 0, .int .i64 0, .string wA, .string wNo, .string wNo, .int .i64 0, .int .i64 0, .int .i64 0, .string wA, .string wNo, .string wNo]) rfl rfl rfl ?_
  intro b68 w23 hb68 hs68 hS23 hk68
  have i68 : RowI w23 (.slice (some ⟨b68, 0, none⟩) 2 2) true 6 ([((0, 0, 0), wA, wNo, wNo), ((0, 0, 0), wA, wNo, wNo)].map encSl) := ⟨Bk.rows (xs := [((0, 0, 0), wA, wNo, wNo), ((0, 0, 0), wA, wNo, wNo)].map encSl) hk68 (by simp [fitsV]) (by simp)⟩
  skip
  refine jjQ ((Twice_slip (some ⟨b68, 0, none⟩) 2 [((0, 0, 0), wA, wNo, wNo), ((0, 0, 0), wA, wNo, wNo)] _ ⟨by simp, fun x hx => by simp at hx; subst hx; exact smallS_lit rfl⟩).mono (R' := fun v w' => ∃ sv, v = .tuple #[sv, .int .i64 0] ∧ OwnL w' w23.heap.size 3 false 1 sv ([(1 : Int)].map intV)) fun v _ _ h => by rw [sea_twice] at h; exact h) rfl rfl ?_
  rintro _ w24 hS24 ⟨dv, rfl, hOd⟩
  obtain ⟨da, dc, rfl⟩ := hOd.slice
  (apply jI; exact eU rfl; refine ju rfl rfl ?_; refine ju rfl rfl ?_; apply jJ; exact eS rfl; apply jJ; exact eI rfl; refine jz ?_; refine jjB ?_)
  have hA7 : At w24 b7 0 [.int .i64 0, .int .i64 1, .int .i64 1] := inferInstance
  have hg24 : At w24 0 0 sidesC := inferInstance
  have hRp : RowV w24 true 3 (.slice pa 2 pc) ([((0 : Int), (0 : Int), (1 : Int)), (0, 1, 2)].map encPl) := (((((((((((((hOp.ext hS11.ext).ext hS12.ext).ext hS13.ext).ext hS14.ext).ext hS_b7.ext).ext hS15.ext).ext hS16.ext).ext hS17.ext).ext hS18.ext).ext hS19.ext).ext hS20.ext).ext hS21.ext).ext hS22.ext).row.ext (hS23.ext.trans hS24.ext)
  have hE24 : Ext w w24 := inferInstance
  refine W.keep0 [(1, .slice la 10 lc), (2, .int .i64 0), (3, .slice ma 2 mc), (4, .int .i64 0), (5, .slice pa 2 pc), (6, .int .i64 0), (7, .pointer (some ⟨b7, 0, none⟩)), (8, .int .i64 0), (9, .slice xa 8 xc), (10, .int .i64 0), (11, .int .i64 (-1)), (12, .int .i64 0), (13, .int .u8 4), (14, .int .i64 0), (15, .slice da 1 dc), (16, .int .i64 0)] ⟨eS rfl, eI rfl, by rw [← hml]; exact eS rfl, eI rfl, eS rfl, eI rfl, eP rfl, eI rfl, eS rfl, eI rfl, eI rfl, eI rfl, eI rfl, eI rfl, eS rfl, eI rfl, trivial⟩ fun s0 => ?_
  refine W.draw (fun w' => Ext w24 w') ?_
  intro v0 hv0
  (apply jjW 0; (decide +kernel); exact rfl; (exact inferInstance))
  refine jjQ (at_law3 0 0 2 _) rfl rfl ?_
  rintro _ v1 hv1 rfl
  refine jz ?_
  (apply jjW 1; (decide +kernel); exact rfl; (exact inferInstance))
  refine jjQ (made_ok _ (0, 0, 2) 3 (by omega) wIs wSea wOldOld sea_m002) rfl rfl ?_
  rintro _ v2 hv2 rfl
  refine jz ?_
  (refine jjV [2] ?_ ?_ ?_; (decide +kernel); (exact inferInstance); (((apply jjT; exact rfl; rintro w' hq; have := hq.toStep; apply jI; exact eB rfl; refine jz ?_; exact ⟨rfl, rfl⟩; refine jjU ?_))))
  (apply jjW 3; (decide +kernel); exact rfl; (exact inferInstance))
  (refine jT rfl rfl rfl ?_)
  refine jjQ (at_law3 0 1 0 _) rfl rfl ?_
  rintro _ v3 hv3 rfl
  refine jz ?_
  (apply jjW 4; (decide +kernel); exact rfl; (exact inferInstance))
  (refine jT rfl rfl rfl ?_)
  refine jjQ (made_ok _ (0, 1, 0) 1 (by omega) wOld wSeaIsOld wNo sea_m010l) rfl rfl ?_
  rintro _ v4 hv4 rfl
  refine jz ?_
  (refine jjV [5, 6, 7, 8, 9, 10, 11, 12, 13, 14, 15, 16, 17, 18, 19, 20, 21, 22, 23, 24, 25, 26, 27, 28, 29] ?_ ?_ ?_; (decide +kernel); (exact inferInstance); (((apply jjT; exact rfl; rintro w' hq; have := hq.toStep; apply jK rfl; exact eB rfl; refine jz ?_; exact ⟨rfl, rfl⟩; apply jjT; exact rfl; rintro w' hq; have := hq.toStep; apply jI; exact eB rfl; refine jz ?_; exact ⟨rfl, rfl⟩; apply jjT; exact rfl; rintro w' hq; have := hq.toStep; refine jT rfl rfl rfl ?_; apply jI; exact eI rfl; refine jz ?_; exact ⟨rfl, rfl⟩; apply jjT; exact rfl; rintro w' hq; have := hq.toStep; refine jT rfl rfl rfl ?_; refine ja rfl rfl ?_; refine jz ?_; exact ⟨rfl, rfl⟩; apply jjT; exact rfl; rintro w' hq; have := hq.toStep; apply jK rfl; exact eB rfl; refine jz ?_; exact ⟨rfl, rfl⟩; apply jjT; exact rfl; rintro w' hq; have := hq.toStep; apply jI; exact eB rfl; refine jz ?_; exact ⟨rfl, rfl⟩; apply jjT; exact rfl; rintro w' hq; have := hq.toStep; refine jT rfl rfl rfl ?_; apply jI; exact eS rfl; refine jz ?_; exact ⟨rfl, rfl⟩; apply jjT; exact rfl; rintro w' hq; have := hq.toStep; refine jT rfl rfl rfl ?_; refine jh rfl ?_; refine jz ?_; exact ⟨rfl, rfl⟩; apply jjT; exact rfl; rintro w' hq; have := hq.toStep; refine jT rfl rfl rfl ?_; refine ja rfl rfl ?_; refine jz ?_; exact ⟨rfl, rfl⟩; apply jjT; exact rfl; rintro w' hq; have := hq.toStep; apply jK rfl; exact eB rfl; refine jz ?_; exact ⟨rfl, rfl⟩; apply jjT; exact rfl; rintro w' hq; have := hq.toStep; apply jI; exact eB rfl; refine jz ?_; exact ⟨rfl, rfl⟩; apply jjT; exact rfl; rintro w' hq; have := hq.toStep; refine jT rfl rfl rfl ?_; apply jI; exact eI rfl; refine jz ?_; exact ⟨rfl, rfl⟩; apply jjT; exact rfl; rintro w' hq; have := hq.toStep; refine jT rfl rfl rfl ?_; refine ja rfl rfl ?_; refine jz ?_; exact ⟨rfl, rfl⟩; apply jjT; exact rfl; rintro w' hq; have := hq.toStep; apply jK rfl; exact eB rfl; refine jz ?_; exact ⟨rfl, rfl⟩; apply jjT; exact rfl; rintro w' hq; have := hq.toStep; apply jI; exact eB rfl; refine jz ?_; exact ⟨rfl, rfl⟩; apply jjT; exact rfl; rintro w' hq; have := hq.toStep; refine jT rfl rfl rfl ?_; apply jI; exact eS rfl; refine jz ?_; exact ⟨rfl, rfl⟩; apply jjT; exact rfl; rintro w' hq; have := hq.toStep; refine jT rfl rfl rfl ?_; refine jh rfl ?_; refine jz ?_; exact ⟨rfl, rfl⟩; apply jjT; exact rfl; rintro w' hq; have := hq.toStep; refine jT rfl rfl rfl ?_; refine ja rfl rfl ?_; refine jz ?_; exact ⟨rfl, rfl⟩; apply jjT; exact rfl; rintro w' hq; have := hq.toStep; apply jK rfl; exact eB rfl; refine jz ?_; exact ⟨rfl, rfl⟩; apply jjT; exact rfl; rintro w' hq; have := hq.toStep; apply jI; exact eB rfl; refine jz ?_; exact ⟨rfl, rfl⟩; apply jjT; exact rfl; rintro w' hq; have := hq.toStep; refine jT rfl rfl rfl ?_; apply jI; exact eI rfl; refine jz ?_; exact ⟨rfl, rfl⟩; apply jjT; exact rfl; rintro w' hq; have := hq.toStep; refine jT rfl rfl rfl ?_; refine ja rfl rfl ?_; refine jz ?_; exact ⟨rfl, rfl⟩; apply jjT; exact rfl; rintro w' hq; have := hq.toStep; apply jK rfl; exact eB rfl; refine jz ?_; exact ⟨rfl, rfl⟩; apply jjT; exact rfl; rintro w' hq; have := hq.toStep; apply jI; exact eB rfl; refine jz ?_; exact ⟨rfl, rfl⟩; apply jjT; exact rfl; rintro w' hq; have := hq.toStep; refine jT rfl rfl rfl ?_; apply jI; exact eS rfl; refine jz ?_; exact ⟨rfl, rfl⟩; refine jjU ?_))))
  (apply jjW 30; (decide +kernel); exact rfl; (exact inferInstance))
  (refine jT rfl rfl rfl ?_)
  refine jjQ (at_law3 0 0 1 _) rfl rfl ?_
  rintro _ v5 hv5 rfl
  refine jz ?_
  (apply jjW 31; (decide +kernel); exact rfl; (exact inferInstance))
  (refine jT rfl rfl rfl ?_)
  refine jjQ (at_law3 0 1 2 _) rfl rfl ?_
  rintro _ v6 hv6 rfl
  refine jz ?_
  (apply jjW 32; (decide +kernel); exact rfl; (exact inferInstance))
  (refine jT rfl rfl rfl ?_)
  refine Ops.buildSliceF (cells := [.int .i64 0, .int .i64 0, .int .i64 1, .int .i64 0, .int .i64 1, .int .i64 2]) rfl rfl rfl ?_
  intro b32 v7 hb32 hs32 hv7 hk32
  refine jz ?_
  have hR32 : RowV v7 true 3 (.slice (some ⟨b32, 0, none⟩) 2 2) ([((0 : Int), (0 : Int), (1 : Int)), (0, 1, 2)].map encPl) := Bk.rows (xs := [((0 : Int), (0 : Int), (1 : Int)), (0, 1, 2)].map encPl) hk32 (by simp [fitsV]) (by simp)
  have hRp7 : RowV v7 true 3 (.slice pa 2 pc) ([((0 : Int), (0 : Int), (1 : Int)), (0, 1, 2)].map encPl) := hRp.ext inferInstance
  (apply jjW 33; (decide +kernel); exact rfl; (exact inferInstance))
  (refine jT rfl rfl rfl ?_)
  refine jjQ ((same_places1 pa (some ⟨b32, 0, none⟩) pc 2 2 2 [(0, 0, 1), (0, 1, 2)] [(0, 0, 1), (0, 1, 2)] _ rfl rfl hRp7 hR32).mono (R' := fun v _ => v = .bool true) fun v _ _ h => h.trans (by rw [decide_eq_true rfl])) rfl rfl ?_
  rintro _ v8 hv8 rfl
  refine jz ?_
  (refine jjV [34, 35, 36, 37, 38, 39, 40] ?_ ?_ ?_; (decide +kernel); (exact inferInstance); (((apply jjT; exact rfl; rintro w' hq; have := hq.toStep; apply jK rfl; exact eB rfl; refine jz ?_; exact ⟨rfl, rfl⟩; apply jjT; exact rfl; rintro w' hq; have := hq.toStep; apply jI; exact eB rfl; refine jz ?_; exact ⟨rfl, rfl⟩; apply jjT; exact rfl; rintro w' hq; have := hq.toStep; refine jT rfl rfl rfl ?_; apply jI; exact eI rfl; refine jz ?_; exact ⟨rfl, rfl⟩; apply jjT; exact rfl; rintro w' hq; have := hq.toStep; refine jT rfl rfl rfl ?_; refine ja rfl rfl ?_; refine jz ?_; exact ⟨rfl, rfl⟩; apply jjT; exact rfl; rintro w' hq; have := hq.toStep; apply jK rfl; exact eB rfl; refine jz ?_; exact ⟨rfl, rfl⟩; apply jjT; exact rfl; rintro w' hq; have := hq.toStep; apply jI; exact eB rfl; refine jz ?_; exact ⟨rfl, rfl⟩; apply jjT; exact rfl; rintro w' hq; have := hq.toStep; refine jT rfl rfl rfl ?_; refine jO rfl rfl rfl rfl ?_; refine jz ?_; exact ⟨rfl, rfl⟩; refine jjU ?_))))
  (apply jjW 41; (decide +kernel); exact rfl; (exact inferInstance))
  (refine jT rfl rfl rfl ?_)
  refine jjQ (at_law3 0 1 1 _) rfl rfl ?_
  rintro _ v9 hv9 rfl
  refine jz ?_
  refine jjV [42] (by decide +kernel) inferInstance (jjT (v := .bool true) rfl (fun w' q1 => ?_) (jjU ?_)); (refine jT rfl rfl rfl ?_; refine Ops.eqlT (enc := encPl) (0, 1, 1) (0, 1, 1) rfl rfl ?_; rw [decide_eq_true rfl]; refine jz ?_; exact ⟨rfl, rfl⟩)
  (refine jjV [43, 44, 45, 46, 47, 48, 49, 50, 51, 52, 53, 54, 55, 56, 57, 58, 59, 60, 61, 62, 63, 64, 65, 66, 67, 68, 69, 70, 71, 72, 73, 74] ?_ ?_ ?_; (decide +kernel); (exact inferInstance); (((apply jjT; exact rfl; rintro w' hq; have := hq.toStep; apply jK rfl; exact eB rfl; refine jz ?_; exact ⟨rfl, rfl⟩; apply jjT; exact rfl; rintro w' hq; have := hq.toStep; apply jI; exact eB rfl; refine jz ?_; exact ⟨rfl, rfl⟩; apply jjT; exact rfl; rintro w' hq; have := hq.toStep; refine jT rfl rfl rfl ?_; apply jI; exact eI rfl; refine jz ?_; exact ⟨rfl, rfl⟩; apply jjT; exact rfl; rintro w' hq; have := hq.toStep; refine jT rfl rfl rfl ?_; refine ja rfl rfl ?_; refine jz ?_; exact ⟨rfl, rfl⟩; apply jjT; exact rfl; rintro w' hq; have := hq.toStep; apply jK rfl; exact eB rfl; refine jz ?_; exact ⟨rfl, rfl⟩; apply jjT; exact rfl; rintro w' hq; have := hq.toStep; apply jI; exact eB rfl; refine jz ?_; exact ⟨rfl, rfl⟩; apply jjT; exact rfl; rintro w' hq; have := hq.toStep; refine jT rfl rfl rfl ?_; apply jI; exact eS rfl; refine jz ?_; exact ⟨rfl, rfl⟩; apply jjT; exact rfl; rintro w' hq; have := hq.toStep; refine jT rfl rfl rfl ?_; refine jh rfl ?_; refine jz ?_; exact ⟨rfl, rfl⟩; apply jjT; exact rfl; rintro w' hq; have := hq.toStep; refine jT rfl rfl rfl ?_; refine ja rfl rfl ?_; refine jz ?_; exact ⟨rfl, rfl⟩; apply jjT; exact rfl; rintro w' hq; have := hq.toStep; apply jK rfl; exact eB rfl; refine jz ?_; exact ⟨rfl, rfl⟩; apply jjT; exact rfl; rintro w' hq; have := hq.toStep; apply jI; exact eB rfl; refine jz ?_; exact ⟨rfl, rfl⟩; apply jjT; exact rfl; rintro w' hq; have := hq.toStep; refine jT rfl rfl rfl ?_; apply jI; exact eI rfl; refine jz ?_; exact ⟨rfl, rfl⟩; apply jjT; exact rfl; rintro w' hq; have := hq.toStep; refine jT rfl rfl rfl ?_; refine ja rfl rfl ?_; refine jz ?_; exact ⟨rfl, rfl⟩; apply jjT; exact rfl; rintro w' hq; have := hq.toStep; apply jK rfl; exact eB rfl; refine jz ?_; exact ⟨rfl, rfl⟩; apply jjT; exact rfl; rintro w' hq; have := hq.toStep; apply jI; exact eB rfl; refine jz ?_; exact ⟨rfl, rfl⟩; apply jjT; exact rfl; rintro w' hq; have := hq.toStep; refine jT rfl rfl rfl ?_; apply jI; exact eI rfl; refine jz ?_; exact ⟨rfl, rfl⟩; apply jjT; exact rfl; rintro w' hq; have := hq.toStep; refine jT rfl rfl rfl ?_; refine ja rfl rfl ?_; refine jz ?_; exact ⟨rfl, rfl⟩; apply jjT; exact rfl; rintro w' hq; have := hq.toStep; apply jK rfl; exact eB rfl; refine jz ?_; exact ⟨rfl, rfl⟩; apply jjT; exact rfl; rintro w' hq; have := hq.toStep; apply jI; exact eB rfl; refine jz ?_; exact ⟨rfl, rfl⟩; apply jjT; exact rfl; rintro w' hq; have := hq.toStep; refine jT rfl rfl rfl ?_; apply jI; exact eI rfl; refine jz ?_; exact ⟨rfl, rfl⟩; apply jjT; exact rfl; rintro w' hq; have := hq.toStep; refine jT rfl rfl rfl ?_; refine ja rfl rfl ?_; refine jz ?_; exact ⟨rfl, rfl⟩; apply jjT; exact rfl; rintro w' hq; have := hq.toStep; apply jK rfl; exact eB rfl; refine jz ?_; exact ⟨rfl, rfl⟩; apply jjT; exact rfl; rintro w' hq; have := hq.toStep; apply jI; exact eB rfl; refine jz ?_; exact ⟨rfl, rfl⟩; apply jjT; exact rfl; rintro w' hq; have := hq.toStep; refine jT rfl rfl rfl ?_; apply jI; exact eI rfl; refine jz ?_; exact ⟨rfl, rfl⟩; apply jjT; exact rfl; rintro w' hq; have := hq.toStep; refine jT rfl rfl rfl ?_; refine ja rfl rfl ?_; refine jz ?_; exact ⟨rfl, rfl⟩; apply jjT; exact rfl; rintro w' hq; have := hq.toStep; apply jK rfl; exact eB rfl; refine jz ?_; exact ⟨rfl, rfl⟩; apply jjT; exact rfl; rintro w' hq; have := hq.toStep; apply jI; exact eB rfl; refine jz ?_; exact ⟨rfl, rfl⟩; apply jjT; exact rfl; rintro w' hq; have := hq.toStep; refine jT rfl rfl rfl ?_; apply jI; exact eI rfl; refine jz ?_; exact ⟨rfl, rfl⟩; apply jjT; exact rfl; rintro w' hq; have := hq.toStep; refine jT rfl rfl rfl ?_; refine ja rfl rfl ?_; refine jz ?_; exact ⟨rfl, rfl⟩; apply jjT; exact rfl; rintro w' hq; have := hq.toStep; apply jK rfl; exact eB rfl; refine jz ?_; exact ⟨rfl, rfl⟩; apply jjT; exact rfl; rintro w' hq; have := hq.toStep; apply jI; exact eB rfl; refine jz ?_; exact ⟨rfl, rfl⟩; apply jjT; exact rfl; rintro w' hq; have := hq.toStep; refine jT rfl rfl rfl ?_; apply jI; exact eS rfl; refine jz ?_; exact ⟨rfl, rfl⟩; refine jjU ?_))))
  (apply jjW 75; (decide +kernel); exact rfl; (exact inferInstance))
  (refine jT rfl rfl rfl ?_)
  refine Ops.buildSliceF (cells := [.int .i64 1]) rfl rfl rfl ?_
  intro b75 v10 hb75 hs75 hv10 hk75
  refine jz ?_
  have hR75 : RowV v10 false 1 (.slice (some ⟨b75, 0, none⟩) 1 1) ([(1 : Int)].map intV) := hk75.row (fun x hx => by simp at hx; subst hx; rfl) (by simp)
  have hRd : RowV v10 false 1 (.slice da 1 dc) ([(1 : Int)].map intV) := hOd.row.ext inferInstance
  (apply jjW 76; (decide +kernel); exact rfl; (exact inferInstance))
  (refine jT rfl rfl rfl ?_)
  refine jjQ ((same_ints3 da (some ⟨b75, 0, none⟩) dc 1 1 1 [1] [1] _ rfl rfl hRd hR75).mono (R' := fun v _ => v = .bool true) fun v _ _ h => h.trans (by rw [decide_eq_true rfl])) rfl rfl ?_
  rintro _ v11 hv11 rfl
  refine jz ?_
  (refine jjV [77, 78] ?_ ?_ ?_; (decide +kernel); (exact inferInstance); (((apply jjT; exact rfl; rintro w' hq; have := hq.toStep; apply jK rfl; exact eB rfl; refine jz ?_; exact ⟨rfl, rfl⟩; apply jjT; exact rfl; rintro w' hq; have := hq.toStep; apply jJ; exact eB rfl; refine jz ?_; exact ⟨rfl, rfl⟩; refine jjU ?_))))
  refine jjX (by decide +kernel) inferInstance ?_
  (refine jjF ?_; refine jB rfl rfl ⟨inferInstance, ?_⟩)
  exact rfl
end Go.Proofs.YtpbkphaceljclaaGreatDoor

/- Plain law: which places have slips. -/
namespace Go.Proofs.YtpbkphaceljclaaGreatDoor
open Go.RowKit

theorem wsT_at {t : Tx} {k : Nat} (hk : k < t.length) : wsT t k = t[k].2 := by rw [wsT, List.getD_eq_getElem?_getD, List.getElem?_eq_getElem hk, Option.getD_some]
theorem lineT_at {t : Tx} {k n : Nat} {q : Int} (hk : k < t.length) (hn : n < t[k].2.length) : lineT t ((k : Int), (n : Int), q) = some t[k].2[n] := by
  rw [lineT, if_pos ⟨by simp, by simp⟩]
  simp only [Int.toNat_natCast]
  rw [List.getElem?_eq_getElem hk, Option.bind_some, List.getElem?_eq_getElem hn]
theorem placeB_get {t : Tx} {p : Pl} (h : placeB t p = true) : ∃ (k n w : Nat) (hk : k < t.length) (hn : n < t[k].2.length) (hw : w < t[k].2[n].length), p = ((k : Int), (n : Int), (w : Int)) := by
  obtain ⟨l, hl, q, hq, hp⟩ := placeB_line h
  rw [lineT] at hl
  split at hl
  · rename_i hc
    obtain ⟨x, hx, hl⟩ := Option.bind_eq_some_iff.1 hl
    obtain ⟨hk, rfl⟩ := List.getElem?_eq_some_iff.1 hx
    obtain ⟨hn, rfl⟩ := List.getElem?_eq_some_iff.1 hl
    exact ⟨_, _, q, hk, hn, hq, by ext <;> simp <;> omega⟩
  · cases hl
theorem placeB_yes {t : Tx} {k n w : Nat} (hk : k < t.length) (hn : n < t[k].2.length) (hw : w < t[k].2[n].length) : placeB t ((k : Int), (n : Int), (w : Int)) = true := by
  rw [placeB, lineT_at hk hn]
  simp only [inB, Bool.and_eq_true, decide_eq_true_eq]
  omega
theorem placeB_mem {t : Tx} {p : Pl} : placeB t p = true ↔ p ∈ allP t t.length := by
  constructor
  · intro h
    obtain ⟨k, n, w, hk, hn, hw, rfl⟩ := placeB_get h
    refine mem_allP.2 ⟨k, hk, mem_runA.2 ⟨n, w, ?_, ?_, rfl⟩⟩
    · rw [wsT_at hk]; exact hn
    · simp only [wsT_at hk]; exact hw
  · intro h
    obtain ⟨k, hk, hm⟩ := mem_allP.1 h
    obtain ⟨n, w, hn, hw, rfl⟩ := mem_runA.1 hm
    simp only [wsT_at hk] at hn hw
    exact placeB_yes hk hn hw
theorem makeF_no_place {t : Tx} {side W : Int} {p : Pl} (h : makeF t side W p = none) : placeB t p = false := by
  cases hb : placeB t p with
  | false => rfl
  | true =>
    obtain ⟨k, hk, hm⟩ := mem_allP.1 (placeB_mem.1 hb)
    obtain ⟨i, hi, e⟩ := List.mem_iff_getElem.1 hm
    rw [makeF_yes hk (by rw [List.getElem?_eq_getElem hi, e])] at h
    cases h
theorem askE_yes {t : Tx} {wd side : Int} (h1 : textB t = true) (h2 : cutB wd side = true) : askE t wd side = 0 := by rw [askE, h1, h2]; rfl
end Go.Proofs.YtpbkphaceljclaaGreatDoor

/- Plain law: a valid text has a word. -/
namespace Go.Proofs.YtpbkphaceljclaaGreatDoor
open Go.RowKit

theorem allP_pos {t : Tx} (h : textB t = true) : 0 < (allP t t.length).length := by
  simp only [textB, Bool.and_eq_true, List.all_eq_true] at h
  obtain ⟨⟨h1, h2⟩, _⟩ := h
  have ht : 0 < t.length := by simp only [inB, Bool.and_eq_true, decide_eq_true_eq] at h1; omega
  have hc := h2 t[0] (List.getElem_mem ht)
  simp only [chapB, Bool.and_eq_true, List.all_eq_true] at hc
  obtain ⟨⟨_, h3⟩, h4⟩ := hc
  have hl : 0 < t[0].2.length := by simp only [inB, Bool.and_eq_true, decide_eq_true_eq] at h3; omega
  have hy := h4 t[0].2[0] (List.getElem_mem hl)
  simp only [lineB, Bool.and_eq_true] at hy
  have hw : 0 < t[0].2[0].length := by have := hy.1; simp only [inB, Bool.and_eq_true, decide_eq_true_eq] at this; omega
  exact List.length_pos_of_mem (placeB_mem.1 (placeB_yes ht hl hw))
end Go.Proofs.YtpbkphaceljclaaGreatDoor

/- Plain law: the word of a slip is the word of its place; what all slips are. -/
namespace Go.Proofs.YtpbkphaceljclaaGreatDoor
open Go.RowKit

theorem make_yes {t : Tx} {p : Pl} (h : placeB t p = true) (side wd : Int) : ∃ s, makeF t side wd p = some s := by
  cases hm : makeF t side wd p with
  | none => rw [makeF_no_place hm] at h; cases h
  | some s => exact ⟨s, rfl⟩
end Go.Proofs.YtpbkphaceljclaaGreatDoor

/- Plain law: the order of slips is one. -/
namespace Go.Proofs.YtpbkphaceljclaaGreatDoor
open Go.RowKit

/-- Three answers; turned round the other way; zero for equals alone; one behind the other. -/
structure Ord3 {α : Type} (f : α → α → Int) : Prop where
  r : ∀ a b, f a b = -1 ∨ f a b = 0 ∨ f a b = 1
  anti : ∀ a b, f a b = - f b a
  z : ∀ a b, f a b = 0 ↔ a = b
  tr : ∀ a b c, f a b = -1 → f b c = -1 → f a c = -1
theorem Ord3.map {α β : Type} {f : α → α → Int} (hf : Ord3 f) (k : β → α) (hk : ∀ x y, k x = k y → x = y) : Ord3 (fun x y => f (k x) (k y)) where
  r _ _ := hf.r _ _
  anti _ _ := hf.anti _ _
  z a b := by rw [hf.z]; exact ⟨hk a b, fun e => by rw [e]⟩
  tr _ _ _ := hf.tr _ _ _
end Go.Proofs.YtpbkphaceljclaaGreatDoor

/- Plain law: the words of a text, in order, each once. -/
namespace Go.Proofs.YtpbkphaceljclaaGreatDoor
open Go.RowKit

end Go.Proofs.YtpbkphaceljclaaGreatDoor

/- leaf: all places with their words; Words, PlaceOf. -/
namespace Go.Proofs.YtpbkphaceljclaaGreatDoor
open Go.RowKit

abbrev encPW (x : Pl × ByteArray) : List Value := [encPl x.1, .string x.2]
structure BkF (bx bk : Nat) (a : Option Addr) (c : Nat) (cs : List Ch) (w : World) : Prop where
  bx : At w bx 0 [.pointer (some ⟨bk, 0, none⟩)]
  bk : At w bk 0 [.slice a cs.length c]
  row : RowV w true 2 (.slice a cs.length c) (cs.map encCh)
  tx : TextI w cs
set_option maxHeartbeats 4000000 in
theorem all1_leaf (bx bk : Nat) (a : Option Addr) (c : Nat) (cs : List Ch) (hs : SmallT cs) :
    Iter Tryz.prog 93 [.pointer (some ⟨bx, 0, none⟩)] (allW (txF cs) (txF cs).length) encPW (BkF bx bk a c cs) := by
  intro l J Jx M w hJ hJx hF hM1 hM2 hY h0
  have hs1 := hs.1
  have hF0 := hF 0 w h0
  have := hF0.bx
  have := hF0.bk
  refine Calls.ofW (by simp) ?_
  (refine jjB ?_; refine jjC ?_; refine jN rfl rfl rfl ?_; refine jw rfl ?_; refine jm ?_; refine jn rfl ?_; refine jm ?_; refine jn rfl ?_; refine jN rfl rfl rfl ?_; refine jh rfl ?_; apply jI; exact eI rfl; refine jz ?_; refine jjD ?_)
  refine W.keep0 [(0, .func (.yield l) #[] #[]), (13, .slice a cs.length c), (14, .int .i64 (cs.length : Int)), (15, .int .i64 ((0 : Nat) : Int))] ⟨eF rfl, eS rfl, eI rfl, eI rfl, trivial⟩ fun s0 => ?_
  refine W.loopG (16 :: 17 :: 18 :: 19 :: 4 :: 3 :: 20 :: 21 :: 22 :: 23 :: 24 :: 25 :: 26 :: 27 :: 5 :: 6 :: 28 :: 29 :: 30 :: 31 :: 32 :: 33 :: 34 :: 7 :: 8 :: 35 :: 36 :: 37 :: 38 :: 39 :: 40 :: 41 :: 42 :: 43 :: 44 :: 45 :: 15 :: []) (fun g s' w' => ∃ k : Nat, s' 15 = .int .i64 ((k : Nat) : Int) ∧ k ≤ cs.length ∧ g = cs.length - k ∧ J (allW (txF cs) k).length w') cs.length ⟨0, rfl, by omega, rfl, h0⟩ ?_
  rintro _ sd w' ⟨k, h15, hk, rfl, hJk⟩
  refine W.fix h15 ?_
  clear h15
  have hFk := hF _ _ hJk
  by_cases hkc : k < cs.length
  rotate_left
  · obtain rfl : k = cs.length := by omega
    (refine jjB ?_; refine jjC ?_; refine jja rfl rfl (by omega) ?_; refine jz ?_; refine jjB ?_; refine jjK rfl ?_; refine jjE ?_; refine jA rfl ⟨⟨_, rfl⟩, ?_⟩)
    refine .inl ?_
    rw [txF_len]; exact hJk
  have hsk := hs.2 _ (List.getElem_mem hkc)
  have hsl := hsk.1
  have hcl : (chW cs[k]).length = cs[k].2.2.2.length := by simp [chW]
  have hws := wsT_get hkc
  obtain ⟨ba, oa, rfl, hAk⟩ := hFk.row.place' (map_get hkc)
  have htk : k < (txF cs).length := by rw [txF_len]; exact hkc
  (refine jjB ?_; refine jjC ?_; refine jjZ rfl rfl (by omega) ?_; refine jz ?_; refine jjB ?_; refine jjJ rfl ?_; refine jjG ?_; refine jjB ?_; refine jjD ?_; refine jjB ?_; refine jjC ?_; apply jI; exact eI rfl)
  refine jH k rfl rfl rfl hkc ?_
  (refine jQ rfl rfl ?_)
  ((skip); refine jjY ?_; intro b4 w_b4 hb_b4 hs_b4 hS_b4 hk_b4; have hA_b4 := Bk.of hk_b4)
  (apply jJ; exact eI rfl)
  refine Ops.store rfl rfl rfl rfl rfl ?_
  intro wA hpA
  have hEA : Ext w' wA := hpA.ext hS_b4.ext (by omega)
  have hA4 : At wA b4 0 [.int .i64 cs[k].1, .slice cs[k].2.1 cs[k].2.2.2.length cs[k].2.2.1] := Bk.toAt (h := Bk.of hpA.new)
  have hJA := hJ _ _ _ hJk hEA
  (refine jz ?_; refine jjB ?_; refine jjC ?_; refine jm ?_; refine jn rfl ?_; refine jN rfl rfl rfl ?_; refine jh rfl ?_; apply jI; exact eI rfl; refine jz ?_; refine jjD ?_)
  refine W.keep [(0, .func (.yield l) #[] #[]), (13, .slice (some ⟨ba, oa, none⟩) cs.length c), (14, .int .i64 (cs.length : Int)), (15, .int .i64 ((k : Nat) : Int)), (3, .int .i64 ((k : Nat) : Int)), (21, .slice cs[k].2.1 cs[k].2.2.2.length cs[k].2.2.1), (22, .int .i64 (cs[k].2.2.2.length : Int)), (23, .int .i64 ((0 : Nat) : Int))] (D := (16 :: 17 :: 18 :: 19 :: 4 :: 3 :: 20 :: 21 :: 22 :: 23 :: 24 :: 25 :: 26 :: 27 :: 5 :: 6 :: 28 :: 29 :: 30 :: 31 :: 32 :: 33 :: 34 :: 7 :: 8 :: 35 :: 36 :: 37 :: 38 :: 39 :: 40 :: 41 :: 42 :: 43 :: 44 :: 45 :: 15 :: [])) (sO := upds s0 _) (by ((refine Same.upd rfl ?_; refine Same.upd rfl ?_; refine Same.upd rfl ?_; refine Same.upd rfl ?_; refine Same.upd rfl ?_; refine Same.upd rfl ?_; refine Same.upd rfl ?_; refine Same.upd rfl ?_; refine Same.upd rfl ?_; refine Same.upd rfl ?_; refine Same.upd rfl ?_; exact Same.ovN))) ⟨eF rfl, eS rfl, eI rfl, eI rfl, eI rfl, eS rfl, eI rfl, eI rfl, trivial⟩ fun s1 hs1' => ?_
  refine W.loopG (24 :: 25 :: 26 :: 27 :: 5 :: 6 :: 28 :: 29 :: 30 :: 31 :: 32 :: 33 :: 34 :: 7 :: 8 :: 35 :: 36 :: 37 :: 38 :: 39 :: 40 :: 41 :: 42 :: 43 :: 44 :: 23 :: []) (fun g s' V => ∃ n : Nat, s' 23 = .int .i64 ((n : Nat) : Int) ∧ n ≤ cs[k].2.2.2.length ∧ g = cs[k].2.2.2.length - n ∧ J ((allW (txF cs) k).length + ((chW cs[k]).take n).flatten.length) V) cs[k].2.2.2.length ⟨0, rfl, by omega, rfl, hJA⟩ ?_
  rintro _ sd2 V ⟨n, h23, hn, rfl, hJn⟩
  refine W.fix h23 ?_
  clear h23
  have hFn := hF _ _ hJn
  by_cases hnl : n < cs[k].2.2.2.length
  rotate_left
  · obtain rfl : n = cs[k].2.2.2.length := by omega
    rw [← hcl, List.take_length, ← hws, ← allW_succ] at hJn
    (refine jjB ?_; refine jjC ?_; refine jja rfl rfl (by omega) ?_; refine jz ?_; refine jjB ?_; refine jjK rfl ?_; refine jjE ?_; refine jjC ?_; refine jY rfl rfl (by omega) ?_; apply jI; exact eI rfl; refine jz ?_)
    exact ⟨rfl, by ((refine Same.upd rfl ?_; refine Same.upd rfl ?_; refine Same.upd rfl ?_; refine Same.upd rfl ?_; refine Same.ovN' rfl ?_; assumption)), cs.length - (k + 1), by omega, k + 1, congrArg (Value.int .i64) (by omega), by omega, rfl, hJn⟩
  have hsn := hsk.2 _ (List.getElem_mem hnl)
  have hsq := hsn.1
  have hnc : n < (chW cs[k]).length := by rw [hcl]; exact hnl
  have hcn : (chW cs[k])[n] = cs[k].2.2.2[n].2.2 := by simp [chW]
  have hnx := flat_len_succ hnc
  rw [hcn] at hnx
  have iL := hFn.tx.line hkc
  (refine jjB ?_; refine jjC ?_; refine jjZ rfl rfl (by omega) ?_; refine jz ?_; refine jjB ?_; refine jjJ rfl ?_; refine jjG ?_; refine jjB ?_; refine jjD ?_; refine jjB ?_; refine jjC ?_; apply jI; exact eI rfl; refine jF rfl rfl rfl (map_get (by omega)) ?_; intro _ _ _; refine jQ rfl rfl ?_; apply jJ; exact eI rfl; apply jJ; exact eS rfl; refine jz ?_; refine jjB ?_; refine jjC ?_; apply jI; exact eS rfl; refine jh rfl ?_; apply jI; exact eI rfl; refine jz ?_; refine jjD ?_)
  refine W.keep [(0, .func (.yield l) #[] #[]), (13, .slice (some ⟨ba, oa, none⟩) cs.length c), (14, .int .i64 (cs.length : Int)), (15, .int .i64 ((k : Nat) : Int)), (3, .int .i64 ((k : Nat) : Int)), (21, .slice cs[k].2.1 cs[k].2.2.2.length cs[k].2.2.1), (22, .int .i64 (cs[k].2.2.2.length : Int)), (23, .int .i64 ((n : Nat) : Int)), (5, .int .i64 ((n : Nat) : Int)), (28, .slice cs[k].2.2.2[n].1 cs[k].2.2.2[n].2.2.length cs[k].2.2.2[n].2.1), (29, .int .i64 (cs[k].2.2.2[n].2.2.length : Int)), (30, .int .i64 ((0 : Nat) : Int))] (D := (24 :: 25 :: 26 :: 27 :: 5 :: 6 :: 28 :: 29 :: 30 :: 31 :: 32 :: 33 :: 34 :: 7 :: 8 :: 35 :: 36 :: 37 :: 38 :: 39 :: 40 :: 41 :: 42 :: 43 :: 44 :: 23 :: [])) (sO := upds s1 _) (by ((refine Same.upd rfl ?_; refine Same.upd rfl ?_; refine Same.upd rfl ?_; refine Same.upd rfl ?_; refine Same.upd rfl ?_; refine Same.upd rfl ?_; refine Same.upd rfl ?_; refine Same.upd rfl ?_; refine Same.upd rfl ?_; refine Same.upd rfl ?_; exact Same.ovN))) ⟨eF rfl, eS rfl, eI rfl, eI rfl, eI rfl, eS rfl, eI rfl, eI rfl, eI rfl, eS rfl, eI rfl, eI rfl, trivial⟩ fun s2 hs2' => ?_
  refine W.loopG (31 :: 32 :: 33 :: 34 :: 7 :: 8 :: 35 :: 36 :: 37 :: 38 :: 39 :: 40 :: 41 :: 42 :: 43 :: 30 :: []) (fun g s' V => ∃ q : Nat, s' 30 = .int .i64 ((q : Nat) : Int) ∧ q ≤ cs[k].2.2.2[n].2.2.length ∧ g = cs[k].2.2.2[n].2.2.length - q ∧ J ((allW (txF cs) k).length + (((chW cs[k]).take n).flatten.length + q)) V) cs[k].2.2.2[n].2.2.length ⟨0, rfl, by omega, rfl, hJn⟩ ?_
  rintro _ sd3 V2 ⟨q, h30, hq, rfl, hJq⟩
  refine W.fix h30 ?_
  clear h30
  have hFq := hF _ _ hJq
  by_cases hql : q < cs[k].2.2.2[n].2.2.length
  rotate_left
  · obtain rfl : q = cs[k].2.2.2[n].2.2.length := by omega
    (refine jjB ?_; refine jjC ?_; refine jja rfl rfl (by omega) ?_; refine jz ?_; refine jjB ?_; refine jjK rfl ?_; refine jjE ?_; refine jjC ?_; refine jY rfl rfl (by omega) ?_; apply jI; exact eI rfl; refine jz ?_)
    exact ⟨rfl, by ((refine Same.upd rfl ?_; refine Same.upd rfl ?_; refine Same.upd rfl ?_; refine Same.upd rfl ?_; refine Same.ovN' rfl ?_; assumption)), cs[k].2.2.2.length - (n + 1), by omega, n + 1, congrArg (Value.int .i64) (by omega), by omega, rfl, by rw [hnx]; exact hJq⟩
  have hqc : q < ((wsT (txF cs) k)[n]'(by rw [hws]; exact hnc)).length := by simp only [hws, hcn]; exact hql
  have hall := allW_at htk (by rw [hws]; exact hnc) hqc
  simp only [hws, hcn] at hall
  have iW := hFq.tx.word hkc hnl
  (refine jjB ?_; refine jjC ?_; refine jjZ rfl rfl (by omega) ?_; refine jz ?_; refine jjB ?_; refine jjJ rfl ?_; refine jjG ?_; refine jjB ?_; refine jjD ?_; refine jjB ?_; refine jjC ?_; apply jI; exact eI rfl; refine jF rfl rfl rfl (map_get (by omega)) ?_; intro _ _ _; refine jQ rfl rfl ?_; apply jJ; exact eI rfl; apply jJ; exact eT rfl; refine jz ?_; refine jjB ?_; refine jjC ?_; apply jI; exact eF rfl; apply jI; exact eI rfl; apply jI; exact eI rfl; apply jI; exact eI rfl)
  (refine jjS (cells := [.int .i64 (k : Int), .int .i64 (n : Int), .int .i64 (q : Int)]) ?_ ?_; exact rfl)
  (apply jI; exact eT rfl)
  refine Ops.yield (hY _ _ _ hall hJq) rfl rfl ?_
  rintro e V3 (⟨rfl, hJ3, hFr⟩ | ⟨rfl, hJx3⟩)
  · refine ⟨_, rfl, ?_⟩
    (refine jp rfl ?_; refine jz ?_; refine jjK rfl ?_; refine jjG ?_; refine jjC ?_; refine jY rfl rfl (by omega) ?_; apply jI; exact eI rfl; refine jz ?_)
    exact ⟨rfl, by ((refine Same.upd rfl ?_; refine Same.upd rfl ?_; refine Same.upd rfl ?_; refine Same.upd rfl ?_; refine Same.upd rfl ?_; refine Same.upd rfl ?_; refine Same.upd rfl ?_; refine Same.upd rfl ?_; refine Same.upd rfl ?_; refine Same.upd rfl ?_; refine Same.upd rfl ?_; refine Same.upd rfl ?_; refine Same.upd rfl ?_; refine Same.upd rfl ?_; refine Same.upd rfl ?_; refine Same.upd rfl ?_; refine Same.upd rfl ?_; exact Same.ovN)), cs[k].2.2.2[n].2.2.length - (q + 1), by omega, q + 1, congrArg (Value.int .i64) (by omega), by omega, rfl, hJ3⟩
  · refine ⟨_, rfl, ?_⟩
    (refine jq rfl ?_; refine jz ?_; refine jjJ rfl ?_; refine jjF ?_; refine jA rfl ⟨⟨_, rfl⟩, ?_⟩)
    exact .inr ⟨_, (List.getElem?_eq_some_iff.1 hall).1, hJx3⟩
theorem all_leaf (bk : Nat) (w : World) : Ct Tryz.prog 61 [.pointer (some ⟨bk, 0, none⟩)] w fun v w' => ∃ bx, v = .func (.func 93) #[] ([.pointer (some ⟨bx, 0, none⟩)] : List Value).toArray ∧ w.heap.size ≤ bx ∧ At w' bx 0 [.pointer (some ⟨bk, 0, none⟩)] := by
  refine Ct.ofW (by simp) ?_
  (refine jjB ?_; refine jjC ?_)
  (refine jy rfl ?_; intro bx w_bx hb_bx hs_bx hS_bx hk_bx; have hA_bx := At.ofBlock hk_bx)
  (apply jJ; exact rfl; refine jz ?_; refine jjB ?_; refine jjC ?_; refine jv ?_; apply jJ; exact eF rfl; refine jz ?_; refine jjF ?_; refine jB rfl rfl ⟨inferInstance, ?_⟩)
  exact ⟨bx, rfl, by omega, inferInstance⟩
end Go.Proofs.YtpbkphaceljclaaGreatDoor

/- The proof engine, part 29: two results in variables, where marks lie. -/
namespace Go.Proofs.YtpbkphaceljclaaGreatDoor
open Go.RowKit

theorem fin2CCM {P : Program} {fn : Func} {n N t ty b size bytes t1 ty1 b1 : Nat} {R : Value → World → Prop} {s : Sl} {ds : List Deferred} {w : World} {cs : List Value} {dd dd1 : TypeDesc} {z v1 : Value} {e e1 : Nat} (hf : fn.results = #[.cell t ty, .cell t1 ty1]) (ht : Nat.blt t n = true) (h1 : Nat.blt t1 n = true)
    (hs : s t = .pointer (some ⟨b, 0, none⟩)) (hs1 : s t1 = .pointer (some ⟨b1, 0, none⟩)) (hb : Bk w b cs e) (hb1 : Bk w b1 [v1] e1) [hu : TU P ty dd] (hag : TypeDesc.isAgg dd = true) [hz : TS P ty z size bytes] (hl : cs.length = size) [hu1 : TU P ty1 dd1] (hag1 : TypeDesc.isAgg dd1 = false) (hm : Mks N w ds)
    (h : ∀ w', Grow N w w' → R (.tuple #[.agg cs.toArray, v1]) w') : finM P fn n N R s ds w := by
  unfold finM
  refine ⟨hm, fun w' g => ⟨.tuple #[.agg cs.toArray, v1], ?_, h w' g⟩⟩
  have e0 : (mkA n s []).tmps[t]?.getD undef = .pointer (some ⟨b, 0, none⟩) := by
    rw [mkA_getElem?, if_pos (by simpa using ht)]; exact hs
  have e1 : (mkA n s []).tmps[t1]?.getD undef = .pointer (some ⟨b1, 0, none⟩) := by
    rw [mkA_getElem?, if_pos (by simpa using h1)]; exact hs1
  have hA := Bk.toAt (h := hb.grow g)
  have r0 := run_loadVar_agg (P := P) (t := ty) (w := w') (b := b) (o := 0) hu hag hz (cs := cs) hl (fun i v hv => by have := hA.h i v hv; simpa using this)
  have hc1 : w'.cell? ⟨b1, 0, none⟩ = some v1 := Bk.cell1 (hb1.grow g)
  have r1 := run_loadVar_cell (P := P) (w := w') hu1 hag1 hc1
  simp [results, hf, e0, e1, asAddr, r0, r1]
end Go.Proofs.YtpbkphaceljclaaGreatDoor

/- leaf: Words, PlaceOf. -/
namespace Go.Proofs.YtpbkphaceljclaaGreatDoor
open Go.RowKit

def wordsR (t : Tx) : Int × Int := if textB t then ((allW t t.length).length, 0) else (0, 10)
theorem allW_small {cs : List Ch} (ht : textB (txF cs) = true) : (allW (txF cs) (txF cs).length).length ≤ 600 := by
  have h := allS_len (side := 1) (wd := 12) ht
  rw [allS, List.length_map] at h
  rw [allW_len]; exact h
section
variable (a : Option Addr) (c : Nat) (cs : List Ch) (w : World) [hrow : RowI w (.slice a cs.length c) true 2 (cs.map encCh)] [hT : TextI w cs]
set_option maxHeartbeats 2000000 in
theorem Words_leaf (hs : SmallT cs) : Ct Tryz.prog 47 [.agg #[.slice a cs.length c]] w fun v _ => v = .tuple #[.int .i64 (wordsR (txF cs)).1, .int .i64 (wordsR (txF cs)).2] := by
  refine Ct.ofWM (by simp) ?_
  (refine jjB ?_; refine jjC ?_)
  (refine jy rfl ?_; intro b1 w_b1 hb_b1 hs_b1 hS_b1 hk_b1; have hA_b1 := At.ofBlock hk_b1)
  (apply jJ; exact eI rfl; apply jJ; exact eI rfl; refine jz ?_; refine jjB ?_; refine jjC ?_; refine jO rfl rfl rfl rfl ?_)
  obtain ⟨B, hB⟩ : ∃ B, textB (txF cs) = B := ⟨_, rfl⟩
  refine jjQ ((open_leaf a c cs _ hs).mono fun v _ _ h => by rw [hB] at h; exact h) rfl rfl ?_
  rintro _ w2 hS2 ⟨o, rfl, ho⟩
  have hE2 : Ext w w2 := inferInstance
  rw [wordsR, hB]
  cases B with
  | false =>
    (apply jI; exact eU rfl; refine ju rfl rfl ?_; refine ju rfl rfl ?_; apply jJ; exact rfl; apply jJ; exact eI rfl; refine jz ?_; refine jjB ?_; refine jjB ?_; refine jjC ?_; apply jI; exact eI rfl; refine jc rfl rfl ?_; refine jz ?_; refine jjJ rfl ?_; refine jjB ?_; refine jjC ?_; apply jI; exact eI rfl; apply jJ; exact eI rfl; apply jJ; exact eI rfl; refine jz ?_; refine jjF ?_)
    refine fin2M rfl rfl rfl inferInstance fun w' g => ⟨hE2.ofGrow g (Nat.le_refl _), rfl⟩
  | true =>
  obtain ⟨bk, hbk, rfl, hAk⟩ := ho rfl
  have hal := allW_small hB
  rw [if_pos rfl]
  (apply jI; exact eU rfl; refine ju rfl rfl ?_; refine ju rfl rfl ?_; apply jJ; exact eP rfl; apply jJ; exact eI rfl; refine jz ?_; refine jjB ?_; refine jjB ?_; refine jjC ?_; apply jI; exact eI rfl; refine jc rfl rfl ?_; refine jz ?_; refine jjK rfl ?_; refine jjG ?_; refine jjB ?_; refine jjC ?_)
  (apply jjR rfl; (intro _; first|exact eI rfl|exact eB rfl|exact eP rfl|exact eS rfl|exact eT rfl|exact eA rfl|exact eU rfl|exact eF rfl|exact eM rfl|exact eN rfl|exact rfl); exact rfl; exact rfl; exact rfl; exact rfl; intro b6 w_b6 hb_b6 hs_b6 hS_b6 hk_b6; have hA_b6 := Bk.of hk_b6)
  (refine jz ?_; refine jjB ?_; refine jjB ?_; refine jjC ?_; apply jI; exact eP rfl)
  refine jjQ (all_leaf bk _) rfl rfl ?_
  rintro _ w7 hS7 ⟨bx, rfl, hbx, hAx⟩
  (refine jz ?_; refine jjD ?_)
  have hE7 : Ext w w7 := inferInstance
  have zz := hE7.size
  have z2 := hE2.size
  have z6 := hS_b6.size
  have z7 := hS7.size
  have hB6 : Bk w7 b6 [.int .i64 0] 3 := inferInstance
  have hAk7 : At w7 bk 0 [.slice a cs.length c] := (hAk.ext hS_b6.ext).ext hS7.ext
  have hlk := hAk.lt
  have hlx := hAx.lt
  refine W.range w.heap.size (allW (txF cs) (txF cs).length) encPW (all1_leaf bx bk a c cs hs) rfl (fun _ => rfl) trivial inferInstance hE7.size
    (fun i V => Ext w V ∧ w7.heap.size ≤ V.heap.size ∧ Bk V b6 [.int .i64 ((i : Nat) : Int)] 3 ∧ At V bx 0 [.pointer (some ⟨bk, 0, none⟩)] ∧ At V bk 0 [.slice a cs.length c])
    (fun _ _ _ => False) ?hJ (fun _ _ _ _ h _ => h) ?hF ?h0 (fun x s' _ => s' 6 = .pointer (some ⟨b6, 0, none⟩)) (fun _ _ _ _ h _ => h) ?hassign ?hbody ?hdone (fun _ _ _ _ _ _ _ h => h.elim)
  case hJ =>
    rintro i V V' ⟨h1, h2, h3, h4, h5⟩ g
    exact ⟨h1.ofGrow g zz, Nat.le_trans h2 g.size, h3.grow g, h4.grow g, h5.grow g⟩
  case hF =>
    rintro i V ⟨h1, h2, h3, h4, h5⟩
    exact ⟨h2, h4, h5, hrow.h.ext h1, hT.ext h1⟩
  case h0 => exact ⟨hE7, Nat.le_refl _, hB6, hAx, hAk7⟩
  case hassign =>
    intro l i x V hx hJ hl hr
    (refine jjG ?_)
    exact ⟨rfl, Tr.refl _, Fr.refl _ _, hJ, rfl⟩
  case hbody =>
    rintro l i x s' V hx ⟨h1, h2, h3, h4, h5⟩ ha6 hl hr
    have hlt := (List.getElem?_eq_some_iff.1 hx).1
    refine W.fix (d := 6) ha6 ?_
    (refine jjD ?_; refine jjC ?_; refine jN rfl rfl rfl ?_; refine jY rfl rfl (by omega) ?_)
    refine Ops.store rfl rfl rfl rfl rfl ?_
    intro V2 hp2
    (refine jz ?_)
    refine ⟨hp2.tr ⟨_, h3.h, rfl⟩, hp2.frS (by omega), hp2.ext h1 (by omega), by rw [hp2.size]; exact h2, ?_, hp2.at_ h4 (by omega), hp2.at_ h5 (by omega)⟩
    have e : (((i + 1 : Nat) : Nat) : Int) = (i : Int) + 1 := by omega
    rw [e]; exact ⟨hp2.new⟩
  case hdone =>
    rintro ds' V hmk htr ⟨h1, h2, h3, h4, h5⟩
    (refine jjB ?_; refine jjC ?_; refine jN rfl rfl rfl ?_; apply jJ; exact eI rfl; apply jJ; exact eI rfl; refine jz ?_; refine jjF ?_)
    refine fin2M rfl rfl rfl hmk fun w' g => ⟨h1.ofGrow g (Nat.le_refl _), rfl⟩
set_option maxHeartbeats 4000000 in
theorem PlaceOf_leaf (hs : SmallT cs) (ht : textB (txF cs) = true) (m : Nat) (p : Pl) (hm : (allP (txF cs) (txF cs).length)[m]? = some p) : Ct Tryz.prog 48 [.agg #[.slice a cs.length c], .int .i64 (m : Int)] w fun v _ => v = .tuple #[encPl p, .int .i64 0] := by
  have hml := (List.getElem?_eq_some_iff.1 hm).1
  have hal := allW_small ht
  have hll := allW_len (txF cs) (txF cs).length
  refine Ct.ofWM (by simp) ?_
  (refine jjB ?_; refine jjC ?_)
  (refine jy rfl ?_; intro b2 w_b2 hb_b2 hs_b2 hS_b2 hk_b2; have hA_b2 := At.ofBlock hk_b2)
  skip
  (refine jy rfl ?_; intro b3 w_b3 hb_b3 hs_b3 hS_b3 hk_b3; have hA_b3 := At.ofBlock hk_b3)
  ((skip); refine jjY ?_; intro b4 w_b4 hb_b4 hs_b4 hS_b4 hk_b4; have hA_b4 := Bk.of hk_b4)
  ((skip); refine jjY ?_; intro b5 w_b5 hb_b5 hs_b5 hS_b5 hk_b5; have hA_b5 := Bk.of hk_b5)
  (refine jz ?_; refine jjB ?_; refine jjC ?_; refine jO rfl rfl rfl rfl ?_)
  refine jjQ ((open_leaf a c cs _ hs).mono fun v _ _ h => by rw [ht] at h; exact h) rfl rfl ?_
  rintro _ w6 hS6 ⟨o, rfl, ho⟩
  obtain ⟨bk, hbk, rfl, hAk⟩ := ho rfl
  rw [if_pos rfl]
  (apply jI; exact eU rfl; refine ju rfl rfl ?_; refine ju rfl rfl ?_; apply jJ; exact eP rfl; apply jJ; exact eI rfl; refine jz ?_; refine jjB ?_; refine jjB ?_; refine jjC ?_; apply jI; exact eI rfl; refine jjk rfl rfl (by omega) ?_; refine jz ?_; refine jjK rfl ?_; refine jjG ?_; refine jjB ?_; refine jjB ?_; refine jjC ?_; apply jI; exact eP rfl)
  refine jjQ (all_leaf bk _) rfl rfl ?_
  rintro _ w7 hS7 ⟨bx, rfl, hbx, hAx⟩
  have hE7 : Ext w w7 := inferInstance
  have zz := hE7.size
  have z2 := hS_b2.size
  have z3 := hS_b3.size
  have z4 := hS_b4.size
  have z5 := hS_b5.size
  have z6 := hS6.size
  have z7 := hS7.size
  have hk3 : Bk w_b3 b3 [.int .i64 (m : Int)] 3 := Bk.of hk_b3
  have hB3 : Bk w7 b3 [.int .i64 (m : Int)] 3 := ((((hk3.ext hS_b4.ext).ext hS_b5.ext).ext hS6.ext).ext hS7.ext)
  have hB4 : Bk w7 b4 [.int .i64 0, .int .i64 0, .int .i64 0] 44 := inferInstance
  have hB5 : Bk w7 b5 [.int .i64 0] 32 := inferInstance
  have hAk7 : At w7 bk 0 [.slice a cs.length c] := hAk.ext hS7.ext
  have hlk := hAk.lt
  have hlx := hAx.lt
  (refine jz ?_; refine jjD ?_)
  refine W.range w.heap.size (allW (txF cs) (txF cs).length) encPW (all1_leaf bx bk a c cs hs) rfl (fun _ => rfl) trivial inferInstance hE7.size
    (fun i V => Ext w V ∧ w7.heap.size ≤ V.heap.size ∧ (i ≤ m ∧ Bk V b3 [.int .i64 ((m : Int) - (i : Int))] 3) ∧ (∃ u1 u2 u3, Bk V b4 [.int .i64 u1, .int .i64 u2, .int .i64 u3] 44) ∧ (∃ u, Bk V b5 [.int .i64 u] 32) ∧ At V bx 0 [.pointer (some ⟨bk, 0, none⟩)] ∧ At V bk 0 [.slice a cs.length c])
    (fun cc _ V => cc = .ret ∧ Ext w V ∧ Bk V b4 (encPl p).cells.toList 44 ∧ Bk V b5 [.int .i64 0] 32) ?hJ ?hJx ?hF ?h0 (fun x s' V => ∃ b, s' 3 = .pointer (some ⟨b3, 0, none⟩) ∧ s' 4 = .pointer (some ⟨b4, 0, none⟩) ∧ s' 5 = .pointer (some ⟨b5, 0, none⟩) ∧ s' 8 = .pointer (some ⟨b, 0, none⟩) ∧ Bk V b (encPl x.1).cells.toList 44) (fun x s V V' ⟨b, h1, h2, h3, h4, h5⟩ g => ⟨b, h1, h2, h3, h4, h5.grow g⟩) ?hassign ?hbody ?hdone ?hstop
  case hJ =>
    rintro i V V' ⟨h1, h2, ⟨hi, h3⟩, ⟨u1, u2, u3, h4⟩, ⟨u, h5⟩, h6, h7⟩ g
    exact ⟨h1.ofGrow g zz, Nat.le_trans h2 g.size, ⟨hi, h3.grow g⟩, ⟨u1, u2, u3, h4.grow g⟩, ⟨u, h5.grow g⟩, h6.grow g, h7.grow g⟩
  case hJx =>
    rintro cc i V V' ⟨h0, h1, h2, h3⟩ g
    exact ⟨h0, h1.ofGrow g zz, h2.grow g, h3.grow g⟩
  case hF =>
    rintro i V ⟨h1, h2, h3, h4, h5, h6, h7⟩
    exact ⟨h2, h6, h7, hrow.h.ext h1, hT.ext h1⟩
  case h0 => exact ⟨hE7, Nat.le_refl _, ⟨Nat.zero_le _, by rw [show (m : Int) - ((0 : Nat) : Int) = (m : Int) by omega]; exact hB3⟩, ⟨_, _, _, hB4⟩, ⟨_, hB5⟩, hAx, hAk7⟩
  case hassign =>
    rintro l i x V hx ⟨h1, h2, ⟨hi, h3⟩, ⟨u1, u2, u3, h4⟩, ⟨u, h5⟩, h6, h7⟩ hl hr
    (refine jjC ?_)
    (apply jjR rfl; (intro _; first|exact eI rfl|exact eB rfl|exact eP rfl|exact eS rfl|exact eT rfl|exact eA rfl|exact eU rfl|exact eF rfl|exact eM rfl|exact eN rfl|exact rfl); exact rfl; exact rfl; exact rfl; exact rfl; intro b8 w_b8 hb_b8 hs_b8 hS_b8 hk_b8; have hA_b8 := Bk.of hk_b8)
    (refine jz ?_)
    have e8 := hS_b8.ext
    have y8 := e8.size
    exact ⟨rfl, e8.tr, Fr.ext e8, ⟨h1.trans e8, by omega, ⟨hi, h3.ext e8⟩, ⟨u1, u2, u3, h4.ext e8⟩, ⟨u, h5.ext e8⟩, h6.ext e8, h7.ext e8⟩, b8, rfl, rfl, rfl, rfl, inferInstance⟩
  case hbody =>
    rintro l i x s' V hx ⟨h1, h2, ⟨hi, h3⟩, ⟨u1, u2, u3, h4⟩, ⟨u, h5⟩, h6, h7⟩ ⟨b8, ha3, ha4, ha5, ha8, hb8⟩ hl hr
    refine W.fix (d := 3) ha3 (W.fix (d := 4) ha4 (W.fix (d := 5) ha5 (W.fix (d := 8) ha8 ?_)))
    have hx8 : At V b8 0 [.int .i64 x.1.1, .int .i64 x.1.2.1, .int .i64 x.1.2.2] := Bk.toAt (h := hb8)
    by_cases him : i = m
    · have hxp : x.1 = p := by
        have e1 := congrArg (·[i]?) (allW_fst (txF cs) (txF cs).length)
        simp only [List.getElem?_map, hx, Option.map_some] at e1
        rw [him, hm] at e1
        exact Option.some.inj e1
      have hz0 : (m : Int) - (i : Int) = 0 := by omega
      rw [hz0] at h3
      (refine jjD ?_; refine jjB ?_; refine jjB ?_; refine jjC ?_; refine jN rfl rfl rfl ?_; refine jjh rfl rfl (by omega) ?_; refine jz ?_; refine jjJ rfl ?_; refine jjB ?_; refine jjC ?_; refine jO rfl rfl rfl rfl ?_)
      refine Ops.store rfl rfl rfl rfl rfl ?_
      intro V2 hp2
      have h5' := hp2.bk h5 (by omega)
      skip
      refine Ops.store rfl rfl rfl rfl rfl ?_
      intro V3 hp3
      (refine jz ?_; refine jjF ?_)
      have m4 : Bk V2 b4 (encPl x.1).cells.toList 44 := ⟨hp2.new⟩
      refine ⟨(hp2.tr ⟨_, h4.h, rfl⟩).trans (hp3.tr ⟨_, h5'.h, rfl⟩), rfl, hp3.ext (hp2.ext h1 (by omega)) (by omega), ?_, ⟨hp3.new⟩⟩
      rw [← hxp]; exact hp3.bk m4 (by omega)
    · have hne : ¬ (m : Int) - (i : Int) = 0 := by omega
      (refine jjD ?_; refine jjB ?_; refine jjB ?_; refine jjC ?_; refine jN rfl rfl rfl ?_; refine jji rfl rfl (by omega) ?_; refine jz ?_; refine jjK rfl ?_; refine jjG ?_; refine jjC ?_; refine jN rfl rfl rfl ?_; refine jZ rfl rfl (by omega) ?_)
      refine Ops.store rfl rfl rfl rfl rfl ?_
      intro V2 hp2
      (refine jz ?_)
      refine ⟨hp2.tr ⟨_, h3.h, rfl⟩, hp2.frS (by omega), hp2.ext h1 (by omega), by rw [hp2.size]; exact h2, ⟨by omega, ?_⟩, ⟨u1, u2, u3, hp2.bk h4 (by omega)⟩, ⟨u, hp2.bk h5 (by omega)⟩, hp2.at_ h6 (by omega), hp2.at_ h7 (by omega)⟩
      have e : (m : Int) - ((i + 1 : Nat) : Int) = (m : Int) - (i : Int) - 1 := by omega
      rw [e]; exact ⟨hp2.new⟩
  case hdone =>
    rintro ds' V hmk htr ⟨h1, h2, ⟨hi, h3⟩, _⟩
    omega
  case hstop =>
    rintro ds' cc i V hmk htr hi ⟨rfl, h1, h2, h3⟩
    refine jjF ?_
    exact fin2CCM rfl rfl rfl rfl rfl h2 h3 rfl rfl rfl hmk fun w' g => ⟨h1.ofGrow g (Nat.le_refl _), rfl⟩
end
end Go.Proofs.YtpbkphaceljclaaGreatDoor

/- The proof engine, part 32: iterators that write one block of their own while they run. -/
namespace Go.Proofs.YtpbkphaceljclaaGreatDoor
open Go.RowKit

/-- Below N all is as it was but block kb; data are as they were but in kb. -/
structure GrowB (N kb : Nat) (w w' : World) : Prop where
  os : w'.os = w.os
  tape : w'.tape = w.tape
  output : w'.output = w.output
  size : w.heap.size ≤ w'.heap.size
  old : ∀ (k : Nat), k < N → k ≠ kb → w'.heap[k]? = w.heap[k]?
  data : ∀ (k : Nat) (o : Obj), w.heap[k]? = some o → Obj.loopy o = false → k ≠ kb → w'.heap[k]? = some o
  kd : (∃ o, w.heap[kb]? = some o ∧ Obj.loopy o = false) → ∃ o, w'.heap[kb]? = some o ∧ Obj.loopy o = false
theorem GrowB.refl (N kb : Nat) (w : World) : GrowB N kb w w := ⟨rfl, rfl, rfl, Nat.le_refl _, fun _ _ _ => rfl, fun _ _ h _ _ => h, id⟩
theorem GrowB.trans {N kb : Nat} {a b c : World} (h : GrowB N kb a b) (k : GrowB N kb b c) : GrowB N kb a c :=
  ⟨k.os.trans h.os, k.tape.trans h.tape, k.output.trans h.output, Nat.le_trans h.size k.size, fun i hi hn => (k.old i hi hn).trans (h.old i hi hn), fun i o hi ho hn => k.data i o (h.data i o hi ho hn) ho hn, fun x => k.kd (h.kd x)⟩
theorem GrowB.mono {N M kb : Nat} {w w' : World} (h : GrowB N kb w w') (hM : M ≤ N) : GrowB M kb w w' := ⟨h.os, h.tape, h.output, h.size, fun k hk => h.old k (by omega), h.data, h.kd⟩
theorem GrowB.cell {N kb : Nat} {w w' : World} (g : GrowB N kb w w') {b o : Nat} {v : Value} (h : w.cell? ⟨b, o, none⟩ = some v) (hn : b ≠ kb) : w'.cell? ⟨b, o, none⟩ = some v := by
  obtain ⟨ob, hb, hd⟩ := cell_block h
  have := g.data b ob hb hd hn
  rw [← h]
  exact World.cell?_of_block (a := ⟨b, o, none⟩) (this.trans hb.symm)
/-- A step that leaves the machine's blocks alone but those in E. -/
structure TrE (E : Nat → Prop) (w w' : World) : Prop where
  size : w.heap.size ≤ w'.heap.size
  keep : ∀ (k : Nat) (o : Obj), ¬ E k → w.heap[k]? = some o → Obj.loopy o = true → w'.heap[k]? = some o
theorem TrE.trans {E : Nat → Prop} {a b c : World} (h : TrE E a b) (k : TrE E b c) : TrE E a c := ⟨Nat.le_trans h.size k.size, fun i o hi ho hl => k.keep i o hi (h.keep i o hi ho hl) hl⟩
theorem TrE.mono {E F : Nat → Prop} {a b : World} (h : TrE E a b) (hf : ∀ k, E k → F k) : TrE F a b := ⟨h.size, fun i o hi ho hl => h.keep i o (fun e => hi (hf i e)) ho hl⟩
theorem Yd.mono {P : Program} {l : Nat} {args : List Value} {w : World} {R R' : Ending → World → Prop} (h : Yd P l args w R) (hr : ∀ e w', R e w' → R' e w') : Yd P l args w R' := by
  obtain ⟨fn, tmps, assign, body, h1, h2⟩ := h
  exact ⟨fn, tmps, assign, body, h1, h2.mono hr⟩
section
variable {P : Program} {ro : Option Nat} {n : Nat} {X : Ctx} {s : Sl} {ds : List Deferred} {w : World}
end
/-! ### A slice in a variable that rounds append to, and nothing else -/
def MOb (b : Nat) (V : World) (k : Nat) : Prop := k = b ∨ ∃ v, V.cell? ⟨b, 0, none⟩ = some v ∧ v.ownBlock = some k
theorem MOb.lt {b kb B e e' k' : Nat} {agg : Bool} {V : World} {v : Value} {xs : List Value} {k : Nat} (hb : Bk V b [v] e) (ho : OwnL V B e' agg k' v xs) (hbk : b ≠ kb) (hB : kb < B) (h : MOb b V k) : k < V.heap.size ∧ k ≠ kb := by
  rcases h with rfl | ⟨v', hv, hk⟩
  · exact ⟨hb.lt, hbk⟩
  · rw [hb.cell1] at hv; cases hv
    have := ho.block k hk
    omega
theorem MOb.back {b e N kb : Nat} {V V' : World} {v : Value} {k : Nat} (hb : Bk V b [v] e) (g : GrowB N kb V V') (hn : b ≠ kb) (h : MOb b V' k) : MOb b V k := by
  rcases h with h | ⟨v', hv, hk⟩
  · exact .inl h
  · rw [g.cell hb.cell1 hn] at hv; cases hv
    exact .inr ⟨v, hb.cell1, hk⟩
theorem MOb.same {b e e' : Nat} {V V' : World} {v : Value} {k : Nat} (hb : Bk V b [v] e) (hb' : Bk V' b [v] e') (h : MOb b V' k) : MOb b V k := by
  rcases h with h | ⟨v', hv, hk⟩
  · exact .inl h
  · rw [hb'.cell1] at hv; cases hv
    exact .inr ⟨v, hb.cell1, hk⟩
theorem MOb.append {b B e e' : Nat} {V1 V2 V3 : World} {v v2 : Value} {o : Obj} (hb : Bk V1 b [v] e) (hA : App B V1 V2 v) (hp : PutO V2 V3 b o) (hb3 : Bk V3 b [v2] e') (hw : v2.ownBlock = v.ownBlock ∨ v2.ownBlock = some V1.heap.size) : Fr (MOb b) V1 V3 :=
  ⟨by rw [hp.size]; exact hA.g.size, fun k o' hk _ hm => by
    have h1 : v.ownBlock ≠ some k := fun e => hm (.inr ⟨v, hb.cell1, e⟩)
    have h2 : k ≠ b := fun e => hm (.inl e)
    exact (hp.other k h2).trans (hA.other hk h1),
   fun k hk => by
    rcases hk with h | ⟨v', hv, hk⟩
    · exact .inl (.inl h)
    · rw [hb3.cell1] at hv; cases hv
      rcases hw with h | h
      · exact .inl (.inr ⟨v, hb.cell1, by rw [← h]; exact hk⟩)
      · rw [h] at hk; cases hk; exact .inr (Nat.le_refl _)⟩
end Go.Proofs.YtpbkphaceljclaaGreatDoor

/- leaf: the places of each word of a text, as a map. -/
namespace Go.Proofs.YtpbkphaceljclaaGreatDoor
open Go.RowKit

section
variable (a : Option Addr) (c : Nat) (cs : List Ch) (w : World) [hrow : RowI w (.slice a cs.length c) true 2 (cs.map encCh)] [hT : TextI w cs]
end
end Go.Proofs.YtpbkphaceljclaaGreatDoor

/- leaf: the words of a text, each where it comes first; gathered. -/
namespace Go.Proofs.YtpbkphaceljclaaGreatDoor
open Go.RowKit

end Go.Proofs.YtpbkphaceljclaaGreatDoor

/- galley.Check. -/

namespace Go.Proofs.YtpbkphaceljclaaGreatDoor
open Go.RowKit

end Go.Proofs.YtpbkphaceljclaaGreatDoor

/- Plain law: the galley of a text. -/
namespace Go.Proofs.YtpbkphaceljclaaGreatDoor
open Go.RowKit

end Go.Proofs.YtpbkphaceljclaaGreatDoor

/- slices.AppendSeq, slices.Collect of texts, out of an iterator that writes a block of its own. -/
namespace Go.Proofs.YtpbkphaceljclaaGreatDoor
open Go.RowKit

end Go.Proofs.YtpbkphaceljclaaGreatDoor

/- slices.SortFunc of texts by cmp.Compare: the contract of the library's shelf at this program. -/
namespace Go.Proofs.YtpbkphaceljclaaGreatDoor
open Go.Shelf Go.RowKit Go.Lib Go.Sort
end Go.Proofs.YtpbkphaceljclaaGreatDoor

/- leaf: Vocabulary. -/
namespace Go.Proofs.YtpbkphaceljclaaGreatDoor
open Go.RowKit

section
variable (a : Option Addr) (c : Nat) (cs : List Ch) (w : World) [hrow : RowI w (.slice a cs.length c) true 2 (cs.map encCh)] [hT : TextI w cs]
end
end Go.Proofs.YtpbkphaceljclaaGreatDoor

/- The proof engine, part 33: ends of slices, told outright; rows beside what is appended. -/
namespace Go.Proofs.YtpbkphaceljclaaGreatDoor
open Go.RowKit

theorem App.row {B : Nat} {w w' : World} {u v : Value} {agg : Bool} {k : Nat} {xs : List Value} (a : App B w w' u) (h : RowV w agg k v xs) (hne : ∀ g, u.ownBlock = some g → v.ownBlock ≠ some g) : RowV w' agg k v xs :=
  ⟨h.len, h.fit, h.at_.imp id fun ⟨b, o, c, hv, hl, hc⟩ => ⟨b, o, c, hv, hl, fun j x hx => a.at_ (hc j x hx) (fun e => hne b e (by rw [hv]; rfl))⟩⟩
section rules
variable {P : Program} {ro : Option Nat} {n : Nat} {all rest : List Oper} {K : Sl → World → Prop} {s : Sl} {w : World} {d t e ty : Nat} {pos : String} {af : Array Edge} {x : Operand}
end rules
end Go.Proofs.YtpbkphaceljclaaGreatDoor

/- galley: Set. -/
namespace Go.Proofs.YtpbkphaceljclaaGreatDoor
open Go.RowKit

section
variable (a : Option Addr) (c : Nat) (cs : List Ch) (wd side : Int) (w : World) [hrow : RowI w (.slice a cs.length c) true 2 (cs.map encCh)] [hT : TextI w cs] [hgs : At w 0 0 sidesC]
end
end Go.Proofs.YtpbkphaceljclaaGreatDoor

/- The proof engine, part 31: min and max of three integers; integers of 16 bits. -/
namespace Go.Proofs.YtpbkphaceljclaaGreatDoor
open Go.RowKit
section rules
variable {P : Program} {ro : Option Nat} {n : Nat} {all rest : List Oper} {K : Sl → World → Prop} {s : Sl} {w : World} {d : Nat} {ty : Nat} {pos : String} {af : Array Edge}
variable {x y z : Operand} {at_ : Array Nat}
end rules
end Go.Proofs.YtpbkphaceljclaaGreatDoor

/- The reference: WordAt. -/
namespace Go.Proofs.YtpbkphaceljclaaGreatDoor
open Go.RowKit

section
variable (a : Option Addr) (c : Nat) (cs : List Ch) (w : World) [hrow : RowI w (.slice a cs.length c) true 2 (cs.map encCh)] [hT : TextI w cs]
end
end Go.Proofs.YtpbkphaceljclaaGreatDoor

/- The reference: Vocabulary. -/
namespace Go.Proofs.YtpbkphaceljclaaGreatDoor
open Go.RowKit

section rules
variable {P : Program} {ro : Option Nat} {n : Nat} {all rest : List Oper} {K : Sl → World → Prop} {s : Sl} {w : World} {ty : Nat} {pos : String} {af : Array Edge} {x y : Operand}
theorem OpsS.store {B e b m c i t bytes : Nat} {l : List ByteArray} {u : ByteArray} {z : Value} (hO : OwnL w B e false 1 (.slice (some ⟨b, 0, none⟩) m c) (l.map strV)) (hi : i < l.length) (hx : ev n s x = .pointer (some ⟨b, 0 + i, none⟩)) (hy : ev n s y = .string u) [hz : TS P t z 1 bytes]
    (h : ∀ w' o, PutO w w' b o → OwnL w' B e false 1 (.slice (some ⟨b, 0, none⟩) m c) ((l.set i u).map strV) → Ops P ro n all rest K s w') : Ops P ro n all (⟨none, .store t x y, ty, pos, af, none⟩ :: rest) K s w := by
  rw [Nat.zero_add] at hx
  refine Ops.storeL (B := B) (e := e) (agg := false) (k := 1) (xs := l.map strV) (u := strV u) (X := strV l[i]) (X' := strV u) (j := i) (i := 0) (g := b) hO rfl (by simp [hi]) rfl rfl rfl (by rw [Nat.mul_one, Nat.add_zero]; exact hx) hy rfl rfl ?_
  intro w' o hp hO'
  refine h w' o hp ?_
  rw [List.map_set]; exact hO'
end rules
section
variable (a : Option Addr) (c : Nat) (cs : List Ch) (w : World) [hrow : RowI w (.slice a cs.length c) true 2 (cs.map encCh)] [hT : TextI w cs]
end
end Go.Proofs.YtpbkphaceljclaaGreatDoor

/- galley: tears, places. -/
namespace Go.Proofs.YtpbkphaceljclaaGreatDoor
open Go.RowKit

end Go.Proofs.YtpbkphaceljclaaGreatDoor

/- galley: plain functions. -/
namespace Go.Proofs.YtpbkphaceljclaaGreatDoor
open Go.RowKit

end Go.Proofs.YtpbkphaceljclaaGreatDoor

/- galley, plain laws: where columns may end. -/
namespace Go.Proofs.YtpbkphaceljclaaGreatDoor
open Go.RowKit

end Go.Proofs.YtpbkphaceljclaaGreatDoor

/- slices.AppendSeq, slices.Collect (of int). -/
namespace Go.Proofs.YtpbkphaceljclaaGreatDoor
open Go.RowKit


end Go.Proofs.YtpbkphaceljclaaGreatDoor

/- galley: places. -/
namespace Go.Proofs.YtpbkphaceljclaaGreatDoor
open Go.RowKit

end Go.Proofs.YtpbkphaceljclaaGreatDoor

/- galley: opened. -/
namespace Go.Proofs.YtpbkphaceljclaaGreatDoor
open Go.RowKit

end Go.Proofs.YtpbkphaceljclaaGreatDoor

/- galley: open, Total, Ends, column. -/
namespace Go.Proofs.YtpbkphaceljclaaGreatDoor
open Go.RowKit

end Go.Proofs.YtpbkphaceljclaaGreatDoor

/- The reference of galley: Galley, total, may. -/
namespace Go.Proofs.YtpbkphaceljclaaGreatDoor
open Go.RowKit

end Go.Proofs.YtpbkphaceljclaaGreatDoor

/- The reference: the galley of a text. -/
namespace Go.Proofs.YtpbkphaceljclaaGreatDoor
open Go.RowKit

theorem place_fix {w : World} {agg : Bool} {k l c j b o : Nat} {xs : List Value} {x : Value} (h : RowV w agg k (.slice (some ⟨b, o, none⟩) l c) xs) (hj : xs[j]? = some x) : At w b (o + j * k) x.cells.toList := by
  obtain ⟨b', o', e, hA⟩ := h.place' hj
  cases e
  exact hA
section
variable (a : Option Addr) (c : Nat) (cs : List Ch) (wd side : Int) (w : World) [hrow : RowI w (.slice a cs.length c) true 2 (cs.map encCh)] [hT : TextI w cs]
end
end Go.Proofs.YtpbkphaceljclaaGreatDoor

/- The proof engine, part 36: ranges over texts. -/
namespace Go.Proofs.YtpbkphaceljclaaGreatDoor
open Go.RowKit Go.Lib

/-- Block k is an iterator over b that stands at p. -/
def ItS (w : World) (k : Nat) (b : ByteArray) (p : Nat) : Prop := w.heap[k]? = some (.stringIter b p)
section rules
variable {P : Program} {ro : Option Nat} {n : Nat} {all rest : List Oper} {K : Sl → World → Prop} {s : Sl} {w : World} {d : Nat} {ty : Nat} {pos : String} {af : Array Edge}
variable {x : Operand} {t k p : Nat} {b : ByteArray}
theorem Ops.rangeS (hx : ev n s x = .string b) [ht : TU P t .string] (h : ∀ k w', k = w.heap.size → Step w w' → ItS w' k b 0 → Ops P ro n all rest K (upd s d (.pointer (some ⟨k, 0, none⟩))) w') :
    Ops P ro n all (⟨some d, .range t x, ty, pos, af, none⟩ :: rest) K s w := by
  refine Ops.ofRun (w' := w.iter b 0) rfl ?_ (h w.heap.size _ rfl ⟨(Below.refl _ w).alloc (Nat.le_refl _) _⟩ (World.iter_heap w b 0))
  have := run_range_string w t b ht.h
  simp [execOp, hx, this]
theorem putO_iter (hk : ItS w k b p) (p' : Nat) : PutO w (w.iterAt k b p') k (.stringIter b p') :=
  ⟨rfl, rfl, rfl, iterAt_size w k b p', iterAt_heap w k b p p' hk, fun j hj => iterAt_other w k j b p' hj⟩
theorem Ops.nextY (hx : ev n s x = .pointer (some ⟨k, 0, none⟩)) (hk : ItS w k b p) (hp : p < b.size) (ha : (b[p]'hp).toNat < 128)
    (h : ∀ w', PutO w w' k (.stringIter b (p + 1)) → ItS w' k b (p + 1) → Ops P ro n all rest K (upd s d (.tuple #[.bool true, .int .i64 (p : Int), .int .i32 ((b[p]'hp).toNat : Int)])) w') :
    Ops P ro n all (⟨some d, .next x true, ty, pos, af, none⟩ :: rest) K s w := by
  have hq := putO_iter hk (p + 1)
  refine Ops.ofRun rfl ?_ (h _ hq hq.new)
  have := run_next_ascii_at (P := P) w k b p ty hk hp ha
  simp [execOp, hx, this]
theorem Ops.nextN (hx : ev n s x = .pointer (some ⟨k, 0, none⟩)) (hk : ItS w k b p) (hp : ¬ p < b.size)
    (h : Ops P ro n all rest K (upd s d (.tuple #[.bool false])) w) :
    Ops P ro n all (⟨some d, .next x true, ty, pos, af, none⟩ :: rest) K s w := by
  refine Ops.ofRun rfl ?_ h
  have := run_next_end_at (P := P) w k b p ty hk hp
  simp [execOp, hx, this]
end rules
end Go.Proofs.YtpbkphaceljclaaGreatDoor

/- The law's helpers: how many words a text has (SlipWider, SlipSides). -/
namespace Go.Proofs.YtpbkphaceljclaaGreatDoor
open Go.RowKit

theorem take_count {s : ByteArray} {p : Nat} (hp : p < s.size) : (s.data.toList.take (p + 1)).count 32 = (s.data.toList.take p).count 32 + if s[p] = 32 then 1 else 0 := by
  have hl : p < s.data.toList.length := by simpa using hp
  have e : s.data.toList[p] = s[p] := by simp [ByteArray.getElem_eq_getElem_data]
  rw [List.take_add_one, List.getElem?_eq_getElem hl, List.count_append, e]
  by_cases h : s[p] = 32 <;> simp [h]
theorem take_all {s : ByteArray} : s.data.toList.take s.size = s.data.toList := List.take_of_length_le (by simp)
/-- A text of bytes below 128. -/
def AscB (s : ByteArray) : Prop := ∀ (i : Nat) (h : i < s.size), (s[i]'h).toNat < 128
theorem nat32 {x : UInt8} (h : x ≠ 32) : ((x.toNat : Nat) : Int) ≠ 32 := fun e => by
  have h1 : x.toNat = 32 := by omega
  exact h (UInt8.toNat_inj.1 (h1.trans rfl))
set_option maxHeartbeats 4000000 in
theorem count_wider (s : ByteArray) (w : World) (hz : s.size ≤ 100000) (ha : AscB s) : Ct Tryz.prog 20 [.string s] w fun v _ => v = .int .i64 (nW s : Int) := by
  refine Ct.ofW (by simp) ?_
  obtain ⟨b0, hb0⟩ : ∃ b, decide (s = ⟨#[]⟩) = b := ⟨_, rfl⟩
  (refine jjB ?_; refine jjC ?_; apply jJ; exact eI rfl; refine jz ?_; refine jjB ?_; refine jjB ?_; refine jjC ?_; apply jI; exact eT rfl)
  refine Ops.eqlS rfl rfl ?_
  rw [hb0]
  cases b0 with
  | true =>
    have h0 : s.size = 0 := by rw [of_decide_eq_true hb0]; rfl
    rw [nW, if_pos h0]
    (refine jz ?_; refine jjJ rfl ?_; refine jjB ?_; refine jjC ?_; apply jJ; exact eI rfl; refine jz ?_; refine jjF ?_; refine jB rfl rfl ⟨inferInstance, ?_⟩)
    exact rfl
  | false =>
  have h0 : s.size ≠ 0 := fun h => of_decide_eq_false hb0 (str_nil.2 h)
  (refine jz ?_; refine jjK rfl ?_; refine jjG ?_; refine jjB ?_; refine jjC ?_; apply jJ; exact eI rfl; refine jz ?_; refine jjB ?_; refine jjB ?_; refine jjC ?_; apply jI; exact eT rfl)
  refine Ops.rangeS rfl ?_
  intro kb w1 hkb hS1 hIt
  (refine jz ?_; refine jjD ?_)
  have hE1 : Ext w w1 := inferInstance
  refine W.keep0 [(3, .int .i64 (((1 + (s.data.toList.take 0).count 32 : Nat) : Nat) : Int)), (9, .pointer (some ⟨kb, 0, none⟩))] ⟨eI rfl, eP rfl, trivial⟩ fun s0 => ?_
  refine W.loopG (10 :: 11 :: 12 :: 5 :: 13 :: 14 :: 15 :: 16 :: 3 :: []) (fun g s' V => ∃ p : Nat, s' 3 = .int .i64 (((1 + (s.data.toList.take p).count 32 : Nat) : Nat) : Int) ∧ g = s.size - p ∧ p ≤ s.size ∧ Ext w V ∧ ItS V kb s p) s.size ⟨0, rfl, rfl, Nat.zero_le _, hE1, hIt⟩ ?_
  rintro _ sd V ⟨p, h3, rfl, hp, hE, hI⟩
  have hcl : (s.data.toList.take p).count 32 ≤ 100000 := Nat.le_trans List.count_le_length (by rw [List.length_take]; omega)
  by_cases hps : p < s.size
  · have hc := take_count hps
    have hax := ha p hps
    generalize (s.data.toList.take p).count 32 = cp at *
    refine W.fix (d := 3) h3 ?_
    clear h3
    (refine jjB ?_; refine jjC ?_)
    refine Ops.nextY rfl hI hps hax ?_
    intro V2 hp2 hI2
    have hE2 : Ext w V2 := hp2.ext hE (by omega)
    by_cases h32 : s[p] = 32
    · rw [if_pos h32] at hc
      have hi : ((s[p].toNat : Nat) : Int) = 32 := by rw [h32]; rfl
      (refine ju rfl rfl ?_; refine jz ?_; refine jjB ?_; refine jjJ rfl ?_; refine jjG ?_; refine jjD ?_; refine jjB ?_; refine jjC ?_; refine ju rfl rfl ?_; apply jJ; exact eI rfl; refine jz ?_; refine jjB ?_; refine jjC ?_; apply jI; exact eI rfl; refine jjh rfl rfl (by omega) ?_; refine jz ?_; refine jjJ rfl ?_; refine jjC ?_; apply jI; exact eI rfl; refine jY rfl rfl (by omega) ?_; apply jJ; exact eI rfl; refine jz ?_)
      exact ⟨rfl, by ((refine Same.upd rfl ?_; refine Same.upd rfl ?_; refine Same.upd rfl ?_; refine Same.upd rfl ?_; refine Same.upd rfl ?_; refine Same.upd rfl ?_; refine Same.upd rfl ?_; refine Same.upd rfl ?_; refine Same.upd rfl ?_; refine Same.upd rfl ?_; exact Same.ovN)), s.size - (p + 1), by omega, p + 1, by rw [hc]; exact congrArg (Value.int .i64) (by omega), rfl, by omega, hE2, hI2⟩
    · rw [if_neg h32] at hc
      have hi := nat32 h32
      (refine ju rfl rfl ?_; refine jz ?_; refine jjB ?_; refine jjJ rfl ?_; refine jjG ?_; refine jjD ?_; refine jjB ?_; refine jjC ?_; refine ju rfl rfl ?_; apply jJ; exact eI rfl; refine jz ?_; refine jjB ?_; refine jjC ?_; apply jI; exact eI rfl; refine jji rfl rfl (by omega) ?_; refine jz ?_; refine jjK rfl ?_; refine jjG ?_)
      exact ⟨rfl, by ((refine Same.upd rfl ?_; refine Same.upd rfl ?_; refine Same.upd rfl ?_; refine Same.upd rfl ?_; refine Same.upd rfl ?_; refine Same.upd rfl ?_; refine Same.upd rfl ?_; exact Same.ovN)), s.size - (p + 1), by omega, p + 1, by rw [hc]; exact congrArg (Value.int .i64) (by omega), rfl, by omega, hE2, hI2⟩
  obtain rfl : p = s.size := by omega
  refine W.fix (d := 3) h3 ?_
  clear h3
  (refine jjB ?_; refine jjC ?_)
  refine Ops.nextN rfl hI hps ?_
  (refine ju rfl rfl ?_; refine jz ?_; refine jjB ?_; refine jjK rfl ?_; refine jjE ?_; refine jjB ?_; refine jjC ?_; apply jI; exact eI rfl; apply jJ; exact eI rfl; refine jz ?_; refine jjF ?_; refine jB rfl rfl ⟨inferInstance, ?_⟩)
  rw [take_all, nW, if_neg h0]
  exact congrArg (Value.int .i64) (by omega)
end Go.Proofs.YtpbkphaceljclaaGreatDoor

/- width: the length of a slip's context. -/
namespace Go.Proofs.YtpbkphaceljclaaGreatDoor
open Go.RowKit

/-- Texts of a chapter's length at most. -/
def SmallZ (x : Slp) : Prop := x.2.1.size ≤ 100000 ∧ x.2.2.1.size ≤ 100000 ∧ x.2.2.2.size ≤ 100000
theorem SmallS.toZ {x : Slp} (h : SmallS x) : SmallZ x := ⟨by have := h.1; omega, by have := h.2.1; omega, by have := h.2.2; omega⟩
set_option maxHeartbeats 4000000 in
theorem width_law3 (s : Slp) (w : World) (hs : SmallZ s) : Ct Tryz.prog 18 [encSl s] w fun v _ => v = .int .i64 (widthN s : Int) := by
  obtain ⟨h1, h2, h3⟩ := hs
  refine Ct.ofW (by simp) ?_
  (refine jjB ?_; refine jjC ?_)
  (refine jy rfl ?_; intro b1 w_b1 hb_b1 hs_b1 hS_b1 hk_b1; have hA_b1 := At.ofBlock hk_b1)
  have hx1 : At w_b1 b1 0 [.int .i64 s.1.1, .int .i64 s.1.2.1, .int .i64 s.1.2.2, .string s.2.1, .string s.2.2.1, .string s.2.2.2] := hA_b1
  (apply jJ; exact eI rfl; refine jz ?_; refine jjB ?_; refine jjC ?_; refine jm ?_; refine jn rfl ?_; refine jN rfl rfl rfl ?_; refine ji rfl ?_; apply jJ; exact eI rfl; refine jz ?_; refine jjB ?_; refine jjB ?_; refine jjC ?_; refine jm ?_; refine jn rfl ?_; refine jN rfl rfl rfl ?_; refine jm ?_; refine jn rfl ?_; refine jN rfl rfl rfl ?_)
  refine Ops.buildSliceF (cells := [.string s.2.2.1, .string s.2.2.2]) rfl rfl rfl ?_
  intro b13 w7 hb13 hs13 hS7 hk13
  have hR : RowV w7 false 1 (.slice (some ⟨b13, 0, none⟩) 2 2) ([s.2.2.1, s.2.2.2].map strV) := Bk.rows (xs := [s.2.2.1, s.2.2.2].map strV) hk13 (by simp [fitsV, strV]) (by simp)
  have iR := RowI.mk hR
  (refine jh rfl ?_; apply jI; exact eI rfl; refine jz ?_; refine jjD ?_)
  refine W.keep0 [(3, .int .i64 ((s.2.1.size : Nat) : Int)), (13, .slice (some ⟨b13, 0, none⟩) 2 2), (14, .int .i64 2), (15, .int .i64 ((0 : Nat) : Int))] ⟨eI rfl, eS rfl, eI rfl, eI rfl, trivial⟩ fun s0 => ?_
  refine W.loop (16 :: 17 :: 18 :: 5 :: 19 :: 20 :: 21 :: 22 :: 23 :: 24 :: 25 :: 3 :: 26 :: 15 :: []) (fun g s' V => ∃ k : Nat, s' 15 = .int .i64 ((k : Nat) : Int) ∧ g = 2 - k ∧ k ≤ 2 ∧ s' 3 = .int .i64 ((s.2.1.size + (([s.2.2.1, s.2.2.2].take k).map gapN).sum : Nat) : Int)) 2 ⟨0, rfl, rfl, Nat.zero_le _, rfl⟩ ?_
  rintro _ sd V hS ⟨k, h15, rfl, hk, h3'⟩
  by_cases hk2 : k < 2
  · have hkl : k < [s.2.2.1, s.2.2.2].length := hk2
    obtain ⟨u, hu⟩ : ∃ u, [s.2.2.1, s.2.2.2][k] = u := ⟨_, rfl⟩
    have hus : u.size ≤ 100000 := by
      rcases k with _ | _ | k
      · rw [← hu]; exact h2
      · rw [← hu]; exact h3
      · omega
    have hsum : (([s.2.2.1, s.2.2.2].take (k + 1)).map gapN).sum = (([s.2.2.1, s.2.2.2].take k).map gapN).sum + gapN u := by
      rw [List.take_add_one, List.getElem?_eq_getElem hkl, hu, List.map_append, List.sum_append]; simp
    have hsm : (([s.2.2.1, s.2.2.2].take k).map gapN).sum ≤ 400000 := by
      rcases k with _ | _ | k
      · simp
      · simp only [List.take, List.map_cons, List.map_nil, List.sum_cons, List.sum_nil, gapN]; split <;> omega
      · omega
    obtain ⟨z, hz⟩ : ∃ z, (([s.2.2.1, s.2.2.2].take k).map gapN).sum = z := ⟨_, rfl⟩
    rw [hz] at h3' hsum hsm
    refine W.fix (d := 3) h3' (W.fix (d := 15) h15 ?_)
    clear h3' h15
    (refine jjB ?_; refine jjC ?_; refine jjZ rfl rfl (by omega) ?_; refine jz ?_; refine jjB ?_; refine jjJ rfl ?_; refine jjG ?_; refine jjB ?_; refine jjD ?_; refine jjB ?_; refine jjC ?_; refine jF rfl rfl rfl (map_get (by omega)) ?_; intro _ _ _; refine jQ rfl rfl ?_; apply jJ; exact eT rfl; refine jz ?_; refine jjB ?_; refine jjC ?_; apply jI; exact eT rfl)
    rw [hu]
    skip
    refine Ops.neqS rfl rfl ?_
    by_cases hn : u.size = 0
    · rw [decide_eq_false (p := ¬ u = ⟨#[]⟩) (by rw [str_nil]; simp [hn])]
      (refine jz ?_; refine jjK rfl ?_; refine jjG ?_; refine jjC ?_; refine jY rfl rfl (by omega) ?_; apply jI; exact eI rfl; refine jz ?_)
      refine ⟨rfl, by ((refine Same.upd rfl ?_; refine Same.upd rfl ?_; refine Same.upd rfl ?_; refine Same.upd rfl ?_; refine Same.upd rfl ?_; refine Same.upd rfl ?_; refine Same.upd rfl ?_; refine Same.upd rfl ?_; refine Same.upd rfl ?_; refine Same.upd rfl ?_; exact Same.ovN)), 2 - (k + 1), by omega, inferInstance, k + 1, congrArg (Value.int .i64) (by omega), rfl, by omega, congrArg (Value.int .i64) ?_⟩
      rw [hsum, gapN, if_pos hn]; omega
    · rw [decide_eq_true (p := ¬ u = ⟨#[]⟩) (by rw [str_nil]; exact hn)]
      (refine jz ?_; refine jjJ rfl ?_; refine jjC ?_; apply jI; exact eI rfl; apply jI; exact eT rfl; refine ji rfl ?_; refine jY rfl rfl (by omega) ?_; refine jY rfl rfl (by omega) ?_; apply jJ; exact eI rfl; refine jz ?_; refine jjC ?_; refine jY rfl rfl (by omega) ?_; apply jI; exact eI rfl; refine jz ?_)
      refine ⟨rfl, by ((refine Same.upd rfl ?_; refine Same.upd rfl ?_; refine Same.upd rfl ?_; refine Same.upd rfl ?_; refine Same.upd rfl ?_; refine Same.upd rfl ?_; refine Same.upd rfl ?_; refine Same.upd rfl ?_; refine Same.upd rfl ?_; refine Same.upd rfl ?_; refine Same.upd rfl ?_; refine Same.upd rfl ?_; refine Same.upd rfl ?_; refine Same.upd rfl ?_; refine Same.upd rfl ?_; refine Same.upd rfl ?_; exact Same.ovN)), 2 - (k + 1), by omega, inferInstance, k + 1, congrArg (Value.int .i64) (by omega), rfl, by omega, congrArg (Value.int .i64) ?_⟩
      rw [hsum, gapN, if_neg hn]; omega
  obtain rfl : k = 2 := by omega
  refine W.fix (d := 3) h3' (W.fix (d := 15) h15 ?_)
  clear h3' h15
  (refine jjB ?_; refine jjC ?_; refine jja rfl rfl (by omega) ?_; refine jz ?_; refine jjB ?_; refine jjK rfl ?_; refine jjE ?_; refine jjB ?_; refine jjC ?_; apply jI; exact eI rfl; apply jJ; exact eI rfl; refine jz ?_; refine jjF ?_; refine jB rfl rfl ⟨inferInstance, ?_⟩)
  exact congrArg (Value.int .i64) (by simp only [widthN, List.take, List.map_cons, List.map_nil, List.sum_cons, List.sum_nil]; omega)
end Go.Proofs.YtpbkphaceljclaaGreatDoor

/- The law's helpers: how many words a text has, and how uneven a slip is (SlipSides). -/
namespace Go.Proofs.YtpbkphaceljclaaGreatDoor
open Go.RowKit

/-- The contexts of a slip are texts of words. -/
def CtxB (s : ByteArray) : Prop := AscB s ∧ ∀ h : 0 < s.size, s[0] ≠ 32
theorem nW_le (s : ByteArray) : nW s ≤ s.size + 1 := by
  rw [nW]
  split
  · omega
  · have := List.count_le_length (a := (32 : UInt8)) (l := s.data.toList)
    rw [Array.length_toList] at this
    have e : s.size = s.data.size := rfl
    omega
end Go.Proofs.YtpbkphaceljclaaGreatDoor

/- Plain law: words put one behind the other, with a space between them. -/
namespace Go.Proofs.YtpbkphaceljclaaGreatDoor
open Go.RowKit

/-- What is cut out around a word. -/
def cutS (p : Pl) (wi : ByteArray) (ws : List ByteArray) (i : Nat) (y : Cx) : Slp := (p, wi, joinB ((ws.take i).drop y.1), joinB ((ws.take (y.2 + 1)).drop (i + 1)))
end Go.Proofs.YtpbkphaceljclaaGreatDoor

/- Plain law: what a wider cut makes. -/
namespace Go.Proofs.YtpbkphaceljclaaGreatDoor
open Go.RowKit

theorem mem_join32 : ∀ {ws : List (List UInt8)} {x : UInt8}, x ∈ Lib.join ws [32] → x = 32 ∨ ∃ w ∈ ws, x ∈ w
  | [], x, h => by simp [Lib.join] at h
  | [w], x, h => by rw [Lib.join_one] at h; exact .inr ⟨w, by simp, h⟩
  | w :: y :: r, x, h => by
    rw [join_cc, List.mem_append, List.mem_cons] at h
    rcases h with h | h | h
    · exact .inr ⟨w, by simp, h⟩
    · exact .inl h
    · rcases mem_join32 h with h | ⟨v, hv, hx⟩
      · exact .inl h
      · exact .inr ⟨v, List.mem_cons_of_mem _ hv, hx⟩
theorem joinB_data (ws : List ByteArray) : (joinB ws).data.toList = Lib.join (ws.map (·.data.toList)) [32] := by simp [joinB]
theorem joinB_ctx {ws : List ByteArray} (h : ∀ w ∈ ws, wordB w = true) : CtxB (joinB ws) := by
  have hlow : ∀ w ∈ ws, ∀ x ∈ w.data.toList, lowB x = true := fun w hw x hx => by
    have := h w hw
    simp only [wordB, Bool.and_eq_true, List.all_eq_true] at this
    exact this.2 x hx
  refine ⟨fun i hi => ?_, fun h0 => ?_⟩
  · have hm : (joinB ws)[i] ∈ Lib.join (ws.map (·.data.toList)) [32] := by
      rw [← joinB_data, ByteArray.getElem_eq_getElem_data]
      exact Array.getElem_mem_toList _
    rcases mem_join32 hm with e | ⟨v, hv, hx⟩
    · rw [e]; decide
    · obtain ⟨w, hw, rfl⟩ := List.mem_map.1 hv
      have := hlow w hw _ hx
      simp only [lowB, decide_eq_true_eq] at this
      omega
  · cases ws with
    | nil => exact absurd h0 (by decide)
    | cons w r =>
      have hw := h w (by simp)
      have hsz := (word_size hw).1
      have hsz' : 0 < w.data.toList.length := by rw [Array.length_toList]; exact hsz
      have e : (joinB (w :: r))[0] = w.data.toList[0] := by
        have e1 : (joinB (w :: r)).data.toList[0]? = some w.data.toList[0] := by
          rw [joinB_data]
          cases r with
          | nil => rw [List.map_cons, List.map_nil, Lib.join_one]; exact List.getElem?_eq_getElem hsz'
          | cons y r => rw [List.map_cons, List.map_cons, join_cc, List.getElem?_append_left hsz']; exact List.getElem?_eq_getElem hsz'
        have e2 : (joinB (w :: r)).data.toList[0]? = some (joinB (w :: r))[0] := by
          rw [ByteArray.getElem_eq_getElem_data, Array.getElem?_toList]
          exact Array.getElem?_eq_getElem _
        exact Option.some.inj (e2.symm.trans e1)
      rw [e]
      exact fun hx => word_noSp hw _ (List.getElem_mem hsz') hx
/-- What is made is cut out around the word. -/
theorem make_cut {cs : List Ch} {k i : Nat} (hk : k < cs.length) {p : Pl} (hki : (runA k (chW cs[k]))[i]? = some p) {wd side : Int} {so : Slp} (ht : textB (txF cs) = true) (hc : cutB wd side = true) (h : makeF (txF cs) side wd p = some so) :
    ∃ hi : i < (rnW cs[k]).length, so = cutS p (rnW cs[k])[i] (rnW cs[k]) i (bestA (rnW cs[k]) side wd i) ∧ ((rnW cs[k])[i].size : Int) ≤ wd ∧ (rnW cs[k]).length ≤ 100 ∧ (∀ s ∈ rnW cs[k], wordB s = true) ∧ (runA k (chW cs[k])).length = (rnW cs[k]).length ∧ p.1 = (k : Int) := by
  obtain ⟨k', i', hi', hk', hki', hww, hiw, hsoE⟩ := make_open ht hc h
  have e1 := runA_fst (List.mem_of_getElem? hki)
  have e2 := runA_fst (List.mem_of_getElem? hki')
  obtain rfl : k' = k := by omega
  have hl := chap_len ht hk'
  have ew : wsT (txF cs) k' = chW cs[k'] := wsT_get hk
  have hrl := runA_len k' (wsT (txF cs) k')
  generalize wsT (txF cs) k' = z at *
  subst ew
  obtain rfl : i' = i := nodup_inj (runA_nodup _ _) hki' hki
  exact ⟨hi', hsoE, hiw, hl, hww, hrl, e1⟩
section
variable {ws : List ByteArray} (hw : ∀ w ∈ ws, wordB w = true) {i : Nat} (hi : i < ws.length) {side wd : Int} (hW : (ws[i].size : Int) ≤ wd) (p : Pl)
include hw hW
/-- The contexts of what is cut out. -/
theorem cut_facts : ∃ y : Cx, bestA ws side wd i = y ∧ y.1 ≤ i ∧ i ≤ y.2 ∧ y.2 < ws.length ∧ (widthN (cutS p ws[i] ws i y) : Int) = lenX ws y ∧ nW (cutS p ws[i] ws i y).2.2.1 = i - y.1 ∧ nW (cutS p ws[i] ws i y).2.2.2 = y.2 - i ∧ CtxB (cutS p ws[i] ws i y).2.2.1 ∧ CtxB (cutS p ws[i] ws i y).2.2.2 := by
  obtain ⟨⟨b1, b2, b3, b4⟩, -⟩ := best_spec (side := side) hi hW
  have ha : ∀ a b, ∀ w ∈ (ws.take b).drop a, wordB w = true := fun a b => take_words hw
  refine ⟨_, rfl, b1, b2, b3, width_cut hw hi b1 b2 b3 p, ?_, ?_, joinB_ctx (ha _ _), joinB_ctx (ha _ _)⟩
  · exact (nW_join (ha _ _)).trans (cut_len b1 (by omega))
  · exact (nW_join (ha _ _)).trans ((cut_len (by omega) (by omega)).trans (by omega))
end
theorem make_idx {cs : List Ch} {p : Pl} {wd side : Int} {so : Slp} (ht : textB (txF cs) = true) (hc : cutB wd side = true) (h : makeF (txF cs) side wd p = some so) : ∃ (k i : Nat) (hk : k < cs.length), (runA k (chW cs[k]))[i]? = some p := by
  obtain ⟨k, i, hi, hk, hki, -⟩ := make_open ht hc h
  have hkc : k < cs.length := by rw [← txF_len]; exact hk
  rw [wsT_get hkc] at hki
  exact ⟨k, i, hkc, hki⟩
theorem wi_facts {cs : List Ch} {k i : Nat} (hk : k < cs.length) {p : Pl} (hki : (runA k (chW cs[k]))[i]? = some p) {wd wd' side : Int} {so sx : Slp} (ht : textB (txF cs) = true) (hc : cutB wd side = true) (hc' : cutB wd' side = true) (hWW : wd ≤ wd') (h : makeF (txF cs) side wd p = some so) (h' : makeF (txF cs) side wd' p = some sx) :
    ∃ y : Cx, y.1 ≤ i ∧ i ≤ y.2 ∧ y.2 < (rnW cs[k]).length ∧ nW so.2.2.1 = i - y.1 ∧ nW so.2.2.2 = y.2 - i ∧ CtxB so.2.2.1 ∧ CtxB so.2.2.2 ∧ widthN so ≤ widthN sx ∧ (widthN so = widthN sx → so = sx) ∧
      (y.1 = 0 ∨ wd < (widthN so : Int) + ((((rnW cs[k]).getD (y.1 - 1) ⟨#[]⟩).size : Int) + 1)) ∧ (y.2 = (rnW cs[k]).length - 1 ∨ wd < (widthN so : Int) + ((((rnW cs[k]).getD (y.2 + 1) ⟨#[]⟩).size : Int) + 1)) ∧
      (rnW cs[k]).length ≤ 100 ∧ (∀ s ∈ rnW cs[k], s.size ≤ 12) ∧ (runA k (chW cs[k])).length = (rnW cs[k]).length ∧ p.1 = (k : Int) := by
  obtain ⟨hi, hso, hW, hl, hw, hrl, hp1⟩ := make_cut hk hki ht hc h
  obtain ⟨_, hsx, hW', -⟩ := make_cut hk hki ht hc' h'
  have hb := best_wider (side := side) hi hW hWW
  have hf := best_full (side := side) hi hW
  generalize rnW cs[k] = ws at *
  obtain ⟨y, hy, y1, y2, y3, y4, y5, y6, y7, y8⟩ := cut_facts hw hi (side := side) hW p
  obtain ⟨z, hz, z1, z2, z3, z4, -⟩ := cut_facts hw hi (side := side) hW' p
  rw [hy] at hb hf hso
  rw [hz] at hb hsx
  rw [← y4] at hf hb
  rw [← z4] at hb
  rw [← hso] at y4 y5 y6 y7 y8 hf hb
  rw [← hsx] at hb
  exact ⟨y, y1, y2, y3, y5, y6, y7, y8, by have := hb.1; omega, fun e => by rw [hso, hsx, hb.2 (by rw [e])], hf.1, hf.2, hl, fun s hs => (word_size (hw s hs)).2, hrl, hp1⟩
end Go.Proofs.YtpbkphaceljclaaGreatDoor

/- The proof engine, part 30: comparisons of booleans; >= of strings. -/
namespace Go.Proofs.YtpbkphaceljclaaGreatDoor
open Go.RowKit
section rules
variable {P : Program} {ro : Option Nat} {n : Nat} {all rest : List Oper} {K : Sl → World → Prop} {s : Sl} {w : World} {d : Nat} {ty : Nat} {pos : String} {af : Array Edge}
variable {x y : Operand} {t t' : Nat}
end rules
end Go.Proofs.YtpbkphaceljclaaGreatDoor

/- The proof engine, part 18: division of numbers that are not negative; equality of pairs. -/
namespace Go.Proofs.YtpbkphaceljclaaGreatDoor
open Go.RowKit

section rules
variable {P : Program} {ro : Option Nat} {n : Nat} {all rest : List Oper} {K : Sl → World → Prop} {s : Sl} {w : World} {d : Nat} {ty : Nat} {pos : String} {af : Array Edge} {x y : Operand} {t t' : Nat} {a b : Int}
theorem Ops.rem (hx : ev n s x = .int .i64 a) (hy : ev n s y = .int .i64 b) (h0 : 0 ≤ a) (h1 : 0 < b) (h : Ops P ro n all rest K (upd s d (.int .i64 (a % b))) w) :
    Ops P ro n all (⟨some d, .binOp .rem t x y t', ty, pos, af, none⟩ :: rest) K s w :=
  Ops.ofRun rfl (by
    have e1 : Int.tmod a b = a % b := Int.tmod_eq_emod_of_nonneg h0
    have e3 : ¬ b = 0 := by omega
    simp [execOp, hx, hy, go_sem, Op.intDiv, e1, e3]) h
end rules

end Go.Proofs.YtpbkphaceljclaaGreatDoor

/- place: a place of a valid text by a number. -/
namespace Go.Proofs.YtpbkphaceljclaaGreatDoor
open Go.RowKit

theorem pick_pos {α : Type} {l : List α} (h : 0 < l.length) (m : Nat) : ∃ p, l[m % l.length]? = some p := ⟨_, List.getElem?_eq_getElem (Nat.mod_lt _ h)⟩
section
variable (a : Option Addr) (c : Nat) (cs : List Ch) (w : World) [hrow : RowI w (.slice a cs.length c) true 2 (cs.map encCh)] [hT : TextI w cs]
set_option maxHeartbeats 4000000 in
theorem place_law3 (hs : SmallT cs) (ht : textB (txF cs) = true) (m : Nat) (hm : m ≤ 65535) (p : Pl) (hp : (allP (txF cs) (txF cs).length)[m % (allP (txF cs) (txF cs).length).length]? = some p) : Ct Tryz.prog 15 [.agg #[.slice a cs.length c], .int .u16 (m : Int)] w fun v _ => v = .tuple #[encPl p, .bool true] := by
  have hlt := (List.getElem?_eq_some_iff.1 hp).1
  have hll := allW_len (txF cs) (txF cs).length
  have hal := allW_small ht
  have hpb : placeC cs p = true := (placeC_B cs p).trans (placeB_mem.2 (List.mem_of_getElem? hp))
  refine Ct.ofW (by simp) ?_
  (refine jjB ?_; refine jjC ?_)
  (refine jy rfl ?_; intro b2 w_b2 hb_b2 hs_b2 hS_b2 hk_b2; have hA_b2 := At.ofBlock hk_b2)
  skip
  ((skip); refine jjY ?_; intro b4 w_b4 hb_b4 hs_b4 hS_b4 hk_b4; have hA_b4 := Bk.of hk_b4)
  (apply jJ; exact eB rfl; refine jz ?_; refine jjB ?_; refine jjC ?_; refine jO rfl rfl rfl rfl ?_)
  refine jjQ ((Words_leaf a c cs _ hs).mono fun v _ _ h => h.trans (by rw [wordsR, if_pos ht, hll])) rfl rfl ?_
  rintro _ w5 hS5 rfl
  generalize hL : (allP (txF cs) (txF cs).length).length = L at *
  (apply jI; exact eU rfl; refine ju rfl rfl ?_; refine ju rfl rfl ?_; apply jJ; exact eI rfl; apply jJ; exact eI rfl; refine jz ?_; refine jjB ?_; refine jjB ?_; refine jjC ?_; apply jI; exact eI rfl; refine jjk rfl rfl (by omega) ?_; apply jI; exact eB rfl; refine jT rfl rfl rfl ?_; apply jI; exact eI rfl; refine jT rfl rfl rfl ?_; refine jja rfl rfl (by omega) ?_; apply jL rfl; exact eB rfl; refine jz ?_; refine jjK rfl ?_; refine jjG ?_; refine jjB ?_)
  have hrem : (m : Int) % (L : Int) = ((m % L : Nat) : Int) := by omega
  have hE5 : Ext w w5 := inferInstance
  have hA2 : At w5 b2 0 [.slice a cs.length c] := inferInstance
  have hB4 : Bk w5 b4 [.int .i64 0, .int .i64 0, .int .i64 0] 44 := inferInstance
  have hr5 : RowI w5 (.slice a cs.length c) true 2 (cs.map encCh) := inferInstance
  have ht5 : TextI w5 cs := inferInstance
  have hlt2 := hA2.lt
  have z4 : w.heap.size ≤ b4 := by
    have := hS_b2.size
    omega
  have hlt4 : b4 < w5.heap.size := by
    have := hS5.size
    omega
  have hlt2 : b2 < b4 := by omega
  refine W.keep0 [(1, .int .u16 (m : Int)), (2, .pointer (some ⟨b2, 0, none⟩)), (4, .pointer (some ⟨b4, 0, none⟩)), (6, .int .i64 (L : Int))] ⟨eI rfl, eP rfl, eP rfl, eI rfl, trivial⟩ fun s0 => ?_
  refine W.draw (fun w' => Ext w5 w') ?_
  intro w6 hS6
  refine AnyS.mono (K' := fun s w' => s 2 = .pointer (some ⟨b2, 0, none⟩) ∧ s 4 = .pointer (some ⟨b4, 0, none⟩) ∧ s 9 = .int .i64 0 ∧ (∃ b8, s 8 = .pointer (some ⟨b8, 0, none⟩) ∧ w5.heap.size ≤ b8 ∧ At w' b8 0 (encPl p).cells.toList) ∧ Ext w5 w') ?_ ?_
  rotate_left
  · refine jjV [0, 1, 2, 3, 4] (by decide +kernel) inferInstance ?_
    ((apply jjT; exact rfl; rintro w' hq; have := hq.toStep; refine jO rfl rfl rfl rfl ?_; refine jz ?_; exact ⟨rfl, rfl⟩; apply jjT; exact rfl; rintro w' hq; have := hq.toStep; apply jI; exact eI rfl; refine jz ?_; exact ⟨rfl, rfl⟩; apply jjT; exact rfl; rintro w' hq; have := hq.toStep; refine Ops.convI rfl rfl (wrapi (by omega) (by omega)) ?_; refine jz ?_; exact ⟨rfl, rfl⟩; apply jjT; exact rfl; rintro w' hq; have := hq.toStep; apply jI; exact eI rfl; refine jz ?_; exact ⟨rfl, rfl⟩; apply jjT; exact rfl; rintro w' hq; have := hq.toStep; refine Ops.rem rfl rfl (by omega) (by omega) ?_; rw [hrem]; refine jz ?_; exact ⟨rfl, rfl⟩; refine jjU ?_))
    repeat' ( first
      | (refine jjl 5 9 (by decide +kernel) rfl rfl inferInstance ?_ ?_)
      | ((apply jjW 5; (decide +kernel); exact rfl; (exact inferInstance)))
      | ((apply jjW 9; (decide +kernel); exact rfl; (exact inferInstance)))
      | (refine jjQ (PlaceOf_leaf a c cs _ hs ht (m % L) p hp) rfl rfl ?_; rintro _ v5 hv5 rfl; refine jz ?_; (refine jjV [6, 7, 8] ?_ ?_ ?_; (decide +kernel); (exact inferInstance); ((repeat' (first|(apply jjT; exact rfl)|rintro w' hq|(apply jI; exact eU rfl)|refine ju rfl rfl ?_|refine jz ?_|exact ⟨rfl, rfl⟩|refine jjU ?_)))))
      | (refine jjY ?_; intro b8 v8 hb8 hs8 hv8 hk8; have k8 := Bk.of hk8; have z8 : w5.heap.size ≤ b8 := (by rw [hb8]; exact Ext.size inferInstance); refine jz ?_)
      | ((apply jjW 10; (decide +kernel); exact rfl; (exact inferInstance)); refine Ops.store rfl rfl rfl rfl rfl ?_; intro V2 hp2; have e2 : Ext w5 V2 := hp2.ext inferInstance z8; refine jz ?_; (refine jjV [11] ?_ ?_ ?_; (decide +kernel); (exact e2); ((repeat' (first|(apply jjT; exact rfl)|rintro w' hq|(apply jJ; exact eI rfl)|refine jz ?_|exact ⟨rfl, rfl⟩|refine jjU ?_)))); refine jjX (by decide +kernel) e2 ?_; exact ⟨rfl, rfl, rfl, ⟨b8, rfl, z8, Bk.toAt (h := Bk.of hp2.new)⟩, e2⟩))
  rintro s w7 ⟨h2, h4, h9, ⟨b8, h8, hb8, hA8'⟩, x7⟩
  have hA8 : At w7 b8 0 [.int .i64 p.1, .int .i64 p.2.1, .int .i64 p.2.2] := hA8'
  have hB47 : Bk w7 b4 [.int .i64 0, .int .i64 0, .int .i64 0] 44 := hB4.ext x7
  have hA27 : At w7 b2 0 [.slice a cs.length c] := hA2.ext x7
  have hE7 : Ext w w7 := hE5.trans x7
  refine W.keep0 [(2, .pointer (some ⟨b2, 0, none⟩)), (4, .pointer (some ⟨b4, 0, none⟩)), (8, .pointer (some ⟨b8, 0, none⟩)), (9, .int .i64 0)] ⟨h2, h4, h8, h9, trivial⟩ fun s1 => ?_
  clear h2 h4 h8 h9
  ((refine jjB ?_))
  refine W.draw (fun w' => Ext w w' ∧ At w' b2 0 [.slice a cs.length c] ∧ At w' b8 0 [.int .i64 p.1, .int .i64 p.2.1, .int .i64 p.2.2]) ?_
  intro w8 hS8
  refine AnyS.mono (K' := fun s w' => s 4 = .pointer (some ⟨b4, 0, none⟩) ∧ s 5 = .bool true ∧ At w' b4 0 (encPl p).cells.toList ∧ Ext w w') ?_ ?_
  rotate_left
  · skip
    refine jjV [0, 1, 2, 3, 4, 5] (by decide +kernel) ⟨inferInstance, inferInstance, inferInstance⟩ ?_
    ((apply jjT; exact rfl; rintro w' ⟨q1, q2, q3⟩; refine jO rfl rfl rfl rfl ?_; refine jz ?_; exact ⟨rfl, rfl⟩; apply jjT; exact rfl; rintro w' ⟨q1, q2, q3⟩; apply jI; exact eI rfl; refine jz ?_; exact ⟨rfl, rfl⟩; apply jjT; exact rfl; rintro w' ⟨q1, q2, q3⟩; refine jjh rfl rfl (by omega) ?_; refine jz ?_; exact ⟨rfl, rfl⟩; apply jjT; exact rfl; rintro w' ⟨q1, q2, q3⟩; apply jI; exact eB rfl; refine jz ?_; exact ⟨rfl, rfl⟩; apply jjT; exact rfl; rintro w' ⟨q1, q2, q3⟩; refine jT rfl rfl rfl ?_; refine jO rfl rfl rfl rfl ?_; refine jz ?_; exact ⟨rfl, rfl⟩; apply jjT; exact rfl; rintro w' ⟨q1, q2, q3⟩; refine jT rfl rfl rfl ?_; refine jO rfl rfl rfl rfl ?_; refine jz ?_; exact ⟨rfl, rfl⟩; refine jjU ?_))
    (apply jjW 6; (decide +kernel); exact rfl; (exact ⟨inferInstance, inferInstance, inferInstance⟩))
    have hE8 : Ext w w8 := inferInstance
    have i8 : RowI w8 (.slice a cs.length c) true 2 (cs.map encCh) := ⟨hrow.h.ext hE8⟩
    have j8 : TextI w8 cs := hT.ext hE8
    refine jT rfl rfl rfl ?_
    refine jjQ ((Place_ref1 a c cs _ p hs).mono fun v _ _ h => h.trans (by rw [hpb])) rfl rfl ?_
    rintro _ w9 hS9 rfl
    refine jz ?_
    have hE9 : Ext w w9 := inferInstance
    have hA29 : At w9 b2 0 [.slice a cs.length c] := inferInstance
    have hA89 : At w9 b8 0 [.int .i64 p.1, .int .i64 p.2.1, .int .i64 p.2.2] := inferInstance
    refine jjV [7] (by decide +kernel) ⟨hE9, hA29, hA89⟩ ?_
    ((apply jjT; exact rfl; rintro w' ⟨q1, q2, q3⟩; apply jK rfl; exact eB rfl; refine jz ?_; exact ⟨rfl, rfl⟩; refine jjU ?_))
    (apply jjW 8; (decide +kernel); exact rfl; (exact ⟨hE9, hA29, hA89⟩))
    refine Ops.store rfl rfl rfl rfl rfl ?_
    intro V2 hp2
    refine jz ?_
    have hE10 : Ext w V2 := hp2.ext hE9 z4
    have hA210 : At V2 b2 0 [.slice a cs.length c] := hp2.at_ hA29 (by omega)
    have hA810 : At V2 b8 0 [.int .i64 p.1, .int .i64 p.2.1, .int .i64 p.2.2] := hp2.at_ hA89 (by omega)
    refine jjV [9] (by decide +kernel) ⟨hE10, hA210, hA810⟩ ?_
    ((apply jjT; exact rfl; rintro w' ⟨q1, q2, q3⟩; apply jJ; exact eB rfl; refine jz ?_; exact ⟨rfl, rfl⟩; refine jjU ?_))
    refine jjX (by decide +kernel) ⟨hE10, hA210, hA810⟩ ?_
    exact ⟨rfl, rfl, Bk.toAt (h := Bk.of hp2.new), hE10⟩
  rintro s w9 ⟨h4, h5, hA4, x9⟩
  have hA49 : At w9 b4 0 [.int .i64 p.1, .int .i64 p.2.1, .int .i64 p.2.2] := hA4
  refine W.keep0 [(4, .pointer (some ⟨b4, 0, none⟩)), (5, .bool true)] ⟨h4, h5, trivial⟩ fun s2 => ?_
  (refine jjF ?_)
  refine fin2C rfl rfl rfl rfl rfl rfl ⟨x9, rfl⟩
end
end Go.Proofs.YtpbkphaceljclaaGreatDoor

/- ready, width, place: what the laws ask first. -/
namespace Go.Proofs.YtpbkphaceljclaaGreatDoor
open Go.RowKit

def readyB (t : Tx) (wd side : Int) : Bool := !greatT t && (textB t && cutB wd side)
theorem readyB_yes {t : Tx} {wd side : Int} (h : readyB t wd side = true) : greatT t = false ∧ textB t = true ∧ cutB wd side = true := by
  simpa [readyB] using h
section
variable (a : Option Addr) (c : Nat) (cs : List Ch) (wd side : Int) (w : World) [hrow : RowI w (.slice a cs.length c) true 2 (cs.map encCh)] [hT : TextI w cs]
set_option maxHeartbeats 2000000 in
theorem ready_law3 (hd : 0 ≤ side ∧ side ≤ 255) : Ct Tryz.prog 14 [.agg #[.slice a cs.length c], encCut wd side] w fun v _ => v = .bool (readyB (txF cs) wd side) := by
  refine Ct.ofW (by simp) ?_
  (refine jjB ?_; refine jjC ?_)
  (refine jy rfl ?_; intro b2 w_b2 hb_b2 hs_b2 hS_b2 hk_b2; have hA_b2 := At.ofBlock hk_b2)
  skip
  (refine jy rfl ?_; intro b3 w_b3 hb_b3 hs_b3 hS_b3 hk_b3; have hA_b3 := At.ofBlock hk_b3)
  (apply jJ; exact eB rfl; refine jz ?_; refine jjB ?_; refine jjC ?_; refine jO rfl rfl rfl rfl ?_)
  obtain ⟨G, hG⟩ : ∃ G, greatT (txF cs) = G := ⟨_, rfl⟩
  refine jjQ ((Great_ref1 a c cs _).mono fun v _ _ h => h.trans (by rw [hG])) rfl rfl ?_
  rintro _ w2 hS2 rfl
  rw [readyB, hG]
  cases G with
  | true =>
    (refine jp rfl ?_; apply jI; exact eB rfl; refine jU rfl rfl rfl rfl ?_; refine jU rfl rfl rfl rfl ?_; apply jL rfl; exact eB rfl; apply jI; exact eB rfl; refine jU rfl rfl rfl rfl ?_; refine jU rfl rfl rfl rfl ?_; apply jL rfl; exact eB rfl; apply jJ; exact eB rfl; refine jz ?_; refine jjF ?_; refine jB rfl rfl ⟨inferInstance, ?_⟩)
    exact rfl
  | false =>
  have hs := small_of_great hG
  obtain ⟨T, hTT⟩ : ∃ T, textB (txF cs) = T := ⟨_, rfl⟩
  (refine jq rfl ?_; apply jI; exact eB rfl; refine jT rfl rfl rfl ?_; refine jO rfl rfl rfl rfl ?_; refine jT rfl rfl rfl ?_)
  refine jjQ ((Text_ref1 a c cs _ hs).mono fun v _ _ h => h.trans (by rw [hTT])) rfl rfl ?_
  rintro _ w3 hS3 rfl
  rw [hTT]
  cases T with
  | false =>
    (apply jK rfl; exact eB rfl; apply jI; exact eB rfl; refine jU rfl rfl rfl rfl ?_; refine jU rfl rfl rfl rfl ?_; apply jL rfl; exact eB rfl; apply jJ; exact eB rfl; refine jz ?_; refine jjF ?_; refine jB rfl rfl ⟨inferInstance, ?_⟩)
    exact rfl
  | true =>
  (apply jK rfl; exact eB rfl; apply jI; exact eB rfl; refine jT rfl rfl rfl ?_; refine jO rfl rfl rfl rfl ?_; refine jT rfl rfl rfl ?_)
  refine jjQ (Cut_ref3 wd side hd _) rfl rfl ?_
  rintro _ w4 hS4 rfl
  (apply jK rfl; exact eB rfl; apply jJ; exact eB rfl; refine jz ?_; refine jjF ?_; refine jB rfl rfl ⟨inferInstance, ?_⟩)
  exact rfl
end
end Go.Proofs.YtpbkphaceljclaaGreatDoor

/- The law: a wider cut has no shorter context, and a word more does not fit. -/
namespace Go.Proofs.YtpbkphaceljclaaGreatDoor
open Go.RowKit

theorem getD_at {ws : List ByteArray} {m : Nat} (h : m < ws.length) : (ws.map strV)[m]? = some (strV (ws.getD m ⟨#[]⟩)) := by
  rw [List.getElem?_map, List.getD_eq_getElem?_getD, List.getElem?_eq_getElem h]; rfl
theorem getD_small {ws : List ByteArray} (h : ∀ s ∈ ws, s.size ≤ 12) (m : Nat) : (ws.getD m ⟨#[]⟩).size ≤ 12 := by
  rw [List.getD_eq_getElem?_getD]
  by_cases hm : m < ws.length
  · rw [List.getElem?_eq_getElem hm]; exact h _ (List.getElem_mem hm)
  · rw [List.getElem?_eq_none (by omega)]; exact Nat.zero_le _
theorem cut_wider {wd side : Int} (h : cutB wd side = true) (m : Nat) : 12 ≤ wd ∧ wd ≤ 80 ∧ cutB (min 80 (wd + ((m % 30 : Nat) : Int))) side = true ∧ wd ≤ min 80 (wd + ((m % 30 : Nat) : Int)) := by
  simp only [cutB, inB, Bool.and_eq_true, decide_eq_true_eq] at h ⊢
  omega
section
variable (a : Option Addr) (c : Nat) (cs : List Ch) (wd side : Int) (w : World) [hrow : RowI w (.slice a cs.length c) true 2 (cs.map encCh)] [hT : TextI w cs] [hgs : At w 0 0 sidesC] [hgk : At w 1 0 kindsC] [hmx : MxI w]
set_option maxRecDepth 20000 in
set_option maxHeartbeats 16000000 in
theorem SlipWider_law (hd : 0 ≤ side ∧ side ≤ 255) (x1 : Nat) (hx1 : x1 ≤ 65535) (x2 : Nat) (hx2 : x2 ≤ 255) : Ct Tryz.prog 5 [.agg #[.slice a cs.length c], encCut wd side, .int .u16 (x1 : Int), .int .u8 (x2 : Int)] w fun v _ => v = .bool true := by
  refine Ct.ofW (by simp) ?_
  (refine jjB ?_; refine jjC ?_)
  (refine jy rfl ?_; intro b4 w_b4 hb_b4 hs_b4 hS_b4 hk_b4; have hA_b4 := At.ofBlock hk_b4)
  skip
  (refine jy rfl ?_; intro b5 w_b5 hb_b5 hs_b5 hS_b5 hk_b5; have hA_b5 := At.ofBlock hk_b5)
  (apply jJ; exact eB rfl; refine jz ?_; refine jjB ?_; refine jjC ?_)
  refine jjQ (alive_law3 _) rfl rfl ?_
  rintro _ w6 hS6 rfl
  obtain ⟨R, hR⟩ : ∃ R, readyB (txF cs) wd side = R := ⟨_, rfl⟩
  (apply jJ; exact eB rfl; refine jz ?_; refine jjB ?_; refine jjB ?_; refine jjC ?_; refine jO rfl rfl rfl rfl ?_; refine jO rfl rfl rfl rfl ?_)
  refine jjQ ((ready_law3 a c cs wd side _ hd).mono fun v _ _ h => h.trans (by rw [hR])) rfl rfl ?_
  rintro _ w7 hS7 rfl
  cases R with
  | false =>
    (refine jq rfl ?_; apply jI; exact eB rfl; refine jU rfl rfl rfl rfl ?_; refine jU rfl rfl rfl rfl ?_; apply jK rfl; exact eB rfl; refine jz ?_; refine jjJ rfl ?_; refine jjB ?_; refine jjC ?_; apply jI; exact eB rfl; apply jJ; exact eB rfl; refine jz ?_; refine jjF ?_; refine jB rfl rfl ⟨inferInstance, ?_⟩)
    exact rfl
  | true =>
  obtain ⟨hG, hTT, hc⟩ := readyB_yes hR
  have hs := small_of_great hG
  have ha : askE (txF cs) wd side = 0 := askE_yes hTT hc
  have hpos := allP_pos hTT
  obtain ⟨p, hp⟩ := pick_pos hpos x1
  have hpb := placeB_mem.2 (List.mem_of_getElem? hp)
  (refine jp rfl ?_; apply jI; exact eB rfl; refine jT rfl rfl rfl ?_; apply jI; exact eB rfl; refine jT rfl rfl rfl ?_; refine jp rfl ?_; apply jL rfl; exact eB rfl; refine jz ?_; refine jjK rfl ?_; refine jjG ?_; refine jjB ?_; refine jjC ?_; refine jO rfl rfl rfl rfl ?_; apply jI; exact eI rfl)
  refine jjQ (place_law3 a c cs _ hs hTT x1 hx1 p hp) rfl rfl ?_
  rintro _ w11 hS11 rfl
  (apply jI; exact eU rfl; refine ju rfl rfl ?_; refine ju rfl rfl ?_)
  (apply jjR rfl; (intro _; first|exact eI rfl|exact eB rfl|exact eP rfl|exact eS rfl|exact eT rfl|exact eA rfl|exact eU rfl|exact eF rfl|exact eM rfl|exact eN rfl|exact rfl); exact rfl; exact rfl; exact rfl; exact rfl; intro b10 w_b10 hb_b10 hs_b10 hS_b10 hk_b10; have hA_b10 := Bk.of hk_b10)
  have hp10 : At w_b10 b10 0 [.int .i64 p.1, .int .i64 p.2.1, .int .i64 p.2.2] := Bk.toAt (h := hA_b10)
  obtain ⟨hw12, hw80, hc2, hWW⟩ := cut_wider hc x2
  (apply jJ; exact eB rfl; refine jz ?_; refine jjB ?_; refine jjC ?_; refine jO rfl rfl rfl rfl ?_)
  (apply jjR rfl; (intro _; first|exact eI rfl|exact eB rfl|exact eP rfl|exact eS rfl|exact eT rfl|exact eA rfl|exact eU rfl|exact eF rfl|exact eM rfl|exact eN rfl|exact rfl); exact rfl; exact rfl; exact rfl; exact rfl; intro b12 w_b12 hb_b12 hs_b12 hS_b12 hk_b12; have hA_b12 := Bk.of hk_b12)
  have hA12 : Bk w_b12 b12 [.int .i64 wd, .int .u8 side] 26 := hA_b12
  clear hA_b12
  (refine jz ?_; refine jjB ?_; refine jjC ?_; refine jm ?_; refine jn rfl ?_; refine jN rfl rfl rfl ?_; apply jI; exact eI rfl)
  refine Ops.convI rfl rfl (wrapi (by omega) (by omega)) ?_
  have hrm : (x2 : Int) % 30 = ((x2 % 30 : Nat) : Int) := by omega
  skip
  refine Ops.rem rfl rfl (by omega) (by omega) ?_
  rw [hrm]
  (refine jY rfl rfl (by omega) ?_; refine jj rfl rfl ?_; refine jm ?_; refine jn rfl ?_)
  obtain ⟨wd2, hwd2⟩ : ∃ z, min 80 (wd + ((x2 % 30 : Nat) : Int)) = z := ⟨_, rfl⟩
  rw [hwd2] at hc2 hWW ⊢
  refine Ops.store rfl rfl rfl rfl rfl ?_
  intro V1 hp1
  have h12 : At V1 b12 0 [.int .i64 wd2, .int .u8 side] := Bk.toAt (h := Bk.of hp1.new)
  have eV1 : Ext w_b10 V1 := hp1.ext inferInstance (by omega)
  have sV1 : Step w_b10 V1 := eV1.toStep
  have hE1 : Ext w V1 := inferInstance
  obtain ⟨so, hso⟩ := make_yes hpb side wd
  obtain ⟨sx, hsx⟩ := make_yes hpb side wd2
  obtain ⟨hrt, hwb⟩ := make_right hTT hc hso
  have hrx := (make_right hTT hc2 hsx).1
  have hsm := small_of_right hrt
  have hsmx := small_of_right hrx
  have ha2 : askE (txF cs) wd2 side = 0 := askE_yes hTT hc2
  clear hA12
  (refine jz ?_; refine jjB ?_; refine jjC ?_; refine jO rfl rfl rfl rfl ?_; refine jO rfl rfl rfl rfl ?_; refine jO rfl rfl rfl rfl ?_)
  refine jjQ ((Make_slip a c cs wd side _ p hs hd).mono fun v _ _ h => h.trans (by rw [makeR_some ha hso])) rfl rfl ?_
  rintro _ w13 hS13 rfl
  (apply jI; exact eU rfl; refine ju rfl rfl ?_; refine ju rfl rfl ?_)
  (apply jjR rfl; (intro _; first|exact eI rfl|exact eB rfl|exact eP rfl|exact eS rfl|exact eT rfl|exact eA rfl|exact eU rfl|exact eF rfl|exact eM rfl|exact eN rfl|exact rfl); exact rfl; exact rfl; exact rfl; exact rfl; intro b13 w_b13 hb_b13 hs_b13 hS_b13 hk_b13; have hA_b13 := Bk.of hk_b13)
  have hx13 : At w_b13 b13 0 [.int .i64 so.1.1, .int .i64 so.1.2.1, .int .i64 so.1.2.2, .string so.2.1, .string so.2.2.1, .string so.2.2.2] := Bk.toAt (h := hA_b13)
  (apply jJ; exact eI rfl; refine jz ?_; refine jjB ?_; refine jjC ?_; refine jO rfl rfl rfl rfl ?_; refine jO rfl rfl rfl rfl ?_; refine jO rfl rfl rfl rfl ?_)
  refine jjQ ((Make_slip a c cs wd2 side _ p hs hd).mono fun v _ _ h => h.trans (by rw [makeR_some ha2 hsx])) rfl rfl ?_
  rintro _ w14 hS14 rfl
  (apply jI; exact eU rfl; refine ju rfl rfl ?_; refine ju rfl rfl ?_)
  (apply jjR rfl; (intro _; first|exact eI rfl|exact eB rfl|exact eP rfl|exact eS rfl|exact eT rfl|exact eA rfl|exact eU rfl|exact eF rfl|exact eM rfl|exact eN rfl|exact rfl); exact rfl; exact rfl; exact rfl; exact rfl; intro b15 w_b15 hb_b15 hs_b15 hS_b15 hk_b15; have hA_b15 := Bk.of hk_b15)
  have hx15 : At w_b15 b15 0 [.int .i64 sx.1.1, .int .i64 sx.1.2.1, .int .i64 sx.1.2.2, .string sx.2.1, .string sx.2.2.1, .string sx.2.2.2] := Bk.toAt (h := hA_b15)
  obtain ⟨k, i, hk, hki⟩ := make_idx hTT hc hso
  obtain ⟨y, y1, y2, y3, y5, y6, y7, y8, hle, heqv, hf1, hf2, hl, hws, hrl, hp1k⟩ := wi_facts hk hki hTT hc hc2 hWW hso hsx
  have y13 : At w_b15 b13 0 [.int .i64 so.1.1, .int .i64 so.1.2.1, .int .i64 so.1.2.2, .string so.2.1, .string so.2.2.1, .string so.2.2.2] := hx13.ext inferInstance
  have y10 : At w_b15 b10 0 [.int .i64 p.1, .int .i64 p.2.1, .int .i64 p.2.2] := hp10.ext inferInstance
  have y4 : At w_b15 b5 0 [.int .i64 wd, .int .u8 side] := inferInstance
  (apply jJ; exact eI rfl; refine jz ?_; refine jjB ?_; refine jjB ?_)
  clear hA_b13 hA_b15 hA_b10
  refine W.keep0 [(4, .pointer (some ⟨b4, 0, none⟩)), (5, .pointer (some ⟨b5, 0, none⟩)), (9, .bool true), (10, .pointer (some ⟨b10, 0, none⟩)), (11, .bool true), (13, .pointer (some ⟨b13, 0, none⟩)), (14, .int .i64 0), (15, .pointer (some ⟨b15, 0, none⟩)), (16, .int .i64 0)] ⟨eP rfl, eP rfl, eB rfl, eP rfl, eB rfl, eP rfl, eI rfl, eP rfl, eI rfl, trivial⟩ fun s0 => ?_
  (skip)
  refine W.draw (fun w' => Ext w_b15 w') ?_
  intro w15 hS15
  refine AnyS.mono (K' := fun s w' => s 4 = .pointer (some ⟨b4, 0, none⟩) ∧ s 5 = .pointer (some ⟨b5, 0, none⟩) ∧ s 9 = .bool true ∧ s 10 = .pointer (some ⟨b10, 0, none⟩) ∧ s 13 = .pointer (some ⟨b13, 0, none⟩) ∧ s 90 = .bool false ∧ Ext w_b15 w') ?_ ?_
  rotate_left
  · refine jjV [0, 1, 2, 3, 4, 5, 6, 7, 8, 9, 10, 11, 13] (by decide +kernel) hS15.ext ?_
    (((apply jjT; exact rfl; rintro w' hq; have := hq.toStep; apply jI; exact eB rfl; refine jz ?_; exact ⟨rfl, rfl⟩; apply jjT; exact rfl; rintro w' hq; have := hq.toStep; refine jp rfl ?_; refine jz ?_; exact ⟨rfl, rfl⟩; apply jjT; exact rfl; rintro w' hq; have := hq.toStep; apply jI; exact eB rfl; refine jz ?_; exact ⟨rfl, rfl⟩; apply jjT; exact rfl; rintro w' hq; have := hq.toStep; refine jT rfl rfl rfl ?_; apply jI; exact eI rfl; refine jz ?_; exact ⟨rfl, rfl⟩; apply jjT; exact rfl; rintro w' hq; have := hq.toStep; refine jT rfl rfl rfl ?_; refine jjk rfl rfl (by omega) ?_; refine jz ?_; exact ⟨rfl, rfl⟩; apply jjT; exact rfl; rintro w' hq; have := hq.toStep; apply jL rfl; exact eB rfl; refine jz ?_; exact ⟨rfl, rfl⟩; apply jjT; exact rfl; rintro w' hq; have := hq.toStep; apply jI; exact eB rfl; refine jz ?_; exact ⟨rfl, rfl⟩; apply jjT; exact rfl; rintro w' hq; have := hq.toStep; refine jT rfl rfl rfl ?_; apply jI; exact eI rfl; refine jz ?_; exact ⟨rfl, rfl⟩; apply jjT; exact rfl; rintro w' hq; have := hq.toStep; refine jT rfl rfl rfl ?_; refine jjk rfl rfl (by omega) ?_; refine jz ?_; exact ⟨rfl, rfl⟩; apply jjT; exact rfl; rintro w' hq; have := hq.toStep; apply jL rfl; exact eB rfl; refine jz ?_; exact ⟨rfl, rfl⟩; apply jjT; exact rfl; rintro w' hq; have := hq.toStep; apply jI; exact eB rfl; refine jz ?_; exact ⟨rfl, rfl⟩; apply jjT; exact rfl; rintro w' hq; have := hq.toStep; refine jT rfl rfl rfl ?_; refine jO rfl rfl rfl rfl ?_; refine jz ?_; exact ⟨rfl, rfl⟩; apply jjT; exact rfl; rintro w' hq; have := hq.toStep; refine jT rfl rfl rfl ?_; refine jO rfl rfl rfl rfl ?_; refine jz ?_; exact ⟨rfl, rfl⟩; refine jjU ?_)))
    (apply jjW 12; (decide +kernel); exact rfl; (exact inferInstance))
    (refine jT rfl rfl rfl ?_)
    refine jjQ (width_law3 so _ hsm.toZ) rfl rfl ?_
    rintro _ v1 hv1 rfl
    refine jz ?_
    (apply jjW 14; (decide +kernel); exact rfl; (exact inferInstance))
    (refine jT rfl rfl rfl ?_)
    refine jjQ (width_law3 sx _ hsmx.toZ) rfl rfl ?_
    rintro _ v2 hv2 rfl
    refine jz ?_
    refine jjV [15, 16, 17, 18, 20] (by decide +kernel) inferInstance ?_
    (((apply jjT; exact rfl; rintro w' hq; have := hq.toStep; refine jT rfl rfl rfl ?_; refine jje rfl rfl (by omega) ?_; refine jz ?_; exact ⟨rfl, rfl⟩; apply jjT; exact rfl; rintro w' hq; have := hq.toStep; apply jL rfl; exact eB rfl; refine jz ?_; exact ⟨rfl, rfl⟩; apply jjT; exact rfl; rintro w' hq; have := hq.toStep; apply jI; exact eB rfl; refine jz ?_; exact ⟨rfl, rfl⟩; apply jjT; exact rfl; rintro w' hq; have := hq.toStep; refine jT rfl rfl rfl ?_; refine jO rfl rfl rfl rfl ?_; refine jz ?_; exact ⟨rfl, rfl⟩; apply jjT; exact rfl; rintro w' hq; have := hq.toStep; refine jT rfl rfl rfl ?_; refine jO rfl rfl rfl rfl ?_; refine jz ?_; exact ⟨rfl, rfl⟩; refine jjU ?_)))
    (apply jjW 19; (decide +kernel); exact rfl; (exact inferInstance))
    (refine jT rfl rfl rfl ?_)
    refine jjQ (width_law3 so _ hsm.toZ) rfl rfl ?_
    rintro _ v3 hv3 rfl
    refine jz ?_
    (apply jjW 21; (decide +kernel); exact rfl; (exact inferInstance))
    (refine jT rfl rfl rfl ?_)
    refine jjQ (width_law3 sx _ hsmx.toZ) rfl rfl ?_
    rintro _ v4 hv4 rfl
    refine jz ?_
    by_cases hee : widthN so = widthN sx
    · have hes := heqv hee
      refine jjV [22, 23, 24, 25] (by decide +kernel) inferInstance ?_
      (((apply jjT; exact rfl; rintro w' hq; have := hq.toStep; refine jT rfl rfl rfl ?_; refine jjh rfl rfl (by omega) ?_; refine jz ?_; exact ⟨rfl, rfl⟩; apply jjT; exact rfl; rintro w' hq; have := hq.toStep; refine jT rfl rfl rfl ?_; apply jI; exact eB rfl; refine jz ?_; exact ⟨rfl, rfl⟩; apply jjT; exact rfl; rintro w' hq; have := hq.toStep; refine jT rfl rfl rfl ?_; refine jO rfl rfl rfl rfl ?_; refine jz ?_; exact ⟨rfl, rfl⟩; apply jjT; exact rfl; rintro w' hq; have := hq.toStep; refine jT rfl rfl rfl ?_; refine jO rfl rfl rfl rfl ?_; refine jz ?_; exact ⟨rfl, rfl⟩; refine jjU ?_)))
      refine jjV [26] (by decide +kernel) inferInstance (jjT (v := .bool false) rfl (fun w' q1 => ?_) (jjU ?_)); (refine jT rfl rfl rfl ?_; refine Ops.neqT (enc := encSl) so sx rfl rfl ?_; rw [decide_eq_false (p := ¬ so = sx) (fun h => h hes)]; refine jz ?_; exact ⟨rfl, rfl⟩)
      refine jjV [27, 28] (by decide +kernel) inferInstance ?_
      (((apply jjT; exact rfl; rintro w' hq; have := hq.toStep; refine jT rfl rfl rfl ?_; apply jK rfl; exact eB rfl; refine jz ?_; exact ⟨rfl, rfl⟩; apply jjT; exact rfl; rintro w' hq; have := hq.toStep; apply jL rfl; exact eB rfl; refine jz ?_; exact ⟨rfl, rfl⟩; refine jjU ?_)))
      refine jjX (by decide +kernel) inferInstance ?_
      exact ⟨rfl, rfl, rfl, rfl, rfl, rfl, inferInstance⟩
    · refine jjV [22, 23, 24, 25, 26, 27, 28] (by decide +kernel) inferInstance ?_
      (((apply jjT; exact rfl; rintro w' hq; have := hq.toStep; refine jT rfl rfl rfl ?_; refine jji rfl rfl (by omega) ?_; refine jz ?_; exact ⟨rfl, rfl⟩; apply jjT; exact rfl; rintro w' hq; have := hq.toStep; refine jT rfl rfl rfl ?_; apply jI; exact eB rfl; refine jz ?_; exact ⟨rfl, rfl⟩; apply jjT; exact rfl; rintro w' hq; have := hq.toStep; refine jU rfl rfl rfl rfl ?_; refine jz ?_; exact ⟨rfl, rfl⟩; apply jjT; exact rfl; rintro w' hq; have := hq.toStep; refine jU rfl rfl rfl rfl ?_; refine jz ?_; exact ⟨rfl, rfl⟩; apply jjT; exact rfl; rintro w' hq; have := hq.toStep; refine jU rfl rfl rfl rfl ?_; refine jz ?_; exact ⟨rfl, rfl⟩; apply jjT; exact rfl; rintro w' hq; have := hq.toStep; refine jT rfl rfl rfl ?_; apply jL rfl; exact eB rfl; refine jz ?_; exact ⟨rfl, rfl⟩; apply jjT; exact rfl; rintro w' hq; have := hq.toStep; apply jL rfl; exact eB rfl; refine jz ?_; exact ⟨rfl, rfl⟩; refine jjU ?_)))
      refine jjX (by decide +kernel) inferInstance ?_
      exact ⟨rfl, rfl, rfl, rfl, rfl, rfl, inferInstance⟩
  rintro s w16 ⟨h4, h5, h9, h10, h13, h90, x16⟩
  have s16 : Step w_b15 w16 := x16.toStep
  refine W.keep0 [(4, .pointer (some ⟨b4, 0, none⟩)), (5, .pointer (some ⟨b5, 0, none⟩)), (9, .bool true), (10, .pointer (some ⟨b10, 0, none⟩)), (13, .pointer (some ⟨b13, 0, none⟩)), (90, .bool false)] ⟨h4, h5, h9, h10, h13, h90, trivial⟩ fun s1 => ?_
  clear h4 h5 h9 h10 h13 h90
  (refine jjK rfl ?_; refine jjG ?_; refine jjB ?_; refine jjC ?_; refine jO rfl rfl rfl rfl ?_; refine jm ?_; refine jn rfl ?_; refine jN rfl rfl rfl ?_)
  rw [hp1k]
  refine jjQ (Run_ref3 a c cs _ hs k hk) rfl rfl ?_
  rintro _ w17 hS17 ⟨wv, av, rfl, hOw, hOa⟩
  have hnd := runA_nodup k (chW cs[k])
  generalize rnW cs[k] = ws at *
  generalize runA k (chW cs[k]) = pl at *
  obtain ⟨wa, wc, rfl⟩ := hOw.slice
  obtain ⟨aa, ac, rfl⟩ := hOa.slice
  rw [List.length_map] at hOw hOa ⊢
  simp only [List.length_map]
  have iW : RowI w17 (.slice wa ws.length wc) false 1 (ws.map strV) := RowI.mk hOw.row
  have iA : RowI w17 (.slice aa pl.length ac) true 3 (pl.map encPl) := RowI.mk hOa.row
  (apply jI; exact eU rfl; refine ju rfl rfl ?_; refine ju rfl rfl ?_; apply jJ; exact eS rfl; apply jJ; exact eS rfl; refine jz ?_; refine jjB ?_; refine jjC ?_; apply jJ; exact eI rfl; refine jz ?_; refine jjB ?_; refine jjD ?_)
  have z13 : At w17 b13 0 [.int .i64 so.1.1, .int .i64 so.1.2.1, .int .i64 so.1.2.2, .string so.2.1, .string so.2.2.1, .string so.2.2.2] := y13.ext inferInstance
  have z10 : At w17 b10 0 [.int .i64 p.1, .int .i64 p.2.1, .int .i64 p.2.2] := y10.ext inferInstance
  have z4 : At w17 b5 0 [.int .i64 wd, .int .u8 side] := y4.ext inferInstance
  have hil := (List.getElem?_eq_some_iff.1 hki).1
  obtain ⟨ga, rfl, -, -⟩ := hOa.self (by rw [List.length_map]; omega)
  obtain ⟨gw, rfl, -, -⟩ := hOw.self (by rw [List.length_map]; omega)
  clear y13 y10 y4 hx13 hx15 hp10 h12
  refine W.keep0 [(5, .pointer (some ⟨b5, 0, none⟩)), (9, .bool true), (10, .pointer (some ⟨b10, 0, none⟩)), (13, .pointer (some ⟨b13, 0, none⟩)), (17, .slice (some ⟨gw, 0, none⟩) ws.length wc), (18, .slice (some ⟨ga, 0, none⟩) pl.length ac), (19, .int .i64 ((0 : Nat) : Int))] ⟨eP rfl, eB rfl, eP rfl, eP rfl, eS rfl, eS rfl, eI rfl, trivial⟩ fun s2 => ?_
  refine W.loop (98 :: 99 :: 100 :: 101 :: 102 :: 103 :: 104 :: 105 :: 19 :: []) (fun g s' V => ∃ j : Nat, s' 19 = .int .i64 ((j : Nat) : Int) ∧ g = i - j ∧ j ≤ i) i ⟨0, rfl, rfl, Nat.zero_le _⟩ ?_
  rintro _ sd V hSV ⟨j, h19, rfl, hj⟩
  refine W.fix (d := 19) h19 ?_
  clear h19
  ((refine jjB ?_; refine jjB ?_))
  refine W.draw (fun w' => Ext V w') ?_
  intro w18 hS18
  have hjl : j < pl.length := by omega
  have hAj : At V ga (0 + j * 3) (encPl pl[j]).cells.toList := place_fix (iA.h.ext hSV.ext) (map_get hjl)
  (refine jjV [0, 1, 2, 3, 4] ?_ ?_ ?_; (decide +kernel); (exact hS18.ext); (((apply jjT; exact rfl; rintro w' hq; have := hq.toStep; apply jI; exact eS rfl; refine jz ?_; exact ⟨rfl, rfl⟩; apply jjT; exact rfl; rintro w' hq; have := hq.toStep; apply jI; exact eI rfl; refine jz ?_; exact ⟨rfl, rfl⟩; apply jjT; exact rfl; rintro w' hq; have := hq.toStep; refine jH _ rfl rfl rfl (by omega) ?_; refine jz ?_; exact ⟨rfl, rfl⟩; apply jjT; exact rfl; rintro w' hq; have := hq.toStep; refine jQ rfl rfl ?_; refine jz ?_; exact ⟨rfl, rfl⟩; apply jjT; exact rfl; rintro w' hq; have := hq.toStep; refine jO rfl rfl rfl rfl ?_; refine jz ?_; exact ⟨rfl, rfl⟩; refine jjU ?_))))
  refine jjV [5] (by decide +kernel) hS18.ext (jjT (v := .bool (decide (¬ pl[j] = p))) rfl (fun w' q1 => ?_) (jjU ?_)); (refine Ops.neqT (enc := encPl) pl[j] p rfl rfl ?_; refine jz ?_; exact ⟨rfl, rfl⟩)
  refine jjX (by decide +kernel) hS18.ext ?_
  have hdec : decide (¬ pl[j] = p) = decide (j < i) := by
    rcases Nat.lt_or_ge j i with h | h
    · rw [decide_eq_true h, decide_eq_true]
      intro e
      have := nodup_inj hnd (List.getElem?_eq_getElem hjl) (by rw [e]; exact hki)
      omega
    · obtain rfl : j = i := by omega
      rw [decide_eq_false (Nat.lt_irrefl _), decide_eq_false]
      intro e
      exact e (List.getElem?_eq_some_iff.1 hki).2
  rw [hdec]
  by_cases hlt : j < i
  · rw [decide_eq_true hlt]
    (refine jjJ rfl ?_; refine jjG ?_; refine jjD ?_; refine jjC ?_; apply jI; exact eI rfl; refine jY rfl rfl (by omega) ?_; apply jJ; exact eI rfl; refine jz ?_)
    exact ⟨rfl, by ((refine Same.upd rfl ?_; refine Same.upd rfl ?_; refine Same.upd rfl ?_; refine Same.upd rfl ?_; refine Same.upd rfl ?_; refine Same.upd rfl ?_; refine Same.upd rfl ?_; refine Same.upd rfl ?_; refine Same.upd rfl ?_; refine Same.upd rfl ?_; exact Same.ovN)), i - (j + 1), by omega, inferInstance, j + 1, congrArg (Value.int .i64) (by omega), rfl, by omega⟩
  rw [decide_eq_false hlt]
  have hji : j = i := by omega
  subst j
  (refine jjK rfl ?_; refine jjE ?_; refine jjB ?_; refine jjC ?_; apply jJ; exact eF rfl; refine jz ?_; refine jjB ?_)
  have hE18 : Ext w17 w18 := inferInstance
  have u13 : At w18 b13 0 [.int .i64 so.1.1, .int .i64 so.1.2.1, .int .i64 so.1.2.2, .string so.2.1, .string so.2.2.1, .string so.2.2.2] := inferInstance
  have u4 : At w18 b5 0 [.int .i64 wd, .int .u8 side] := inferInstance
  have rW : RowV w18 false 1 (.slice (some ⟨gw, 0, none⟩) ws.length wc) (ws.map strV) := iW.h.ext hE18
  clear hAj z13 z10 z4
  have hn1 := nW_le so.2.2.1
  have hn2 := nW_le so.2.2.2
  obtain ⟨hz1, hz2, hz3⟩ := hsm.toZ
  refine W.keep0 [(5, .pointer (some ⟨b5, 0, none⟩)), (9, .bool true), (13, .pointer (some ⟨b13, 0, none⟩)), (17, .slice (some ⟨gw, 0, none⟩) ws.length wc), (19, .int .i64 ((i : Nat) : Int)), (20, .func (.func 20) #[] #[])] ⟨eP rfl, eB rfl, eP rfl, eS rfl, eI rfl, eF rfl, trivial⟩ fun s3 => ?_
  (skip)
  refine W.draw (fun w' => Ext w18 w') ?_
  intro w19 hS19
  (refine jjV [0, 1, 2, 3, 6, 7, 8, 9] ?_ ?_ ?_; (decide +kernel); (exact hS19.ext); (((apply jjT; exact rfl; rintro w' hq; have := hq.toStep; apply jI; exact eI rfl; refine jz ?_; exact ⟨rfl, rfl⟩; apply jjT; exact rfl; rintro w' hq; have := hq.toStep; apply jI; exact eF rfl; refine jz ?_; exact ⟨rfl, rfl⟩; apply jjT; exact rfl; rintro w' hq; have := hq.toStep; refine jm ?_; refine jn rfl ?_; refine jz ?_; exact ⟨rfl, rfl⟩; apply jjT; exact rfl; rintro w' hq; have := hq.toStep; refine jN rfl rfl rfl ?_; refine jz ?_; exact ⟨rfl, rfl⟩; apply jjT; exact rfl; rintro w' hq; have := hq.toStep; apply jI; exact eI rfl; refine jz ?_; exact ⟨rfl, rfl⟩; apply jjT; exact rfl; rintro w' hq; have := hq.toStep; apply jI; exact eF rfl; refine jz ?_; exact ⟨rfl, rfl⟩; apply jjT; exact rfl; rintro w' hq; have := hq.toStep; refine jm ?_; refine jn rfl ?_; refine jz ?_; exact ⟨rfl, rfl⟩; apply jjT; exact rfl; rintro w' hq; have := hq.toStep; refine jN rfl rfl rfl ?_; refine jz ?_; exact ⟨rfl, rfl⟩; refine jjU ?_))))
  (apply jjW 4; (decide +kernel); exact rfl; (exact inferInstance))
  refine jjQ (count_wider so.2.2.1 _ hz2 y7.1) rfl rfl ?_
  rintro _ w20 hS20 rfl
  refine jz ?_
  (refine jjV [5] ?_ ?_ ?_; (decide +kernel); (exact inferInstance); (((apply jjT; exact rfl; rintro w' hq; have := hq.toStep; refine jZ rfl rfl (by omega) ?_; refine jz ?_; exact ⟨rfl, rfl⟩; refine jjU ?_))))
  (apply jjW 10; (decide +kernel); exact rfl; (exact inferInstance))
  refine jjQ (count_wider so.2.2.2 _ hz3 y8.1) rfl rfl ?_
  rintro _ w21 hS21 rfl
  refine jz ?_
  (refine jjV [11, 12, 13] ?_ ?_ ?_; (decide +kernel); (exact inferInstance); (((apply jjT; exact rfl; rintro w' hq; have := hq.toStep; refine jY rfl rfl (by omega) ?_; refine jz ?_; exact ⟨rfl, rfl⟩; apply jjT; exact rfl; rintro w' hq; have := hq.toStep; apply jJ; exact eI rfl; refine jz ?_; exact ⟨rfl, rfl⟩; apply jjT; exact rfl; rintro w' hq; have := hq.toStep; apply jJ; exact eI rfl; refine jz ?_; exact ⟨rfl, rfl⟩; refine jjU ?_))))
  refine jjX (by decide +kernel) inferInstance ?_
  have e21 : ((i : Nat) : Int) - ((nW so.2.2.1 : Nat) : Int) = ((y.1 : Nat) : Int) := by omega
  have e22 : ((i : Nat) : Int) + ((nW so.2.2.2 : Nat) : Int) = ((y.2 : Nat) : Int) := by omega
  rw [e21, e22]
  have hE21 : Ext w18 w21 := inferInstance
  have v13 : At w21 b13 0 [.int .i64 so.1.1, .int .i64 so.1.2.1, .int .i64 so.1.2.2, .string so.2.1, .string so.2.2.1, .string so.2.2.2] := u13.ext hE21
  have v4 : At w21 b5 0 [.int .i64 wd, .int .u8 side] := u4.ext hE21
  obtain ⟨m1, hm1⟩ : ∃ m, y.1 - 1 = m := ⟨_, rfl⟩
  obtain ⟨m2, hm2⟩ : ∃ m, y.2 + 1 = m := ⟨_, rfl⟩
  rw [hm1] at hf1
  rw [hm2] at hf2
  have hA1 : y.1 ≠ 0 → PLift (At w21 gw (0 + m1) (strV (ws.getD m1 ⟨#[]⟩)).cells.toList) := fun h0 => ⟨by
    have h := place_fix (rW.ext hE21) (getD_at (m := m1) (by omega))
    rwa [Nat.mul_one] at h⟩
  have hA2 : m2 < ws.length → PLift (At w21 gw (0 + m2) (strV (ws.getD m2 ⟨#[]⟩)).cells.toList) := fun h0 => ⟨by
    have h := place_fix (rW.ext hE21) (getD_at (m := m2) h0)
    rwa [Nat.mul_one] at h⟩
  have hg1 := getD_small hws m1
  have hg2 := getD_small hws m2
  clear u13 u4
  (refine jjB ?_; refine jjB ?_; refine jjC ?_; apply jI; exact eI rfl; refine jja rfl rfl (by omega) ?_; apply jI; exact eB rfl; refine jT rfl rfl rfl ?_; apply jI; exact eI rfl; refine jT rfl rfl rfl ?_; apply jI; exact eS rfl; refine jT rfl rfl rfl ?_; refine jh rfl ?_; refine jT rfl rfl rfl ?_; refine jjg rfl rfl (by omega) ?_; apply jL rfl; exact eB rfl; refine jz ?_; refine jjK rfl ?_; refine jjG ?_; refine jjB ?_)
  refine W.keep0 [(5, .pointer (some ⟨b5, 0, none⟩)), (9, .bool true), (13, .pointer (some ⟨b13, 0, none⟩)), (17, .slice (some ⟨gw, 0, none⟩) ws.length wc), (21, .int .i64 ((y.1 : Nat) : Int)), (22, .int .i64 ((y.2 : Nat) : Int))] ⟨eP rfl, eB rfl, eP rfl, eS rfl, eI rfl, eI rfl, trivial⟩ fun s4 => ?_
  (skip)
  refine W.draw (fun w' => Ext w21 w') ?_
  intro w22 hS22
  refine AnyS.mono (K' := fun s w' => s 8 = .bool true ∧ Ext w21 w') ?_ ?_
  rotate_left
  · generalize ws.getD m1 ⟨#[]⟩ = g1 at *
    generalize ws.getD m2 ⟨#[]⟩ = g2 at *
    have hj2 : ((y.2 : Nat) : Int) + 1 = ((m2 : Nat) : Int) := by omega
    by_cases h0 : y.1 = 0
    case' pos =>
      refine jjV [0, 1, 2, 3, 4, 5, 6, 7, 8, 9, 10, 11, 12, 13, 14, 15, 16, 17, 18, 19, 20] (by decide +kernel) inferInstance ?_
      (((apply jjT; exact rfl; rintro w' hq; have := hq.toStep; apply jI; exact eB rfl; refine jz ?_; exact ⟨rfl, rfl⟩; apply jjT; exact rfl; rintro w' hq; have := hq.toStep; apply jI; exact eB rfl; refine jz ?_; exact ⟨rfl, rfl⟩; apply jjT; exact rfl; rintro w' hq; have := hq.toStep; refine jT rfl rfl rfl ?_; apply jI; exact eI rfl; refine jz ?_; exact ⟨rfl, rfl⟩; apply jjT; exact rfl; rintro w' hq; have := hq.toStep; refine jT rfl rfl rfl ?_; refine jjh rfl rfl (by omega) ?_; refine jz ?_; exact ⟨rfl, rfl⟩; apply jjT; exact rfl; rintro w' hq; have := hq.toStep; refine jT rfl rfl rfl ?_; apply jI; exact eB rfl; refine jz ?_; exact ⟨rfl, rfl⟩; apply jjT; exact rfl; rintro w' hq; have := hq.toStep; refine jU rfl rfl rfl rfl ?_; refine jz ?_; exact ⟨rfl, rfl⟩; apply jjT; exact rfl; rintro w' hq; have := hq.toStep; refine jU rfl rfl rfl rfl ?_; refine jz ?_; exact ⟨rfl, rfl⟩; apply jjT; exact rfl; rintro w' hq; have := hq.toStep; refine jU rfl rfl rfl rfl ?_; refine jz ?_; exact ⟨rfl, rfl⟩; apply jjT; exact rfl; rintro w' hq; have := hq.toStep; refine jU rfl rfl rfl rfl ?_; refine jz ?_; exact ⟨rfl, rfl⟩; apply jjT; exact rfl; rintro w' hq; have := hq.toStep; refine jU rfl rfl rfl rfl ?_; refine jz ?_; exact ⟨rfl, rfl⟩; apply jjT; exact rfl; rintro w' hq; have := hq.toStep; refine jU rfl rfl rfl rfl ?_; refine jz ?_; exact ⟨rfl, rfl⟩; apply jjT; exact rfl; rintro w' hq; have := hq.toStep; refine jU rfl rfl rfl rfl ?_; refine jz ?_; exact ⟨rfl, rfl⟩; apply jjT; exact rfl; rintro w' hq; have := hq.toStep; refine jU rfl rfl rfl rfl ?_; refine jz ?_; exact ⟨rfl, rfl⟩; apply jjT; exact rfl; rintro w' hq; have := hq.toStep; refine jU rfl rfl rfl rfl ?_; refine jz ?_; exact ⟨rfl, rfl⟩; apply jjT; exact rfl; rintro w' hq; have := hq.toStep; refine jU rfl rfl rfl rfl ?_; refine jz ?_; exact ⟨rfl, rfl⟩; apply jjT; exact rfl; rintro w' hq; have := hq.toStep; refine jU rfl rfl rfl rfl ?_; refine jz ?_; exact ⟨rfl, rfl⟩; apply jjT; exact rfl; rintro w' hq; have := hq.toStep; refine jU rfl rfl rfl rfl ?_; refine jz ?_; exact ⟨rfl, rfl⟩; apply jjT; exact rfl; rintro w' hq; have := hq.toStep; refine jU rfl rfl rfl rfl ?_; refine jz ?_; exact ⟨rfl, rfl⟩; apply jjT; exact rfl; rintro w' hq; have := hq.toStep; refine jT rfl rfl rfl ?_; apply jK rfl; exact eB rfl; refine jz ?_; exact ⟨rfl, rfl⟩; apply jjT; exact rfl; rintro w' hq; have := hq.toStep; apply jK rfl; exact eB rfl; refine jz ?_; exact ⟨rfl, rfl⟩; apply jjT; exact rfl; rintro w' hq; have := hq.toStep; apply jI; exact eB rfl; refine jz ?_; exact ⟨rfl, rfl⟩; refine jjU ?_)))
    case' neg =>
      have hB1 := (hA1 h0).down
      have hj1 : ((y.1 : Nat) : Int) - 1 = ((m1 : Nat) : Int) := by omega
      clear hA1
      refine jjV [0, 1, 2, 3, 4, 5, 7, 8, 9, 10, 15, 16] (by decide +kernel) inferInstance ?_
      (((apply jjT; exact rfl; rintro w' hq; have := hq.toStep; apply jI; exact eB rfl; refine jz ?_; exact ⟨rfl, rfl⟩; apply jjT; exact rfl; rintro w' hq; have := hq.toStep; apply jI; exact eB rfl; refine jz ?_; exact ⟨rfl, rfl⟩; apply jjT; exact rfl; rintro w' hq; have := hq.toStep; refine jT rfl rfl rfl ?_; apply jI; exact eI rfl; refine jz ?_; exact ⟨rfl, rfl⟩; apply jjT; exact rfl; rintro w' hq; have := hq.toStep; refine jT rfl rfl rfl ?_; refine jji rfl rfl (by omega) ?_; refine jz ?_; exact ⟨rfl, rfl⟩; apply jjT; exact rfl; rintro w' hq; have := hq.toStep; refine jT rfl rfl rfl ?_; apply jI; exact eB rfl; refine jz ?_; exact ⟨rfl, rfl⟩; apply jjT; exact rfl; rintro w' hq; have := hq.toStep; refine jT rfl rfl rfl ?_; refine jO rfl rfl rfl rfl ?_; refine jz ?_; exact ⟨rfl, rfl⟩; apply jjT; exact rfl; rintro w' hq; have := hq.toStep; refine jT rfl rfl rfl ?_; apply jI; exact eS rfl; refine jz ?_; exact ⟨rfl, rfl⟩; apply jjT; exact rfl; rintro w' hq; have := hq.toStep; refine jT rfl rfl rfl ?_; apply jI; exact eI rfl; refine jz ?_; exact ⟨rfl, rfl⟩; apply jjT; exact rfl; rintro w' hq; have := hq.toStep; refine jT rfl rfl rfl ?_; refine jZ rfl rfl (by omega) ?_; refine jz ?_; exact ⟨rfl, rfl⟩; apply jjT; exact rfl; rintro w' hq; have := hq.toStep; refine jT rfl rfl rfl ?_; refine jG rfl rfl (by assumption) (by omega) ?_; refine jz ?_; exact ⟨rfl, rfl⟩; apply jjT; exact rfl; rintro w' hq; have := hq.toStep; refine jT rfl rfl rfl ?_; refine jm ?_; refine jn rfl ?_; refine jz ?_; exact ⟨rfl, rfl⟩; apply jjT; exact rfl; rintro w' hq; have := hq.toStep; refine jT rfl rfl rfl ?_; refine jN rfl rfl rfl ?_; refine jz ?_; exact ⟨rfl, rfl⟩; refine jjU ?_)))
      refine jjV [11] (by decide +kernel) inferInstance (jjT (v := .string g1) rfl (fun w' q1 => ?_) (jjU ?_)); (refine jT rfl rfl rfl ?_; refine jR ((hB1.ext q1).get (i := 0) rfl) rfl rfl ?_; refine jz ?_; exact ⟨rfl, rfl⟩)
      refine jjV [12] (by decide +kernel) inferInstance ?_
      (((apply jjT; exact rfl; rintro w' hq; have := hq.toStep; refine jT rfl rfl rfl ?_; refine ji rfl ?_; refine jz ?_; exact ⟨rfl, rfl⟩; refine jjU ?_)))
      (apply jjW 6; (decide +kernel); exact rfl; (exact inferInstance))
      (refine jT rfl rfl rfl ?_)
      refine jjQ (width_law3 so _ hsm.toZ) rfl rfl ?_
      rintro _ v1 hv1 rfl
      refine jz ?_
      refine jjV [13, 14, 17, 18, 19, 20] (by decide +kernel) inferInstance ?_
      (((apply jjT; exact rfl; rintro w' hq; have := hq.toStep; refine jT rfl rfl rfl ?_; refine jY rfl rfl (by omega) ?_; refine jz ?_; exact ⟨rfl, rfl⟩; apply jjT; exact rfl; rintro w' hq; have := hq.toStep; refine jT rfl rfl rfl ?_; refine jY rfl rfl (by omega) ?_; refine jz ?_; exact ⟨rfl, rfl⟩; apply jjT; exact rfl; rintro w' hq; have := hq.toStep; refine jT rfl rfl rfl ?_; refine jjd rfl rfl (by omega) ?_; refine jz ?_; exact ⟨rfl, rfl⟩; apply jjT; exact rfl; rintro w' hq; have := hq.toStep; refine jT rfl rfl rfl ?_; apply jL rfl; exact eB rfl; refine jz ?_; exact ⟨rfl, rfl⟩; apply jjT; exact rfl; rintro w' hq; have := hq.toStep; apply jK rfl; exact eB rfl; refine jz ?_; exact ⟨rfl, rfl⟩; apply jjT; exact rfl; rintro w' hq; have := hq.toStep; apply jI; exact eB rfl; refine jz ?_; exact ⟨rfl, rfl⟩; refine jjU ?_)))
    all_goals (
      by_cases h1 : y.2 = ws.length - 1
      · refine jjV [21, 22, 23, 24, 25, 26, 27, 28, 29, 30, 31, 32, 33, 34, 35, 36, 37, 38, 39, 40, 41, 42] (by decide +kernel) inferInstance ?_
        ((repeat' (first|(apply jjT; exact rfl)|rintro w' hq; have := hq.toStep|(refine jW ?_; refine jjh rfl rfl (by omega) ?_)|((first|apply jI|apply jJ|apply jK rfl); (first|exact eI rfl|exact eB rfl|exact eS rfl))|(refine jS ?_; (first|refine jT rfl rfl rfl ?_|refine jU rfl rfl rfl rfl ?_))|(refine jW ?_; refine jZ rfl rfl (by omega) ?_)|(refine jg ?_; refine jh rfl ?_)|refine jz ?_|exact ⟨rfl, rfl⟩|refine jjU ?_)))
        refine jjX (by decide +kernel) inferInstance ?_
        exact ⟨rfl, inferInstance⟩
      · have hB2 := (hA2 (by omega)).down
        clear hA2
        refine jjV [21, 22, 23, 24, 25, 26, 27, 29, 30, 31, 32, 37, 38] (by decide +kernel) inferInstance ?_
        ((repeat' (first|(apply jjT; exact rfl)|rintro w' hq; have := hq.toStep|(refine jW ?_; refine jji rfl rfl (by omega) ?_)|(apply jI; (first|exact eI rfl|exact eB rfl|exact eS rfl))|(refine jM ?_; (first|refine jN rfl rfl rfl ?_|refine jO rfl rfl rfl rfl ?_))|(refine jS ?_; refine jT rfl rfl rfl ?_)|(refine jW ?_; (first|refine jY rfl rfl (by omega) ?_|refine jZ rfl rfl (by omega) ?_))|(refine jg ?_; refine jh rfl ?_)|(refine jm ?_; refine jn rfl ?_)|(refine jE ?_; refine jG rfl rfl (by assumption) (by omega) ?_)|refine jz ?_|exact ⟨rfl, rfl⟩|refine jjU ?_)))
        refine jjV [33] (by decide +kernel) inferInstance (jjT (v := .string g2) rfl (fun w' q1 => ?_) (jjU ?_)); (refine jT rfl rfl rfl ?_; refine jR ((hB2.ext q1).get (i := 0) rfl) rfl rfl ?_; refine jz ?_; exact ⟨rfl, rfl⟩)
        refine jjV [34] (by decide +kernel) inferInstance ?_
        ((repeat' (first|(apply jjT; exact rfl)|rintro w' hq; have := hq.toStep|(refine jS ?_; refine jT rfl rfl rfl ?_)|(refine jg ?_; refine ji rfl ?_)|refine jz ?_|exact ⟨rfl, rfl⟩|refine jjU ?_)))
        (apply jjW 28; (decide +kernel); exact rfl; (exact inferInstance))
        repeat' (first|(refine jS ?_; refine jT rfl rfl rfl ?_))
        refine jjQ (width_law3 so _ hsm.toZ) rfl rfl ?_
        rintro _ v2 hv2 rfl
        refine jz ?_
        refine jjV [35, 36, 39, 40, 41, 42] (by decide +kernel) inferInstance ?_
        ((repeat' (first|(apply jjT; exact rfl)|rintro w' hq; have := hq.toStep|(refine jW ?_; refine jjd rfl rfl (by omega) ?_)|((first|apply jJ|apply jK rfl|apply jL rfl); exact eB rfl)|(refine jS ?_; refine jT rfl rfl rfl ?_)|(refine jW ?_; refine jY rfl rfl (by omega) ?_)|refine jz ?_|exact ⟨rfl, rfl⟩|refine jjU ?_)))
        refine jjX (by decide +kernel) inferInstance ?_
        exact ⟨rfl, inferInstance⟩ )
  rintro s w23 ⟨h8, x23⟩
  have s23 : Step w21 w23 := x23.toStep
  refine W.keep0 [(8, .bool true)] ⟨h8, trivial⟩ fun s5 => ?_
  (refine jjF ?_; refine jB rfl rfl ⟨inferInstance, ?_⟩)
  exact rfl
end
end Go.Proofs.YtpbkphaceljclaaGreatDoor
