/- Texts of the proof, part 6: LawGe. -/
import Derived.Test.YtfebegbjggoijaaGreatDoorGE5
/- The law: the chapter's examples. -/
namespace Go.Proofs.YtfebegbjggoijaaGreatDoor
open Go.RowKit

theorem ee_waste : wasteS 5 exG [3, 8, 13, 15] = 4 := by kernel_rfl
theorem ee_brk1 : brkE 5 exG [3, 8, 13, 15] = 0 := by kernel_rfl
theorem ee_brk2 : brkE 5 exG [5, 10, 15] = 81 := by kernel_rfl
theorem ee_brk3 : brkE 5 exG [9, 13, 15] = 81 := by kernel_rfl
theorem ee_brk4 : brkE 5 exG [5, 9, 13] = 81 := by kernel_rfl
theorem ee_was2 : wasteS 5 exG [5, 10, 15] = 0 := by kernel_rfl
theorem ee_was3 : wasteS 5 exG [9, 13, 15] = 0 := by kernel_rfl
theorem ee_was4 : wasteS 5 exG [5, 9, 13] = 0 := by kernel_rfl
theorem ee_at4 : atS 5 exG exL 4 = (0, 4, 0) := by kernel_rfl
theorem ee_at15 : atS 5 exG exL 15 = (0, 0, 2) := by kernel_rfl
theorem ee_col4 : colS 5 exG exL 4 = (0, 0, 2) := by kernel_rfl
theorem ee_ask : askE seaT 0 0 = 30 := by kernel_rfl
theorem ee_set1 : setR seaT 14 3 3 = ((0, []), 2) := setR_high sea_ask3 (by kernel_rfl)
theorem ee_set2 : setR seaT 0 0 4 = ((0, []), 30) := by rw [setR_ask (by rw [ee_ask]; decide), ee_ask]
theorem ee_low : gErr 3 exG = 80 := by kernel_rfl
theorem ee_odd : gErr 5 [(wAnd, 21), (wIs, 2), (wOld, 6), (wSea, 4)] = 80 := by kernel_rfl
theorem ee_non : gErr 4 [] = 80 := by kernel_rfl
set_option maxHeartbeats 1000000 in
theorem example_bk8 (w : World) : Ct Tryz.prog 31 [] w fun v w' => ∃ b, v = .agg #[.int .i64 5, .slice (some ⟨b, 0, none⟩) 4 4] ∧ w.heap.size ≤ b ∧ Bk w' b [.string wAnd, .int .i64 3, .string wIs, .int .i64 2, .string wOld, .int .i64 6, .string wSea, .int .i64 4] 37 := by
  refine Ct.ofW (by simp) ?_
  (((refine jjB ?_; refine jjC ?_)); refine jjY ?_; intro b0 w_b0 hb_b0 hs_b0 hS_b0 hk_b0; have hA_b0 := Bk.of hk_b0)
  (refine jz ?_; refine jjB ?_; refine jjC ?_)
  (refine jjS (cells := [.string wAnd, .int .i64 3]) ?_ ?_; exact rfl)
  (refine jjS (cells := [.string wIs, .int .i64 2]) ?_ ?_; exact rfl)
  (refine jjS (cells := [.string wOld, .int .i64 6]) ?_ ?_; exact rfl)
  (refine jjS (cells := [.string wSea, .int .i64 4]) ?_ ?_; exact rfl)
  refine Ops.buildSliceF (cells := [.string wAnd, .int .i64 3, .string wIs, .int .i64 2, .string wOld, .int .i64 6, .string wSea, .int .i64 4]) rfl rfl rfl ?_
  intro b5 w5 hb5 hs5 hS5 hk5
  (refine jjS (cells := [.int .i64 5, .slice (some ⟨b5, 0, none⟩) 4 4]) ?_ ?_; exact rfl)
  have hb0 : Bk w5 b0 [.int .i64 0, .slice none 0 0] 24 := inferInstance
  have hE5 : Ext w w5 := inferInstance
  refine Ops.store rfl rfl rfl rfl rfl ?_
  intro V2 hp2
  have := Bk.toAt (h := Bk.of hp2.new)
  have z0 := hS_b0.size
  have z5 := hS5.size
  have m5 := hp2.bk hk5 (by omega)
  (refine jz ?_; refine jjF ?_)
  refine fin1C rfl rfl rfl rfl rfl ⟨hp2.ext hE5 (by omega), b5, rfl, by omega, m5⟩
section
variable (w : World) [hgs : At w 2 0 sidesC] [htn : At w 1 0 tornC] [hnn : At w 0 0 noneC]
set_option maxRecDepth 20000 in
set_option maxHeartbeats 16000000 in
theorem GalleyExamples_law : Ct Tryz.prog 9 [] w fun v _ => v = .bool true := by
  refine Ct.ofW (by simp) ?_
  (refine jjB ?_; refine jjC ?_; apply jJ; exact eB rfl; refine jz ?_; refine jjB ?_; refine jjB ?_; refine jjC ?_; apply jI; exact eB rfl; refine jT rfl rfl rfl ?_)
  refine jjQ (alive_law8 _) rfl rfl ?_
  rintro _ w0 hS0 rfl
  (refine jT rfl rfl rfl ?_; refine jp rfl ?_; apply jL rfl; exact eB rfl; refine jz ?_; refine jjK rfl ?_; refine jjG ?_; refine jjB ?_; refine jjC ?_)
  refine jjQ (example_law8 _) rfl rfl ?_
  rintro _ w1 hS1 ⟨a1, c1, rfl, hR1⟩
  skip
  refine jjQ ((Total_galley 5 a1 c1 exG _ hR1 exg_sz (htn.ext inferInstance)).mono (R' := fun v _ => v = .tuple #[.int .i64 15, .int .i64 0]) fun v _ _ h => h.trans (by kernel_rfl)) rfl rfl ?_
  rintro _ w2 hS2 rfl
  (apply jI; exact eU rfl; refine ju rfl rfl ?_; refine ju rfl rfl ?_; apply jJ; exact eI rfl; apply jJ; exact eI rfl; refine jz ?_; refine jjB ?_; refine jjC ?_)
  refine jjQ (example_law8 _) rfl rfl ?_
  rintro _ w3 hS3 ⟨a3, c3, rfl, hR3⟩
  skip
  refine Ops.buildSliceF (cells := [.int .i64 3, .int .i64 8, .int .i64 13, .int .i64 15]) rfl rfl rfl ?_
  intro b4 w4 hb4 hs4 hS4 hk4
  have i4 : RowI w4 (.slice (some ⟨b4, 0, none⟩) ([3, 8, 13, 15] : List Int).length 4) false 1 (([3, 8, 13, 15] : List Int).map intV) := ⟨Bk.row (xs := ([3, 8, 13, 15] : List Int).map intV) hk4 (int_fit8 _) (by simp)⟩
  skip
  refine jjQ (ints_law8 (.slice (some ⟨b4, 0, none⟩) 4 4) _ _ _ rfl _) rfl rfl ?_
  rintro _ w5 hS5 rfl
  skip
  refine jjQ ((Waste_galley 5 a3 c3 exG (some ⟨b4, 0, none⟩) 4 [3, 8, 13, 15] _ (by decide) ((hR3.ext hS4.ext).ext hS5.ext) exg_sz (htn.ext inferInstance)).mono (R' := fun v _ => v = .tuple #[.int .i64 4, .int .i64 0]) fun v _ _ h => h.trans (by rw [ee_waste, ee_brk1])) rfl rfl ?_
  rintro _ w6 hS6 rfl
  (apply jI; exact eU rfl; refine ju rfl rfl ?_; refine ju rfl rfl ?_; apply jJ; exact eI rfl; apply jJ; exact eI rfl; refine jz ?_; refine jjB ?_; refine jjC ?_)
  refine jjQ (example_law8 _) rfl rfl ?_
  rintro _ w10 hS10 ⟨a10, c10, rfl, hR10⟩
  skip
  refine Ops.buildSliceF (cells := [.int .i64 5, .int .i64 9, .int .i64 13, .int .i64 15]) rfl rfl rfl ?_
  intro b11 w11 hb11 hs11 hS11 hk11
  have i11 : RowI w11 (.slice (some ⟨b11, 0, none⟩) ([5, 9, 13, 15] : List Int).length 4) false 1 (([5, 9, 13, 15] : List Int).map intV) := ⟨Bk.row (xs := ([5, 9, 13, 15] : List Int).map intV) hk11 (int_fit8 _) (by simp)⟩
  skip
  refine jjQ (ints_law8 (.slice (some ⟨b11, 0, none⟩) 4 4) _ _ _ rfl _) rfl rfl ?_
  rintro _ w12 hS12 rfl
  skip
  refine jjQ ((At_galley 5 a10 c10 exG (some ⟨b11, 0, none⟩) 4 [5, 9, 13, 15] _ 4 (by decide) ((hR10.ext hS11.ext).ext hS12.ext) exg_sz (htn.ext inferInstance)).mono (R' := fun v _ => v = .tuple #[.int .i64 0, .int .i64 4, .int .i64 0]) fun v _ _ h => h.trans (by rw [show ([5, 9, 13, 15] : List Int) = exL from rfl, ee_at4]; rfl)) rfl rfl ?_
  rintro _ w13 hS13 rfl
  (apply jI; exact eU rfl; refine ju rfl rfl ?_; refine ju rfl rfl ?_; refine ju rfl rfl ?_; apply jJ; exact eI rfl; apply jJ; exact eI rfl; apply jJ; exact eI rfl; refine jz ?_; refine jjB ?_; refine jjC ?_)
  refine jjQ (example_law8 _) rfl rfl ?_
  rintro _ w20 hS20 ⟨a20, c20, rfl, hR20⟩
  skip
  refine Ops.buildSliceF (cells := [.int .i64 5, .int .i64 9, .int .i64 13, .int .i64 15]) rfl rfl rfl ?_
  intro b21 w21 hb21 hs21 hS21 hk21
  have i21 : RowI w21 (.slice (some ⟨b21, 0, none⟩) ([5, 9, 13, 15] : List Int).length 4) false 1 (([5, 9, 13, 15] : List Int).map intV) := ⟨Bk.row (xs := ([5, 9, 13, 15] : List Int).map intV) hk21 (int_fit8 _) (by simp)⟩
  skip
  refine jjQ (ints_law8 (.slice (some ⟨b21, 0, none⟩) 4 4) _ _ _ rfl _) rfl rfl ?_
  rintro _ w22 hS22 rfl
  skip
  refine jjQ ((Torn_galley 5 a20 c20 exG (some ⟨b21, 0, none⟩) 4 exL _ (by decide) ((hR20.ext hS21.ext).ext hS22.ext) exg_sz (htn.ext inferInstance)).mono (R' := fun v w' => ∃ ta tc, v = .tuple #[.slice ta 2 tc, .int .i64 0] ∧ RowV w' false 1 (.slice ta 2 tc) ([(2 : Int), 3].map intV)) fun v _ _ h => ?_) rfl rfl ?_
  · rw [ex_torn8, ex_valid] at h
    obtain ⟨u, rfl, hR⟩ := h
    obtain ⟨ta, tc, rfl⟩ := hR.slice
    exact ⟨ta, tc, rfl, hR⟩
  rintro _ w23 hS23 ⟨ta, tc, rfl, hRt⟩
  (apply jI; exact eU rfl; refine ju rfl rfl ?_; refine ju rfl rfl ?_; apply jJ; exact eS rfl; apply jJ; exact eI rfl; refine jz ?_; refine jjB ?_; refine jjB ?_; refine jjC ?_; apply jI; exact eI rfl; refine jjk rfl rfl (by omega) ?_; apply jI; exact eB rfl; refine jT rfl rfl rfl ?_; apply jI; exact eI rfl; refine jT rfl rfl rfl ?_; refine jjk rfl rfl (by omega) ?_; apply jL rfl; exact eB rfl; apply jI; exact eB rfl; refine jT rfl rfl rfl ?_; apply jI; exact eI rfl; refine jT rfl rfl rfl ?_; refine jjk rfl rfl (by omega) ?_; apply jL rfl; exact eB rfl; apply jI; exact eB rfl; refine jT rfl rfl rfl ?_; apply jI; exact eI rfl; refine jT rfl rfl rfl ?_; refine jjk rfl rfl (by omega) ?_; apply jL rfl; exact eB rfl; apply jI; exact eB rfl; refine jT rfl rfl rfl ?_; apply jI; exact eI rfl; refine jT rfl rfl rfl ?_; refine jjk rfl rfl (by omega) ?_; apply jL rfl; exact eB rfl; apply jI; exact eB rfl; refine jT rfl rfl rfl ?_; apply jI; exact eI rfl; refine jT rfl rfl rfl ?_; refine jjk rfl rfl (by omega) ?_; apply jL rfl; exact eB rfl; apply jI; exact eB rfl; refine jT rfl rfl rfl ?_; apply jI; exact eI rfl; refine jT rfl rfl rfl ?_; refine jjk rfl rfl (by omega) ?_; apply jL rfl; exact eB rfl; apply jI; exact eB rfl; refine jT rfl rfl rfl ?_; apply jI; exact eI rfl; refine jT rfl rfl rfl ?_; refine jjk rfl rfl (by omega) ?_; apply jL rfl; exact eB rfl; apply jI; exact eB rfl; refine jT rfl rfl rfl ?_; apply jI; exact eS rfl; refine jT rfl rfl rfl ?_)
  refine Ops.buildSliceF (cells := [.int .i64 2, .int .i64 3]) rfl rfl rfl ?_
  intro b24 w24 hb24 hs24 hS24 hk24
  have i24 : RowI w24 (.slice (some ⟨b24, 0, none⟩) ([2, 3] : List Int).length 2) false 1 (([2, 3] : List Int).map intV) := ⟨Bk.row (xs := ([2, 3] : List Int).map intV) hk24 (int_fit8 _) (by simp)⟩
  have it : RowI w24 (.slice ta 2 tc) false 1 ([(2 : Int), 3].map intV) := ⟨hRt.ext inferInstance⟩
  (refine jT rfl rfl rfl ?_)
  refine jjQ ((same_law8 ta (some ⟨b24, 0, none⟩) tc 2 [2, 3] [2, 3] _).mono (R' := fun v _ => v = .bool true) fun v _ _ h => h.trans (by rw [decide_eq_true rfl])) rfl rfl ?_
  rintro _ w25 hS25 rfl
  (refine jT rfl rfl rfl ?_; refine jp rfl ?_; apply jL rfl; exact eB rfl; refine jz ?_; refine jjK rfl ?_; refine jjG ?_; refine jjB ?_; refine jjC ?_)
  refine jjQ (example_law8 _) rfl rfl ?_
  rintro _ w40 hS40 ⟨a40, c40, rfl, hR40⟩
  skip
  refine jjQ (example_bk8 _) rfl rfl ?_
  rintro _ w41 hS41 ⟨b41, rfl, hb41, hk41⟩
  ((skip); refine jjY ?_; intro b10 w_b10 hb_b10 hs_b10 hS_b10 hk_b10; have hA_b10 := Bk.of hk_b10)
  ((skip); refine jjY ?_; intro b11 w_b11 hb_b11 hs_b11 hS_b11 hk_b11; have hA_b11 := Bk.of hk_b11)
  skip
  have hq10 : Bk w_b11 b10 [.int .i64 0, .slice none 0 0] 24 := inferInstance
  have hq11 : Bk w_b11 b11 [.int .i64 0, .slice none 0 0] 24 := inferInstance
  have hq41 : Bk w_b11 b41 [.string wAnd, .int .i64 3, .string wIs, .int .i64 2, .string wOld, .int .i64 6, .string wSea, .int .i64 4] 37 := inferInstance
  have zz40 : w40.heap.size ≤ b41 := hb41
  have zz41 := hk41.lt
  have zE : Ext w40 w_b11 := inferInstance
  have z10 := hS_b10.size
  have z11 := hS_b11.size
  have hRx : RowV w_b11 true 2 (.slice a40 exG.length c40) (exG.map encB) := hR40.ext inferInstance
  have hEx : Ext w w40 := inferInstance
  refine Ops.store rfl rfl rfl rfl rfl ?_
  intro V1 hp1
  have p10 : Bk V1 b10 [.int .i64 5, .slice a40 4 c40] 24 := Bk.of hp1.new
  have p11 := hp1.bk hq11 (show b11 ≠ b10 by omega)
  have p41 := hp1.bk hq41 (show b41 ≠ b10 by omega)
  have e1 : Ext w40 V1 := hp1.ext zE (by omega)
  skip
  refine Ops.store rfl rfl rfl rfl rfl ?_
  intro V2 hp2
  have q11 : Bk V2 b11 [.int .i64 5, .slice (some ⟨b41, 0, none⟩) 4 4] 24 := Bk.of hp2.new
  have q10 := hp2.bk p10 (show b10 ≠ b11 by omega)
  have q41 := hp2.bk p41 (show b41 ≠ b11 by omega)
  have e2 : Ext w40 V2 := hp2.ext e1 (by omega)
  (refine jz ?_; refine jjB ?_; refine jjC ?_; refine jm ?_; refine jn rfl ?_)
  refine Ops.store rfl rfl rfl rfl rfl ?_
  intro V3 hp3
  have r10 : Bk V3 b10 [.int .i64 3, .slice a40 4 c40] 24 := Bk.of hp3.new
  have r11 := hp3.bk q11 (show b11 ≠ b10 by omega)
  have r41 := hp3.bk q41 (show b41 ≠ b10 by omega)
  have e3 : Ext w40 V3 := hp3.ext e2 (by omega)
  (refine jz ?_; refine jjB ?_; refine jjC ?_; refine jm ?_; refine jn rfl ?_; refine jN rfl rfl rfl ?_)
  refine jH 0 rfl rfl rfl (by decide) ?_
  (refine jm ?_; refine jn rfl ?_)
  refine Ops.store rfl rfl rfl rfl rfl ?_
  intro V4 hp4
  have t41 : Bk V4 b41 [.string wAnd, .int .i64 21, .string wIs, .int .i64 2, .string wOld, .int .i64 6, .string wSea, .int .i64 4] 37 := Bk.of hp4.new
  have t10 := hp4.bk r10 (show b10 ≠ b41 by omega)
  have t11 := hp4.bk r11 (show b11 ≠ b41 by omega)
  have e4 : Ext w40 V4 := hp4.ext e3 (by omega)
  have hEV : Ext w V4 := hEx.trans e4
  have sV : Step w V4 := hEV.toStep
  have hRl : RowV V4 true 2 (.slice a40 exG.length c40) (exG.map encB) := hR40.ext e4
  have hRo : RowV V4 true 2 (.slice (some ⟨b41, 0, none⟩) 4 4) ([(wAnd, (21 : Int)), (wIs, 2), (wOld, 6), (wSea, 4)].map encB) := Bk.rows (xs := [(wAnd, (21 : Int)), (wIs, 2), (wOld, 6), (wSea, 4)].map encB) t41 (blk_fit8 _) (by simp)
  (refine jz ?_; refine jjB ?_; refine jjC ?_)
  refine jjQ (example_law8 _) rfl rfl ?_
  rintro _ w50 hS50 ⟨a50, c50, rfl, hR50⟩
  skip
  refine Ops.buildSliceF (cells := [.int .i64 5, .int .i64 10, .int .i64 15]) rfl rfl rfl ?_
  intro b51 w51 hb51 hs51 hS51 hk51
  have i51 : RowI w51 (.slice (some ⟨b51, 0, none⟩) ([5, 10, 15] : List Int).length 3) false 1 (([5, 10, 15] : List Int).map intV) := ⟨Bk.row (xs := ([5, 10, 15] : List Int).map intV) hk51 (int_fit8 _) (by simp)⟩
  skip
  refine jjQ (ints_law8 (.slice (some ⟨b51, 0, none⟩) 3 3) _ _ _ rfl _) rfl rfl ?_
  rintro _ w52 hS52 rfl
  skip
  refine jjQ ((Waste_galley 5 a50 c50 exG (some ⟨b51, 0, none⟩) 3 [5, 10, 15] _ (by decide) ((hR50.ext hS51.ext).ext hS52.ext) exg_sz (htn.ext inferInstance)).mono (R' := fun v _ => v = .tuple #[.int .i64 0, .int .i64 81]) fun v _ _ h => h.trans (by rw [ee_was2, ee_brk2])) rfl rfl ?_
  rintro _ w53 hS53 rfl
  (apply jI; exact eU rfl; refine ju rfl rfl ?_; refine ju rfl rfl ?_; apply jJ; exact eI rfl; refine jz ?_; refine jjB ?_; refine jjC ?_)
  refine jjQ (example_law8 _) rfl rfl ?_
  rintro _ w55 hS55 ⟨a55, c55, rfl, hR55⟩
  skip
  refine Ops.buildSliceF (cells := [.int .i64 9, .int .i64 13, .int .i64 15]) rfl rfl rfl ?_
  intro b56 w56 hb56 hs56 hS56 hk56
  have i56 : RowI w56 (.slice (some ⟨b56, 0, none⟩) ([9, 13, 15] : List Int).length 3) false 1 (([9, 13, 15] : List Int).map intV) := ⟨Bk.row (xs := ([9, 13, 15] : List Int).map intV) hk56 (int_fit8 _) (by simp)⟩
  skip
  refine jjQ (ints_law8 (.slice (some ⟨b56, 0, none⟩) 3 3) _ _ _ rfl _) rfl rfl ?_
  rintro _ w57 hS57 rfl
  skip
  refine jjQ ((Waste_galley 5 a55 c55 exG (some ⟨b56, 0, none⟩) 3 [9, 13, 15] _ (by decide) ((hR55.ext hS56.ext).ext hS57.ext) exg_sz (htn.ext inferInstance)).mono (R' := fun v _ => v = .tuple #[.int .i64 0, .int .i64 81]) fun v _ _ h => h.trans (by rw [ee_was3, ee_brk3])) rfl rfl ?_
  rintro _ w58 hS58 rfl
  (apply jI; exact eU rfl; refine ju rfl rfl ?_; refine ju rfl rfl ?_; apply jJ; exact eI rfl; refine jz ?_; refine jjB ?_; refine jjC ?_)
  refine jjQ (example_law8 _) rfl rfl ?_
  rintro _ w60 hS60 ⟨a60, c60, rfl, hR60⟩
  skip
  refine Ops.buildSliceF (cells := [.int .i64 5, .int .i64 9, .int .i64 13]) rfl rfl rfl ?_
  intro b61 w61 hb61 hs61 hS61 hk61
  have i61 : RowI w61 (.slice (some ⟨b61, 0, none⟩) ([5, 9, 13] : List Int).length 3) false 1 (([5, 9, 13] : List Int).map intV) := ⟨Bk.row (xs := ([5, 9, 13] : List Int).map intV) hk61 (int_fit8 _) (by simp)⟩
  skip
  refine jjQ (ints_law8 (.slice (some ⟨b61, 0, none⟩) 3 3) _ _ _ rfl _) rfl rfl ?_
  rintro _ w62 hS62 rfl
  skip
  refine jjQ ((Waste_galley 5 a60 c60 exG (some ⟨b61, 0, none⟩) 3 [5, 9, 13] _ (by decide) ((hR60.ext hS61.ext).ext hS62.ext) exg_sz (htn.ext inferInstance)).mono (R' := fun v _ => v = .tuple #[.int .i64 0, .int .i64 81]) fun v _ _ h => h.trans (by rw [ee_was4, ee_brk4])) rfl rfl ?_
  rintro _ w63 hS63 rfl
  (apply jI; exact eU rfl; refine ju rfl rfl ?_; refine ju rfl rfl ?_; apply jJ; exact eI rfl; refine jz ?_; refine jjB ?_; refine jjC ?_)
  refine jjQ (example_law8 _) rfl rfl ?_
  rintro _ w65 hS65 ⟨a65, c65, rfl, hR65⟩
  skip
  refine Ops.buildSliceF (cells := [.int .i64 5, .int .i64 9, .int .i64 13, .int .i64 15]) rfl rfl rfl ?_
  intro b66 w66 hb66 hs66 hS66 hk66
  have i66 : RowI w66 (.slice (some ⟨b66, 0, none⟩) ([5, 9, 13, 15] : List Int).length 4) false 1 (([5, 9, 13, 15] : List Int).map intV) := ⟨Bk.row (xs := ([5, 9, 13, 15] : List Int).map intV) hk66 (int_fit8 _) (by simp)⟩
  skip
  refine jjQ (ints_law8 (.slice (some ⟨b66, 0, none⟩) 4 4) _ _ _ rfl _) rfl rfl ?_
  rintro _ w67 hS67 rfl
  skip
  refine jjQ ((At_galley 5 a65 c65 exG (some ⟨b66, 0, none⟩) 4 [5, 9, 13, 15] _ 15 (by decide) ((hR65.ext hS66.ext).ext hS67.ext) exg_sz (htn.ext inferInstance)).mono (R' := fun v _ => v = .tuple #[.int .i64 0, .int .i64 0, .int .i64 2]) fun v _ _ h => h.trans (by rw [show ([5, 9, 13, 15] : List Int) = exL from rfl, ee_at15]; rfl)) rfl rfl ?_
  rintro _ w68 hS68 rfl
  (apply jI; exact eU rfl; refine ju rfl rfl ?_; refine ju rfl rfl ?_; refine ju rfl rfl ?_; apply jJ; exact eI rfl; refine jz ?_; refine jjB ?_; refine jjC ?_)
  refine jjQ (example_law8 _) rfl rfl ?_
  rintro _ w70 hS70 ⟨a70, c70, rfl, hR70⟩
  skip
  refine Ops.buildSliceF (cells := [.int .i64 5, .int .i64 9, .int .i64 13, .int .i64 15]) rfl rfl rfl ?_
  intro b71 w71 hb71 hs71 hS71 hk71
  have i71 : RowI w71 (.slice (some ⟨b71, 0, none⟩) ([5, 9, 13, 15] : List Int).length 4) false 1 (([5, 9, 13, 15] : List Int).map intV) := ⟨Bk.row (xs := ([5, 9, 13, 15] : List Int).map intV) hk71 (int_fit8 _) (by simp)⟩
  skip
  refine jjQ (ints_law8 (.slice (some ⟨b71, 0, none⟩) 4 4) _ _ _ rfl _) rfl rfl ?_
  rintro _ w72 hS72 rfl
  skip
  refine jjQ ((Columns_galley 5 a70 c70 exG (some ⟨b71, 0, none⟩) 4 [5, 9, 13, 15] _ 4 (by decide) ((hR70.ext hS71.ext).ext hS72.ext) exg_sz (htn.ext inferInstance)).mono (R' := fun v _ => v = .tuple #[.int .i64 0, .int .i64 0, .int .i64 2]) fun v _ _ h => h.trans (by rw [show ([5, 9, 13, 15] : List Int) = exL from rfl, ee_col4]; rfl)) rfl rfl ?_
  rintro _ w73 hS73 rfl
  (apply jI; exact eU rfl; refine ju rfl rfl ?_; refine ju rfl rfl ?_; refine ju rfl rfl ?_; apply jJ; exact eI rfl; apply jJ; exact eI rfl; apply jJ; exact eI rfl; refine jz ?_; refine jjB ?_; refine jjC ?_)
  refine jjQ (example_law8 _) rfl rfl ?_
  rintro _ w75 hS75 ⟨a75, c75, rfl, hR75⟩
  skip
  refine Ops.buildSliceF (cells := [.int .i64 5, .int .i64 9, .int .i64 13, .int .i64 15]) rfl rfl rfl ?_
  intro b76 w76 hb76 hs76 hS76 hk76
  have i76 : RowI w76 (.slice (some ⟨b76, 0, none⟩) ([5, 9, 13, 15] : List Int).length 4) false 1 (([5, 9, 13, 15] : List Int).map intV) := ⟨Bk.row (xs := ([5, 9, 13, 15] : List Int).map intV) hk76 (int_fit8 _) (by simp)⟩
  skip
  refine jjQ (ints_law8 (.slice (some ⟨b76, 0, none⟩) 4 4) _ _ _ rfl _) rfl rfl ?_
  rintro _ w77 hS77 rfl
  skip
  refine jjQ ((Fix_galley 5 a75 c75 exG (some ⟨b76, 0, none⟩) 4 exL _ 0 0 (by decide) ((hR75.ext hS76.ext).ext hS77.ext) exg_sz (htn.ext inferInstance) (hnn.ext inferInstance)).mono (R' := fun v w' => v = .tuple #[.agg #[.int .i64 0, .slice none 0 0], .slice none 0 0, .int .i64 0, .int .i64 0, .int .i64 2]) fun v _ _ h => ?_) rfl rfl ?_
  · rcases h with ⟨h1, -⟩ | ⟨-, -, hv⟩ | ⟨-, k', t, xa, xc, aa, ac, hk, hD, hT, hv, hOx, hOm, -⟩
    · exact absurd ex_valid h1
    · exact hv
    · have := hD.hln; omega
  rintro _ w78 hS78 rfl
  (apply jI; exact eU rfl; refine ju rfl rfl ?_; refine ju rfl rfl ?_; refine ju rfl rfl ?_; refine ju rfl rfl ?_; refine ju rfl rfl ?_)
  (apply jjR rfl; (intro _; first|exact eI rfl|exact eB rfl|exact eP rfl|exact eS rfl|exact eT rfl|exact eA rfl|exact eU rfl|exact eF rfl|exact eM rfl|exact eN rfl|exact rfl); exact rfl; exact rfl; exact rfl; exact rfl; intro b15 w_b15 hb_b15 hs_b15 hS_b15 hk_b15; have hA_b15 := Bk.of hk_b15)
  (apply jJ; exact eS rfl; apply jJ; exact eI rfl; apply jJ; exact eI rfl; apply jJ; exact eI rfl; refine jz ?_; refine jjB ?_; refine jjC ?_)
  refine jjQ (text_law8 _) rfl rfl ?_
  rintro _ w80 hS80 ⟨a80, c80, cs80, rfl, hR80, hT80, hx80⟩
  have i80 := RowI.mk hR80
  skip
  (refine jjS (cells := [.int .i64 14, .int .u8 3]) ?_ ?_; exact rfl)
  have hst := Set_galley a80 c80 cs80 14 3 w80 (small_of_great (by rw [hx80]; kernel_rfl)) (by omega) 3
  rw [hx80, ee_set1] at hst
  skip
  refine jjQ (hst.mono (R' := fun v _ => ∃ ga gc, v = .tuple #[.agg #[.int .i64 0, .slice ga 0 gc], .int .i64 2]) fun v _ _ h => by obtain ⟨ga, gc, e, _⟩ := h; exact ⟨ga, gc, e⟩) rfl rfl ?_
  rintro _ w81 hS81 ⟨ga1, gc1, rfl⟩
  (apply jI; exact eU rfl; refine ju rfl rfl ?_; refine ju rfl rfl ?_)
  (apply jjR rfl; (intro _; first|exact eI rfl|exact eB rfl|exact eP rfl|exact eS rfl|exact eT rfl|exact eA rfl|exact eU rfl|exact eF rfl|exact eM rfl|exact eN rfl|exact rfl); exact rfl; exact rfl; exact rfl; exact rfl; intro b20 w_b20 hb_b20 hs_b20 hS_b20 hk_b20; have hA_b20 := Bk.of hk_b20)
  (apply jJ; exact eI rfl; refine jz ?_; refine jjB ?_; refine jjC ?_)
  refine jjQ (text_law8 _) rfl rfl ?_
  rintro _ w82 hS82 ⟨a82, c82, cs82, rfl, hR82, hT82, hx82⟩
  have i82 := RowI.mk hR82
  skip
  (refine jjS (cells := [.int .i64 0, .int .u8 0]) ?_ ?_; exact rfl)
  have hst2 := Set_galley a82 c82 cs82 0 0 w82 (small_of_great (by rw [hx82]; kernel_rfl)) (by omega) 4
  rw [hx82, ee_set2] at hst2
  skip
  refine jjQ (hst2.mono (R' := fun v _ => ∃ ga gc, v = .tuple #[.agg #[.int .i64 0, .slice ga 0 gc], .int .i64 30]) fun v _ _ h => by obtain ⟨ga, gc, e, _⟩ := h; exact ⟨ga, gc, e⟩) rfl rfl ?_
  rintro _ w83 hS83 ⟨ga2, gc2, rfl⟩
  (apply jI; exact eU rfl; refine ju rfl rfl ?_; refine ju rfl rfl ?_)
  (apply jjR rfl; (intro _; first|exact eI rfl|exact eB rfl|exact eP rfl|exact eS rfl|exact eT rfl|exact eA rfl|exact eU rfl|exact eF rfl|exact eM rfl|exact eN rfl|exact rfl); exact rfl; exact rfl; exact rfl; exact rfl; intro b22 w_b22 hb_b22 hs_b22 hS_b22 hk_b22; have hA_b22 := Bk.of hk_b22)
  have hA10 : At w_b22 b10 0 [.int .i64 3, .slice a40 4 c40] := inferInstance
  have hA11 : At w_b22 b11 0 [.int .i64 5, .slice (some ⟨b41, 0, none⟩) 4 4] := inferInstance
  have hEL : Ext V4 w_b22 := inferInstance
  (apply jJ; exact eI rfl; refine jz ?_; refine jjB ?_; refine jjC ?_; apply jI; exact eI rfl; refine jjh rfl rfl (by omega) ?_; apply jI; exact eB rfl; refine jT rfl rfl rfl ?_; apply jI; exact eI rfl; refine jT rfl rfl rfl ?_; refine jjh rfl rfl (by omega) ?_; apply jK rfl; exact eB rfl; apply jI; exact eB rfl; refine jT rfl rfl rfl ?_; apply jI; exact eI rfl; refine jT rfl rfl rfl ?_; refine jjh rfl rfl (by omega) ?_; apply jK rfl; exact eB rfl; apply jI; exact eB rfl; refine jT rfl rfl rfl ?_; apply jI; exact eI rfl; refine jT rfl rfl rfl ?_; refine jjh rfl rfl (by omega) ?_; apply jK rfl; exact eB rfl; apply jI; exact eB rfl; refine jT rfl rfl rfl ?_; apply jI; exact eI rfl; refine jT rfl rfl rfl ?_; refine jjh rfl rfl (by omega) ?_; apply jK rfl; exact eB rfl; apply jI; exact eB rfl; refine jT rfl rfl rfl ?_; apply jI; exact eI rfl; refine jT rfl rfl rfl ?_; refine jjh rfl rfl (by omega) ?_; apply jK rfl; exact eB rfl; apply jI; exact eB rfl; refine jT rfl rfl rfl ?_; apply jI; exact eI rfl; refine jT rfl rfl rfl ?_; refine jjh rfl rfl (by omega) ?_; apply jK rfl; exact eB rfl; apply jI; exact eB rfl; refine jT rfl rfl rfl ?_; apply jI; exact eI rfl; refine jT rfl rfl rfl ?_; refine jjh rfl rfl (by omega) ?_; apply jK rfl; exact eB rfl; apply jI; exact eB rfl; refine jT rfl rfl rfl ?_; refine jO rfl rfl rfl rfl ?_; refine jT rfl rfl rfl ?_)
  refine jjQ ((Check_galley 3 (.slice a40 4 c40) exG _ (hRl.ext hEL) exg_sz).mono (R' := fun v _ => v = .int .i64 80) fun v _ _ h => h.trans (by rw [ee_low])) rfl rfl ?_
  rintro _ w84 hS84 rfl
  (refine jT rfl rfl rfl ?_; refine jjh rfl rfl (by omega) ?_; apply jK rfl; exact eB rfl; apply jI; exact eB rfl; refine jT rfl rfl rfl ?_; refine jO rfl rfl rfl rfl ?_; refine jT rfl rfl rfl ?_)
  refine jjQ ((Check_galley 5 (.slice (some ⟨b41, 0, none⟩) 4 4) [(wAnd, 21), (wIs, 2), (wOld, 6), (wSea, 4)] _ (hRo.ext (hEL.trans hS84.ext)) (by decide)).mono (R' := fun v _ => v = .int .i64 80) fun v _ _ h => h.trans (by rw [ee_odd])) rfl rfl ?_
  rintro _ w85 hS85 rfl
  (refine jT rfl rfl rfl ?_; refine jjh rfl rfl (by omega) ?_; apply jK rfl; exact eB rfl; apply jI; exact eB rfl; refine jT rfl rfl rfl ?_)
  (refine jjS (cells := [.int .i64 4, .slice none 0 0]) ?_ ?_; exact rfl)
  (refine jT rfl rfl rfl ?_)
  refine jjQ ((Check_galley 4 (.slice none 0 0) [] _ (RowV.nilS _ _ _ _ _) (by simp)).mono (R' := fun v _ => v = .int .i64 80) fun v _ _ h => h.trans (by rw [ee_non])) rfl rfl ?_
  rintro _ w86 hS86 rfl
  (refine jT rfl rfl rfl ?_; refine jjh rfl rfl (by omega) ?_; apply jK rfl; exact eB rfl; apply jJ; exact eB rfl; refine jz ?_; refine jjF ?_; refine jB rfl rfl ⟨inferInstance, ?_⟩)
  exact rfl
end
end Go.Proofs.YtfebegbjggoijaaGreatDoor
