/- Texts of the proof, part 6: Gl2, LawGt. -/
import Derived.Test.YtfebegbjggoijaaGreatDoorGT5
/- The laws of galleys: the chapter's examples (alive). -/
namespace Go.Proofs.YtfebegbjggoijaaGreatDoor
open Go.RowKit

abbrev noneC : List Value := [.int .i64 (-1), .int .i64 (-1)]
theorem strs_fit8 (l : List ByteArray) : ∀ x ∈ l.map strV, fitsV false 1 x = true := fun x hx => by
  obtain ⟨y, _, rfl⟩ := List.mem_map.1 hx; rfl
theorem blk_fit8 (l : List Blk) : ∀ x ∈ l.map encB, fitsV true 2 x = true := fun x hx => by
  obtain ⟨y, _, rfl⟩ := List.mem_map.1 hx; rfl
set_option maxHeartbeats 1000000 in
theorem text_law8 (w : World) : Ct Tryz.prog 34 [] w fun v w' => ∃ a c cs, v = .agg #[.slice a cs.length c] ∧ RowV w' true 2 (.slice a cs.length c) (cs.map encCh) ∧ TextI w' cs ∧ txF cs = seaT := by
  refine Ct.ofW (by simp) ?_
  (((refine jjB ?_; refine jjC ?_)); refine jjY ?_; intro b0 w_b0 hb_b0 hs_b0 hS_b0 hk_b0; have hA_b0 := Bk.of hk_b0)
  (refine jz ?_; refine jjB ?_; refine jjC ?_)
  refine Ops.buildSliceF (cells := [strV wThe, strV wSea, strV wIs, strV wOld]) rfl rfl rfl ?_
  intro b1 w1 hb1 hs1 hS1 hk1
  refine Ops.buildSliceF (cells := [strV wOld, strV wThe, strV wSea]) rfl rfl rfl ?_
  intro b2 w2 hb2 hs2 hS2 hk2
  refine Ops.buildSliceF (cells := [.slice (some ⟨b1, 0, none⟩) 4 4, .slice (some ⟨b2, 0, none⟩) 3 3]) rfl rfl rfl ?_
  intro b3 w3 hb3 hs3 hS3 hk3
  (refine jjS (cells := [.int .i64 7, .slice (some ⟨b3, 0, none⟩) 2 2]) ?_ ?_; exact rfl)
  refine Ops.buildSliceF (cells := [strV wSea, strV wAnd, strV wSea]) rfl rfl rfl ?_
  intro b5 w5 hb5 hs5 hS5 hk5
  refine Ops.buildSliceF (cells := [.slice (some ⟨b5, 0, none⟩) 3 3]) rfl rfl rfl ?_
  intro b6 w6 hb6 hs6 hS6 hk6
  (refine jjS (cells := [.int .i64 3, .slice (some ⟨b6, 0, none⟩) 1 1]) ?_ ?_; exact rfl)
  refine Ops.buildSliceF (cells := [.int .i64 7, .slice (some ⟨b3, 0, none⟩) 2 2, .int .i64 3, .slice (some ⟨b6, 0, none⟩) 1 1]) rfl rfl rfl ?_
  intro b8 w8 hb8 hs8 hS8 hk8
  (refine jjS (cells := [.slice (some ⟨b8, 0, none⟩) 2 2]) ?_ ?_; exact rfl)
  have hb0 : Bk w8 b0 [.slice none 0 0] 63 := inferInstance
  have hE8 : Ext w w8 := inferInstance
  have k1 : Bk w8 b1 [strV wThe, strV wSea, strV wIs, strV wOld] 9 := inferInstance
  have k2 : Bk w8 b2 [strV wOld, strV wThe, strV wSea] 9 := inferInstance
  have k3 : Bk w8 b3 [.slice (some ⟨b1, 0, none⟩) 4 4, .slice (some ⟨b2, 0, none⟩) 3 3] 71 := inferInstance
  have k5 : Bk w8 b5 [strV wSea, strV wAnd, strV wSea] 9 := inferInstance
  have k6 : Bk w8 b6 [.slice (some ⟨b5, 0, none⟩) 3 3] 71 := inferInstance
  refine Ops.store rfl rfl rfl rfl rfl ?_
  intro V2 hp2
  have := Bk.toAt (h := Bk.of hp2.new)
  have z0 := hS_b0.size
  have z1 := hS1.size
  have z2 := hS2.size
  have z3 := hS3.size
  have z5 := hS5.size
  have z6 := hS6.size
  have z8 := hS8.size
  have m1 := hp2.bk k1 (by omega)
  have m2 := hp2.bk k2 (by omega)
  have m3 := hp2.bk k3 (by omega)
  have m5 := hp2.bk k5 (by omega)
  have m6 := hp2.bk k6 (by omega)
  have m8 := hp2.bk hk8 (by omega)
  (refine jz ?_; refine jjF ?_)
  refine fin1C rfl rfl rfl rfl rfl ⟨hp2.ext hE8 (by omega), some ⟨b8, 0, none⟩, 2, [(7, some ⟨b3, 0, none⟩, 2, [(some ⟨b1, 0, none⟩, 4, [wThe, wSea, wIs, wOld]), (some ⟨b2, 0, none⟩, 3, [wOld, wThe, wSea])]), (3, some ⟨b6, 0, none⟩, 1, [(some ⟨b5, 0, none⟩, 3, [wSea, wAnd, wSea])])], rfl, ?_, ⟨?_, ?_⟩, rfl⟩
  · exact Bk.rows (xs := [encCh (7, some ⟨b3, 0, none⟩, 2, [(some ⟨b1, 0, none⟩, 4, [wThe, wSea, wIs, wOld]), (some ⟨b2, 0, none⟩, 3, [wOld, wThe, wSea])]), encCh (3, some ⟨b6, 0, none⟩, 1, [(some ⟨b5, 0, none⟩, 3, [wSea, wAnd, wSea])])]) m8 (by simp [fitsV]) (by simp)
  · intro x hx
    simp only [List.mem_cons, List.not_mem_nil, or_false] at hx
    rcases hx with rfl | rfl
    · exact m3.row (fun x hx => by simp at hx; rcases hx with rfl | rfl <;> rfl) (by simp)
    · exact m6.row (fun x hx => by simp at hx; rcases hx with rfl; rfl) (by simp)
  · intro x hx
    simp only [List.mem_cons, List.not_mem_nil, or_false] at hx
    rcases hx with rfl | rfl
    · intro y hy
      simp only [List.mem_cons, List.not_mem_nil, or_false] at hy
      rcases hy with rfl | rfl
      · exact m1.row (strs_fit8 [_, _, _, _]) (by simp)
      · exact m2.row (strs_fit8 [_, _, _]) (by simp)
    · intro y hy
      simp only [List.mem_cons, List.not_mem_nil, or_false] at hy
      subst hy
      exact m5.row (strs_fit8 [_, _, _]) (by simp)
set_option maxHeartbeats 1000000 in
theorem example_law8 (w : World) : Ct Tryz.prog 31 [] w fun v w' => ∃ a c, v = .agg #[.int .i64 5, .slice a exG.length c] ∧ RowV w' true 2 (.slice a exG.length c) (exG.map encB) := by
  refine Ct.ofW (by simp) ?_
  (((refine jjB ?_; refine jjC ?_)); refine jjY ?_; intro b0 w_b0 hb_b0 hs_b0 hS_b0 hk_b0; have hA_b0 := Bk.of hk_b0)
  (refine jz ?_; refine jjB ?_; refine jjC ?_)
  (refine jjS (cells := [.string wAnd, .int .i64 3]) ?_ ?_; exact rfl)
  (refine jjS (cells := [.string wIs, .int .i64 2]) ?_ ?_; exact rfl)
  (refine jjS (cells := [.string wOld, .int .i64 6]) ?_ ?_; exact rfl)
  (refine jjS (cells := [.string wSea, .int .i64 4]) ?_ ?_; exact rfl)
  refine Ops.buildSliceF (cells := [.string wAnd, .int .i64 3, .string wIs, .int .i64 2, .string wOld, .int .i64 6, .string wSea, .int .i64 4]) rfl rfl rfl ?_
  intro b5 w5 hb5 hs5 hS5 hk5
  (refine jjS (cells := [.int .i64 5, .slice (some ⟨b5, 0, none⟩) 4 4]) ?_ ?_; exact rfl)
  have hb0 : Bk w5 b0 [.int .i64 0, .slice none 0 0] 24 := inferInstance
  have hE5 : Ext w w5 := inferInstance
  refine Ops.store rfl rfl rfl rfl rfl ?_
  intro V2 hp2
  have := Bk.toAt (h := Bk.of hp2.new)
  have z0 := hS_b0.size
  have z5 := hS5.size
  have m5 := hp2.bk hk5 (by omega)
  (refine jz ?_; refine jjF ?_)
  refine fin1C rfl rfl rfl rfl rfl ⟨hp2.ext hE5 (by omega), some ⟨b5, 0, none⟩, 4, rfl, ?_⟩
  exact Bk.rows (xs := exG.map encB) m5 (blk_fit8 _) (by simp)
theorem int_fit8 (l : List Int) : ∀ x ∈ l.map intV, fitsV false 1 x = true := fun x hx => by
  obtain ⟨y, _, rfl⟩ := List.mem_map.1 hx; rfl
theorem exg_sz : ∀ b ∈ exG, b.1.size ≤ 140737488351232 := by decide
section
variable (w : World) [hgs : At w 2 0 sidesC] [htn : At w 1 0 tornC] [hnn : At w 0 0 noneC]
set_option maxRecDepth 20000 in
set_option maxHeartbeats 16000000 in
theorem alive_law8 : Ct Tryz.prog 11 [] w fun v _ => v = .bool true := by
  refine Ct.ofW (by simp) ?_
  (refine jjB ?_; refine jjC ?_; apply jJ; exact eB rfl; refine jz ?_; refine jjB ?_; refine jjC ?_)
  refine jjQ (example_law8 _) rfl rfl ?_
  rintro _ w1 hS1 ⟨a1, c1, rfl, hR1⟩
  skip
  refine jjQ ((Ends_galley 5 a1 c1 exG _ hR1 exg_sz (htn.ext inferInstance)).mono (R' := fun v w' => ∃ u, v = .tuple #[u, .int .i64 0] ∧ RowV w' false 1 u ([(3 : Int), 5, 7, 8, 9, 11, 13, 15].map intV)) fun v _ _ h => by rw [if_pos ex_ok, ex_ends] at h; exact h) rfl rfl ?_
  rintro _ w2 hS2 ⟨u2, rfl, hR2⟩
  obtain ⟨a2, c2, rfl, i2⟩ := hR2.ints
  (apply jI; exact eU rfl; refine ju rfl rfl ?_; refine ju rfl rfl ?_; apply jJ; exact eS rfl; apply jJ; exact eI rfl; refine jz ?_; refine jjB ?_; refine jjC ?_)
  refine jjQ (example_law8 _) rfl rfl ?_
  rintro _ w3 hS3 ⟨a3, c3, rfl, hR3⟩
  skip
  refine jjQ ((Break_galley 5 a3 c3 exG _ hR3 exg_sz (htn.ext inferInstance) (hnn.ext inferInstance)).mono (R' := fun v w' => ∃ u, v = .tuple #[u, .int .i64 0] ∧ RowV w' false 1 u ([(5 : Int), 9, 13, 15].map intV)) fun v _ _ h => by rw [if_pos ex_ok, ex_brk] at h; exact h) rfl rfl ?_
  rintro _ w4 hS4 ⟨u4, rfl, hR4⟩
  obtain ⟨a4, c4, rfl, i4⟩ := hR4.ints
  (apply jI; exact eU rfl; refine ju rfl rfl ?_; refine ju rfl rfl ?_; apply jJ; exact eS rfl; apply jJ; exact eI rfl; refine jz ?_; refine jjB ?_; refine jjC ?_)
  refine jjQ (example_law8 _) rfl rfl ?_
  rintro _ w5 hS5 ⟨a5, c5, rfl, hR5⟩
  skip
  refine Ops.buildSliceF (cells := [.int .i64 5, .int .i64 9, .int .i64 13, .int .i64 15]) rfl rfl rfl ?_
  intro b6 w6 hb6 hs6 hS6 hk6
  have i6 : RowI w6 (.slice (some ⟨b6, 0, none⟩) exL.length 4) false 1 (exL.map intV) := ⟨hk6.row (fun x hx => by simp at hx; rcases hx with rfl | rfl | rfl | rfl <;> rfl) (by simp)⟩
  skip
  refine jjQ (ints_law8 (.slice (some ⟨b6, 0, none⟩) 4 4) _ _ _ rfl _) rfl rfl ?_
  rintro _ w7 hS7 rfl
  skip
  refine jjQ ((Waste_galley 5 a5 c5 exG (some ⟨b6, 0, none⟩) 4 exL _ (by decide) ((hR5.ext hS6.ext).ext hS7.ext) exg_sz (htn.ext inferInstance)).mono (R' := fun v _ => v = .tuple #[.int .i64 2, .int .i64 0]) fun v _ _ h => h.trans (by rw [ex_waste, ex_valid])) rfl rfl ?_
  rintro _ w8 hS8 rfl
  (apply jI; exact eU rfl; refine ju rfl rfl ?_; refine ju rfl rfl ?_; apply jJ; exact eI rfl; apply jJ; exact eI rfl; refine jz ?_; refine jjB ?_; refine jjC ?_)
  refine jjQ (example_law8 _) rfl rfl ?_
  rintro _ w9 hS9 ⟨a9, c9, rfl, hR9⟩
  skip
  refine jjQ ((Proof_galley 5 a9 c9 exG _ hR9 exg_sz (htn.ext inferInstance) (fun _ => by rw [ex_ends]; decide)).mono (R' := fun v w' => ∃ u, v = .tuple #[u, .int .i64 0] ∧ RowV w' false 1 u ([(0 : Int), 4, 0, 5, 4, 1, 6, 2, 2].map intV)) fun v _ _ h => by rw [if_pos ex_ok] at h; exact h) rfl rfl ?_
  rintro _ w10 hS10 ⟨u10, rfl, hR10⟩
  obtain ⟨a10, c10, rfl, i10⟩ := hR10.ints
  (apply jI; exact eU rfl; refine ju rfl rfl ?_; refine ju rfl rfl ?_; apply jJ; exact eS rfl; apply jJ; exact eI rfl; refine jz ?_; refine jjB ?_; refine jjC ?_)
  refine jjQ (example_law8 _) rfl rfl ?_
  rintro _ w11 hS11 ⟨a11, c11, rfl, hR11⟩
  skip
  refine Ops.buildSliceF (cells := [.int .i64 5, .int .i64 9, .int .i64 13, .int .i64 15]) rfl rfl rfl ?_
  intro b12 w12 hb12 hs12 hS12 hk12
  have i12 : RowI w12 (.slice (some ⟨b12, 0, none⟩) exL.length 4) false 1 (exL.map intV) := ⟨hk12.row (fun x hx => by simp at hx; rcases hx with rfl | rfl | rfl | rfl <;> rfl) (by simp)⟩
  skip
  refine jjQ (ints_law8 (.slice (some ⟨b12, 0, none⟩) 4 4) _ _ _ rfl _) rfl rfl ?_
  rintro _ w13 hS13 rfl
  skip
  refine jjQ ((At_galley 5 a11 c11 exG (some ⟨b12, 0, none⟩) 4 exL _ 9 (by decide) ((hR11.ext hS12.ext).ext hS13.ext) exg_sz (htn.ext inferInstance)).mono (R' := fun v _ => v = .tuple #[.int .i64 2, .int .i64 0, .int .i64 0]) fun v _ _ h => h.trans (by rw [ex_at]; rfl)) rfl rfl ?_
  rintro _ w14 hS14 rfl
  (apply jI; exact eU rfl; refine ju rfl rfl ?_; refine ju rfl rfl ?_; refine ju rfl rfl ?_; apply jJ; exact eI rfl; apply jJ; exact eI rfl; apply jJ; exact eI rfl; refine jz ?_; refine jjB ?_; refine jjC ?_)
  refine jjQ (example_law8 _) rfl rfl ?_
  rintro _ w15 hS15 ⟨a15, c15, rfl, hR15⟩
  skip
  refine Ops.buildSliceF (cells := [.int .i64 5, .int .i64 9, .int .i64 13, .int .i64 15]) rfl rfl rfl ?_
  intro b16 w16 hb16 hs16 hS16 hk16
  have i16 : RowI w16 (.slice (some ⟨b16, 0, none⟩) exL.length 4) false 1 (exL.map intV) := ⟨hk16.row (fun x hx => by simp at hx; rcases hx with rfl | rfl | rfl | rfl <;> rfl) (by simp)⟩
  skip
  refine jjQ (ints_law8 (.slice (some ⟨b16, 0, none⟩) 4 4) _ _ _ rfl _) rfl rfl ?_
  rintro _ w17 hS17 rfl
  skip
  refine jjQ ((Columns_galley 5 a15 c15 exG (some ⟨b16, 0, none⟩) 4 exL _ 2 (by decide) ((hR15.ext hS16.ext).ext hS17.ext) exg_sz (htn.ext inferInstance)).mono (R' := fun v _ => v = .tuple #[.int .i64 1, .int .i64 2, .int .i64 0]) fun v _ _ h => h.trans (by rw [ex_col]; rfl)) rfl rfl ?_
  rintro _ w18 hS18 rfl
  (apply jI; exact eU rfl; refine ju rfl rfl ?_; refine ju rfl rfl ?_; refine ju rfl rfl ?_; apply jJ; exact eI rfl; apply jJ; exact eI rfl; apply jJ; exact eI rfl; refine jz ?_; refine jjB ?_; refine jjC ?_)
  refine jjQ (example_law8 _) rfl rfl ?_
  rintro _ w19 hS19 ⟨a19, c19, rfl, hR19⟩
  skip
  refine Ops.buildSliceF (cells := [.int .i64 5, .int .i64 9, .int .i64 13, .int .i64 15]) rfl rfl rfl ?_
  intro b20 w20 hb20 hs20 hS20 hk20
  have i20 : RowI w20 (.slice (some ⟨b20, 0, none⟩) exL.length 4) false 1 (exL.map intV) := ⟨hk20.row (fun x hx => by simp at hx; rcases hx with rfl | rfl | rfl | rfl <;> rfl) (by simp)⟩
  skip
  refine jjQ (ints_law8 (.slice (some ⟨b20, 0, none⟩) 4 4) _ _ _ rfl _) rfl rfl ?_
  rintro _ w21 hS21 rfl
  skip
  refine jjQ ((Fix_galley 5 a19 c19 exG (some ⟨b20, 0, none⟩) 4 exL _ 1 3 (by decide) ((hR19.ext hS20.ext).ext hS21.ext) exg_sz (htn.ext inferInstance) (hnn.ext inferInstance)).mono (R' := fun v w' => ∃ (xa : Option Addr) (xc : Nat) (aa : Option Addr) (ac : Nat), v = .tuple #[.agg #[.int .i64 5, .slice xa 4 xc], .slice aa 5 ac, .int .i64 0, .int .i64 0, .int .i64 0] ∧ RowV w' true 2 (.slice xa 4 xc) ([(wAnd, (3 : Int)), (wIs, 3), (wOld, 6), (wSea, 4)].map encB) ∧ RowV w' false 1 (.slice aa 5 ac) ([(3 : Int), 6, 10, 14, 16].map intV)) fun v _ _ h => ?_) rfl rfl ?_
  · rcases h with ⟨h1, -⟩ | ⟨-, h1, -⟩ | ⟨-, k', t, xa, xc, aa, ac, hk, hD, hT, hv, hOx, hOm, -⟩
    · exact absurd ex_valid h1
    · exact absurd ⟨⟨by omega, by decide⟩, by omega, by omega⟩ h1
    · obtain rfl : k' = 1 := by omega
      obtain rfl : t = 0 := (FixT.eq hD hT).trans ex_colT.1
      rw [ex_fix, ex_colT.2] at hv
      rw [ex_fix] at hOm
      exact ⟨xa, xc, aa, ac, hv, hOx.row, hOm.row⟩
  rintro _ w22 hS22 ⟨xa, xc, aa, ac, rfl, hRx, hRm⟩
  (apply jI; exact eU rfl; refine ju rfl rfl ?_; refine ju rfl rfl ?_; refine ju rfl rfl ?_; refine ju rfl rfl ?_; refine ju rfl rfl ?_)
  (apply jjR rfl; (intro _; first|exact eI rfl|exact eB rfl|exact eP rfl|exact eS rfl|exact eT rfl|exact eA rfl|exact eU rfl|exact eF rfl|exact eM rfl|exact eN rfl|exact rfl); exact rfl; exact rfl; exact rfl; exact rfl; intro b15 w_b15 hb_b15 hs_b15 hS_b15 hk_b15; have hA_b15 := Bk.of hk_b15)
  (apply jJ; exact eS rfl; apply jJ; exact eI rfl; apply jJ; exact eI rfl; apply jJ; exact eI rfl; refine jz ?_; refine jjB ?_; refine jjC ?_)
  refine jjQ (text_law8 _) rfl rfl ?_
  rintro _ w23 hS23 ⟨a23, c23, cs23, rfl, hR23, hT23, hx23⟩
  have i23 := RowI.mk hR23
  skip
  (refine jjS (cells := [.int .i64 14, .int .u8 3]) ?_ ?_; exact rfl)
  have hst := Set_galley a23 c23 cs23 14 3 w23 (small_of_great (by rw [hx23]; kernel_rfl)) (by omega) 4
  rw [hx23, ex_set] at hst
  skip
  refine jjQ hst rfl rfl ?_
  rintro _ w24 hS24 ⟨ga, gc, rfl, hRg⟩
  (apply jI; exact eU rfl; refine ju rfl rfl ?_; refine ju rfl rfl ?_)
  (apply jjR rfl; (intro _; first|exact eI rfl|exact eB rfl|exact eP rfl|exact eS rfl|exact eT rfl|exact eA rfl|exact eU rfl|exact eF rfl|exact eM rfl|exact eN rfl|exact rfl); exact rfl; exact rfl; exact rfl; exact rfl; intro b20 w_b20 hb_b20 hs_b20 hS_b20 hk_b20; have hA_b20 := Bk.of hk_b20)
  (apply jJ; exact eI rfl; refine jz ?_; refine jjB ?_; refine jjC ?_)
  (refine jjS (cells := [.string wAnd, .int .i64 2]) ?_ ?_; exact rfl)
  (refine jjS (cells := [.string wIs, .int .i64 2]) ?_ ?_; exact rfl)
  (refine jjS (cells := [.string wOld, .int .i64 3]) ?_ ?_; exact rfl)
  (refine jjS (cells := [.string wSea, .int .i64 5]) ?_ ?_; exact rfl)
  (refine jjS (cells := [.string wThe, .int .i64 3]) ?_ ?_; exact rfl)
  refine Ops.buildSliceF (cells := [.string wAnd, .int .i64 2, .string wIs, .int .i64 2, .string wOld, .int .i64 3, .string wSea, .int .i64 5, .string wThe, .int .i64 3]) rfl rfl rfl ?_
  intro b25 w25 hb25 hs25 hS25 hk25
  have hEx : Ext w22 w25 := inferInstance
  have iM : RowI w25 (.slice aa 5 ac) false 1 ([(3 : Int), 6, 10, 14, 16].map intV) := ⟨hRm.ext inferInstance⟩
  have iX : RowI w25 (.slice xa 4 xc) true 2 ([(wAnd, (3 : Int)), (wIs, 3), (wOld, 6), (wSea, 4)].map encB) := ⟨hRx.ext inferInstance⟩
  have iG : RowI w25 (.slice ga 5 gc) true 2 ([(wAnd, (2 : Int)), (wIs, 2), (wOld, 3), (wSea, 5), (wThe, 3)].map encB) := ⟨hRg.ext inferInstance⟩
  have iW : RowI w25 (.slice (some ⟨b25, 0, none⟩) 5 5) true 2 ([(wAnd, (2 : Int)), (wIs, 2), (wOld, 3), (wSea, 5), (wThe, 3)].map encB) := ⟨Bk.rows (xs := [(wAnd, (2 : Int)), (wIs, 2), (wOld, 3), (wSea, 5), (wThe, 3)].map encB) hk25 (blk_fit8 _) (by simp)⟩
  have hA15 : At w25 b15 0 [.int .i64 5, .slice xa 4 xc] := inferInstance
  have hA20 : At w25 b20 0 [.int .i64 4, .slice ga 5 gc] := inferInstance
  (apply jJ; exact eS rfl; refine jz ?_; refine jjB ?_; refine jjC ?_; apply jI; exact eI rfl; refine jjh rfl rfl (by omega) ?_; apply jI; exact eB rfl; refine jT rfl rfl rfl ?_; apply jI; exact eS rfl; refine jT rfl rfl rfl ?_)
  refine Ops.buildSliceF (cells := [.int .i64 3, .int .i64 5, .int .i64 7, .int .i64 8, .int .i64 9, .int .i64 11, .int .i64 13, .int .i64 15]) rfl rfl rfl ?_
  intro b87 w87 hb87 hs87 hS87 hk87
  have i87 : RowI w87 (.slice (some ⟨b87, 0, none⟩) ([3, 5, 7, 8, 9, 11, 13, 15] : List Int).length 8) false 1 (([3, 5, 7, 8, 9, 11, 13, 15] : List Int).map intV) := ⟨Bk.row (xs := ([3, 5, 7, 8, 9, 11, 13, 15] : List Int).map intV) hk87 (int_fit8 _) (by simp)⟩
  (refine jT rfl rfl rfl ?_)
  refine jjQ ((same_law8 a2 (some ⟨b87, 0, none⟩) c2 8 [3, 5, 7, 8, 9, 11, 13, 15] [3, 5, 7, 8, 9, 11, 13, 15] _).mono (R' := fun v _ => v = .bool true) fun v _ _ h => h.trans (by rw [decide_eq_true rfl])) rfl rfl ?_
  rintro _ w26 hS26 rfl
  (apply jK rfl; exact eB rfl; apply jI; exact eB rfl; refine jT rfl rfl rfl ?_; apply jI; exact eI rfl; refine jT rfl rfl rfl ?_; refine jjh rfl rfl (by omega) ?_; apply jK rfl; exact eB rfl; apply jI; exact eB rfl; refine jT rfl rfl rfl ?_; apply jI; exact eS rfl; refine jT rfl rfl rfl ?_)
  refine Ops.buildSliceF (cells := [.int .i64 5, .int .i64 9, .int .i64 13, .int .i64 15]) rfl rfl rfl ?_
  intro b96 w96 hb96 hs96 hS96 hk96
  have i96 : RowI w96 (.slice (some ⟨b96, 0, none⟩) ([5, 9, 13, 15] : List Int).length 4) false 1 (([5, 9, 13, 15] : List Int).map intV) := ⟨Bk.row (xs := ([5, 9, 13, 15] : List Int).map intV) hk96 (int_fit8 _) (by simp)⟩
  (refine jT rfl rfl rfl ?_)
  refine jjQ ((same_law8 a4 (some ⟨b96, 0, none⟩) c4 4 [5, 9, 13, 15] [5, 9, 13, 15] _).mono (R' := fun v _ => v = .bool true) fun v _ _ h => h.trans (by rw [decide_eq_true rfl])) rfl rfl ?_
  rintro _ w27 hS27 rfl
  (apply jK rfl; exact eB rfl; apply jI; exact eB rfl; refine jT rfl rfl rfl ?_; apply jI; exact eI rfl; refine jT rfl rfl rfl ?_; refine jjh rfl rfl (by omega) ?_; apply jK rfl; exact eB rfl; apply jI; exact eB rfl; refine jT rfl rfl rfl ?_; apply jI; exact eI rfl; refine jT rfl rfl rfl ?_; refine jjh rfl rfl (by omega) ?_; apply jK rfl; exact eB rfl; apply jI; exact eB rfl; refine jT rfl rfl rfl ?_; apply jI; exact eI rfl; refine jT rfl rfl rfl ?_; refine jjh rfl rfl (by omega) ?_; apply jK rfl; exact eB rfl; apply jI; exact eB rfl; refine jT rfl rfl rfl ?_; apply jI; exact eS rfl; refine jT rfl rfl rfl ?_)
  refine Ops.buildSliceF (cells := [.int .i64 0, .int .i64 4, .int .i64 0, .int .i64 5, .int .i64 4, .int .i64 1, .int .i64 6, .int .i64 2, .int .i64 2]) rfl rfl rfl ?_
  intro b113 w113 hb113 hs113 hS113 hk113
  have i113 : RowI w113 (.slice (some ⟨b113, 0, none⟩) ([0, 4, 0, 5, 4, 1, 6, 2, 2] : List Int).length 9) false 1 (([0, 4, 0, 5, 4, 1, 6, 2, 2] : List Int).map intV) := ⟨Bk.row (xs := ([0, 4, 0, 5, 4, 1, 6, 2, 2] : List Int).map intV) hk113 (int_fit8 _) (by simp)⟩
  (refine jT rfl rfl rfl ?_)
  refine jjQ ((same_law8 a10 (some ⟨b113, 0, none⟩) c10 9 [0, 4, 0, 5, 4, 1, 6, 2, 2] [0, 4, 0, 5, 4, 1, 6, 2, 2] _).mono (R' := fun v _ => v = .bool true) fun v _ _ h => h.trans (by rw [decide_eq_true rfl])) rfl rfl ?_
  rintro _ w28 hS28 rfl
  (apply jK rfl; exact eB rfl; apply jI; exact eB rfl; refine jT rfl rfl rfl ?_; apply jI; exact eI rfl; refine jT rfl rfl rfl ?_; refine jjh rfl rfl (by omega) ?_; apply jK rfl; exact eB rfl; apply jI; exact eB rfl; refine jT rfl rfl rfl ?_; apply jI; exact eI rfl; refine jT rfl rfl rfl ?_; refine jjh rfl rfl (by omega) ?_; apply jK rfl; exact eB rfl; apply jI; exact eB rfl; refine jT rfl rfl rfl ?_; apply jI; exact eI rfl; refine jT rfl rfl rfl ?_; refine jjh rfl rfl (by omega) ?_; apply jK rfl; exact eB rfl; apply jI; exact eB rfl; refine jT rfl rfl rfl ?_; apply jI; exact eI rfl; refine jT rfl rfl rfl ?_; refine jjh rfl rfl (by omega) ?_; apply jK rfl; exact eB rfl; apply jI; exact eB rfl; refine jT rfl rfl rfl ?_; apply jI; exact eI rfl; refine jT rfl rfl rfl ?_; refine jjh rfl rfl (by omega) ?_; apply jK rfl; exact eB rfl; apply jI; exact eB rfl; refine jT rfl rfl rfl ?_; apply jI; exact eI rfl; refine jT rfl rfl rfl ?_; refine jjh rfl rfl (by omega) ?_; apply jK rfl; exact eB rfl; apply jI; exact eB rfl; refine jT rfl rfl rfl ?_; apply jI; exact eI rfl; refine jT rfl rfl rfl ?_; refine jjh rfl rfl (by omega) ?_; apply jK rfl; exact eB rfl; apply jI; exact eB rfl; refine jT rfl rfl rfl ?_; refine jm ?_; refine jn rfl ?_; refine jT rfl rfl rfl ?_; refine jN rfl rfl rfl ?_; refine jT rfl rfl rfl ?_; refine jh rfl ?_; refine jT rfl rfl rfl ?_; refine jjh rfl rfl (by omega) ?_; apply jK rfl; exact eB rfl; apply jI; exact eB rfl; refine jT rfl rfl rfl ?_; refine jm ?_; refine jn rfl ?_; refine jT rfl rfl rfl ?_; refine jN rfl rfl rfl ?_; refine jT rfl rfl rfl ?_)
  refine jF rfl rfl rfl (map_get (show 1 < [(wAnd, (3 : Int)), (wIs, 3), (wOld, 6), (wSea, 4)].length by decide)) ?_
  intro b153 o153 hA153
  have hA153' : At _ b153 o153 [.string wIs, .int .i64 3] := hA153
  (refine jT rfl rfl rfl ?_; refine jm ?_; refine jn rfl ?_; refine jT rfl rfl rfl ?_; refine jP rfl rfl rfl ?_; refine jT rfl rfl rfl ?_; refine jjh rfl rfl (by omega) ?_; apply jK rfl; exact eB rfl; apply jI; exact eB rfl; refine jT rfl rfl rfl ?_; apply jI; exact eS rfl; refine jT rfl rfl rfl ?_)
  refine Ops.buildSliceF (cells := [.int .i64 3, .int .i64 6, .int .i64 10, .int .i64 14, .int .i64 16]) rfl rfl rfl ?_
  intro b160 w160 hb160 hs160 hS160 hk160
  have i160 : RowI w160 (.slice (some ⟨b160, 0, none⟩) ([3, 6, 10, 14, 16] : List Int).length 5) false 1 (([3, 6, 10, 14, 16] : List Int).map intV) := ⟨Bk.row (xs := ([3, 6, 10, 14, 16] : List Int).map intV) hk160 (int_fit8 _) (by simp)⟩
  (refine jT rfl rfl rfl ?_)
  refine jjQ ((same_law8 aa (some ⟨b160, 0, none⟩) ac 5 [3, 6, 10, 14, 16] [3, 6, 10, 14, 16] _).mono (R' := fun v _ => v = .bool true) fun v _ _ h => h.trans (by rw [decide_eq_true rfl])) rfl rfl ?_
  rintro _ w29 hS29 rfl
  (apply jK rfl; exact eB rfl; apply jI; exact eB rfl; refine jT rfl rfl rfl ?_; apply jI; exact eI rfl; refine jT rfl rfl rfl ?_; refine jjh rfl rfl (by omega) ?_; apply jK rfl; exact eB rfl; apply jI; exact eB rfl; refine jT rfl rfl rfl ?_; apply jI; exact eI rfl; refine jT rfl rfl rfl ?_; refine jjh rfl rfl (by omega) ?_; apply jK rfl; exact eB rfl; apply jI; exact eB rfl; refine jT rfl rfl rfl ?_; apply jI; exact eI rfl; refine jT rfl rfl rfl ?_; refine jjh rfl rfl (by omega) ?_; apply jK rfl; exact eB rfl; apply jI; exact eB rfl; refine jT rfl rfl rfl ?_; refine jO rfl rfl rfl rfl ?_; refine jT rfl rfl rfl ?_; apply jI; exact eS rfl; refine jT rfl rfl rfl ?_)
  (refine jjS (cells := [.int .i64 4, .slice (some ⟨b25, 0, none⟩) 5 5]) ?_ ?_; exact rfl)
  (refine jT rfl rfl rfl ?_)
  refine jjQ (Same_yes 4 ga (some ⟨b25, 0, none⟩) gc 5 [(wAnd, 2), (wIs, 2), (wOld, 3), (wSea, 5), (wThe, 3)] _) rfl rfl ?_
  rintro _ w30 hS30 rfl
  (apply jK rfl; exact eB rfl; apply jJ; exact eB rfl; refine jz ?_; refine jjF ?_; refine jB rfl rfl ⟨inferInstance, ?_⟩)
  exact rfl
end
end Go.Proofs.YtfebegbjggoijaaGreatDoor

/- The law: blocks that are torn have lines in more than one column. -/
namespace Go.Proofs.YtfebegbjggoijaaGreatDoor
open Go.RowKit

section
variable (h : Int) (a : Option Addr) (c : Nat) (bs : List Blk) (ba : Option Addr) (bc : Nat) (by_ : List Int) (w : World) [hgs : At w 2 0 sidesC] [htn : At w 1 0 tornC] [hnn : At w 0 0 noneC]
set_option maxRecDepth 20000 in
set_option maxHeartbeats 16000000 in
theorem GalleyTorn_law (hu : U32s by_) [hrow : RowI w (.slice a bs.length c) true 2 (bs.map encB)] [hby : RowI w (.slice ba by_.length bc) false 1 (by_.map u32V)] :
    Ct Tryz.prog 8 [.agg #[.int .i64 h, .slice a bs.length c], .slice ba by_.length bc] w fun v _ => v = .bool true := by
  refine Ct.ofW (by simp) ?_
  (refine jjB ?_; refine jjC ?_)
  (refine jy rfl ?_; intro b2 w_b2 hb_b2 hs_b2 hS_b2 hk_b2; have hA_b2 := At.ofBlock hk_b2)
  (apply jJ; exact eB rfl; refine jz ?_; refine jjB ?_; refine jjC ?_)
  refine jjQ (alive_law8 _) rfl rfl ?_
  rintro _ w3 hS3 rfl
  obtain ⟨R, hR⟩ : ∃ R, (greatB bs || decide (700 < 0)) = R := ⟨_, rfl⟩
  (apply jJ; exact eB rfl; refine jz ?_; refine jjB ?_; refine jjB ?_; refine jjC ?_; refine jO rfl rfl rfl rfl ?_)
  refine jjQ ((great_ref h a c bs none 0 0 _).mono fun v _ _ h => h.trans (by rw [hR])) rfl rfl ?_
  rintro _ w4 hS4 rfl
  cases R with
  | true =>
    (apply jI; exact eB rfl; refine jU rfl rfl rfl rfl ?_; refine jU rfl rfl rfl rfl ?_; refine jU rfl rfl rfl rfl ?_; apply jK rfl; exact eB rfl; apply jI; exact eB rfl; refine jU rfl rfl rfl rfl ?_; refine jU rfl rfl rfl rfl ?_; apply jK rfl; exact eB rfl; refine jz ?_; refine jjJ rfl ?_; refine jjB ?_; refine jjC ?_; apply jI; exact eB rfl; apply jJ; exact eB rfl; refine jz ?_; refine jjF ?_; refine jB rfl rfl ⟨inferInstance, ?_⟩)
    exact rfl
  | false =>
  have hgr : greatB bs = false := by simpa using hR
  have hsz := great_no hgr
  have hbz : ∀ b ∈ bs, b.1.size ≤ 140737488351232 := fun b hb => by have := hsz.2 b hb; omega
  obtain ⟨G, hG⟩ : ∃ G, galleyB h bs = G := ⟨_, rfl⟩
  (apply jI; exact eB rfl; refine jT rfl rfl rfl ?_; refine jO rfl rfl rfl rfl ?_; refine jT rfl rfl rfl ?_)
  refine jjQ ((Galley_ref h a c bs _ hbz (by omega)).mono fun v _ _ h => h.trans (by rw [hG])) rfl rfl ?_
  rintro _ w5 hS5 rfl
  cases G with
  | false =>
    (refine jT rfl rfl rfl ?_; refine jq rfl ?_; apply jL rfl; exact eB rfl; apply jI; exact eB rfl; refine jU rfl rfl rfl rfl ?_; refine jU rfl rfl rfl rfl ?_; apply jK rfl; exact eB rfl; refine jz ?_; refine jjJ rfl ?_; refine jjB ?_; refine jjC ?_; apply jI; exact eB rfl; apply jJ; exact eB rfl; refine jz ?_; refine jjF ?_; refine jB rfl rfl ⟨inferInstance, ?_⟩)
    exact rfl
  | true =>
  obtain ⟨hh, hlb, hbb, hs1, hs2⟩ := galley_yes hG
  have hge : gErr h bs = 0 := by rw [gErr, hG]; rfl
  (refine jT rfl rfl rfl ?_; refine jp rfl ?_; apply jL rfl; exact eB rfl; apply jI; exact eB rfl; refine jT rfl rfl rfl ?_; apply jI; exact eB rfl; refine jT rfl rfl rfl ?_; refine jp rfl ?_; apply jL rfl; exact eB rfl; refine jz ?_; refine jjK rfl ?_; refine jjG ?_; refine jjB ?_; refine jjC ?_; refine jO rfl rfl rfl rfl ?_)
  obtain ⟨xs, hxs⟩ : ∃ xs, endsF 0 bs = xs := ⟨_, rfl⟩
  refine jjQ ((Ends_galley h a c bs _ (hrow.h.ext inferInstance) hbz (htn.ext inferInstance)).mono (R' := fun v w' => ∃ u, v = .tuple #[u, .int .i64 0] ∧ RowV w' false 1 u (xs.map intV)) fun v _ _ h => by rw [if_pos hG, hge, hxs] at h; exact h) rfl rfl ?_
  rintro _ w7 hS7 ⟨u7, rfl, hR7⟩
  obtain ⟨a7, c7, rfl, i7⟩ := hR7.ints
  (apply jI; exact eU rfl; refine ju rfl rfl ?_; refine ju rfl rfl ?_; apply jJ; exact eS rfl; apply jJ; exact eI rfl; refine jz ?_; refine jjB ?_; refine jjC ?_; refine jO rfl rfl rfl rfl ?_; apply jI; exact eS rfl; apply jI; exact eS rfl)
  refine jjQ (chosen_law8 h a c bs a7 c7 xs ba bc by_ hu _ hG hxs.symm) rfl rfl ?_
  rintro _ w8 hS8 ⟨l, u8, rfl, hO8, hv8, hl8⟩
  obtain ⟨a8, c8, rfl⟩ := hO8.slice
  rw [List.length_map] at hO8 ⊢
  have i8 : RowI w8 (.slice a8 l.length c8) false 1 (l.map intV) := RowI.mk hO8.row
  have hV8 := validI hbb hv8
  have hbr : brkE h bs l = 0 := by rw [brkE, if_pos hG, if_pos hv8]
  (apply jI; exact eU rfl; refine ju rfl rfl ?_; refine ju rfl rfl ?_; apply jJ; exact eS rfl; apply jJ; exact eB rfl; refine jz ?_; refine jjB ?_; refine jjC ?_; refine jO rfl rfl rfl rfl ?_; apply jI; exact eS rfl)
  obtain ⟨tN, htN⟩ : ∃ tN, tornN bs l bs.length = tN := ⟨_, rfl⟩
  refine jjQ ((Torn_galley h a c bs a8 c8 l _ (by omega) (hrow.h.ext inferInstance) hbz (htn.ext inferInstance)).mono (R' := fun v w' => ∃ u, v = .tuple #[u, .int .i64 0] ∧ RowV w' false 1 u (tN.map intV)) fun v _ _ h => by rw [tornS, if_pos hbr, hbr, htN] at h; exact h) rfl rfl ?_
  rintro _ w9 hS9 ⟨u9, rfl, hR9⟩
  obtain ⟨a9, c9, rfl, i9⟩ := hR9.ints
  have hE9 : Ext w w9 := inferInstance
  have hx2 : At w9 b2 0 [.int .i64 h, .slice a bs.length c] := inferInstance
  have ir : RowI w9 (.slice a bs.length c) true 2 (bs.map encB) := inferInstance
  have il : RowI w9 (.slice a8 l.length c8) false 1 (l.map intV) := inferInstance
  have htn' : At w9 1 0 tornC := inferInstance
  (apply jI; exact eU rfl; refine ju rfl rfl ?_; refine ju rfl rfl ?_; apply jJ; exact eS rfl; apply jJ; exact eI rfl; refine jz ?_; refine jjB ?_; refine jjB ?_; refine jjC ?_; apply jI; exact eI rfl; refine jjk rfl rfl (by omega) ?_; apply jI; exact eB rfl; refine jT rfl rfl rfl ?_; apply jI; exact eB rfl; refine jT rfl rfl rfl ?_; refine jp rfl ?_; apply jL rfl; exact eB rfl; apply jI; exact eB rfl; refine jT rfl rfl rfl ?_; apply jI; exact eI rfl; refine jT rfl rfl rfl ?_; refine jjk rfl rfl (by omega) ?_; apply jL rfl; exact eB rfl; refine jz ?_; refine jjK rfl ?_; refine jjG ?_; refine jjB ?_; refine jjC ?_; apply jJ; exact eI rfl; apply jJ; exact eI rfl; refine jz ?_; refine jjB ?_; refine jjB ?_; refine jjC ?_; refine jm ?_; refine jn rfl ?_; refine jN rfl rfl rfl ?_; refine jh rfl ?_; apply jI; exact eI rfl; refine jz ?_; refine jjD ?_)
  clear i7 i8 hO8 hS3 hS4 hS5 hS7 hS8 hS9
  refine W.keep0 [(2, .pointer (some ⟨b2, 0, none⟩)), (5, .bool true), (8, .slice a8 l.length c8), (10, .slice a9 tN.length c9), (12, .int .i64 (((tornN bs l 0).length : Nat) : Int)), (13, .int .i64 (beginL bs 0)), (65, .slice a bs.length c), (66, .int .i64 (bs.length : Int)), (67, .int .i64 ((0 : Nat) : Int))] ⟨eP rfl, eB rfl, eS rfl, eS rfl, eI rfl, eI rfl, eS rfl, eI rfl, eI rfl, trivial⟩ fun s0 => ?_
  refine W.loop (68 :: 69 :: 70 :: 71 :: 15 :: 14 :: 16 :: 72 :: 73 :: 74 :: 75 :: 76 :: 77 :: 18 :: 78 :: 79 :: 80 :: 81 :: 82 :: 83 :: 84 :: 85 :: 86 :: 87 :: 88 :: 89 :: 90 :: 91 :: 92 :: 93 :: 94 :: 95 :: 96 :: 97 :: 98 :: 99 :: 100 :: 101 :: 102 :: 103 :: 4 :: 104 :: 106 :: 107 :: 108 :: 109 :: 105 :: 110 :: 111 :: 112 :: 19 :: 20 :: 21 :: 113 :: 114 :: 115 :: 116 :: 117 :: 118 :: 119 :: 120 :: 121 :: 122 :: 123 :: 124 :: 22 :: 125 :: 126 :: 127 :: 12 :: 128 :: 129 :: 130 :: 131 :: 132 :: 133 :: 134 :: 135 :: 136 :: 137 :: 138 :: 139 :: 140 :: 141 :: 142 :: 143 :: 144 :: 145 :: 146 :: 13 :: 147 :: 67 :: []) (fun g s' V => ∃ i : Nat, s' 67 = .int .i64 ((i : Nat) : Int) ∧ s' 12 = .int .i64 (((tornN bs l i).length : Nat) : Int) ∧ s' 13 = .int .i64 (beginL bs i) ∧ g = bs.length - i ∧ i ≤ bs.length) bs.length ⟨0, rfl, rfl, rfl, rfl, Nat.zero_le _⟩ ?_
  rintro _ sd V hSV ⟨i, h67, h12, h13, rfl, hi⟩
  refine W.fix (d := 67) h67 (W.fix (d := 12) h12 (W.fix (d := 13) h13 ?_))
  clear h67 h12 h13
  by_cases hi3 : i < bs.length
  rotate_left
  · obtain rfl : i = bs.length := by omega
    rw [htN]
    (refine jjB ?_; refine jjC ?_; refine jja rfl rfl (by omega) ?_; refine jz ?_; refine jjB ?_; refine jjK rfl ?_; refine jjE ?_; refine jjB ?_; refine jjC ?_; apply jI; exact eB rfl; apply jI; exact eB rfl; refine jT rfl rfl rfl ?_; apply jI; exact eI rfl; refine jT rfl rfl rfl ?_; apply jI; exact eS rfl; refine jT rfl rfl rfl ?_; refine jh rfl ?_; refine jT rfl rfl rfl ?_; refine jjh rfl rfl (by omega) ?_; apply jK rfl; exact eB rfl; apply jJ; exact eB rfl; refine jz ?_; refine jjF ?_; refine jB rfl rfl ⟨inferInstance, ?_⟩)
    exact rfl
  have hbi := hbb bs[i] (List.getElem_mem hi3)
  have hp := sumL_pre0 hbb (by omega : bs.length ≤ 1000) i
  have hbg : beginL bs i = sumL (bs.take i) := rfl
  have hsu := sumL_take_succ hi3
  have hll : linesL bs i = bs[i].2 := linesL_get hi3
  have hcol := col_ok (h := h) (bs := bs) (l := l) hbr hi3
  have hca := cut_all hV8 (i := i) (by omega)
  have hcs := fun j (hj : j < l.length) => cut_succ hV8 (i := i) hj (by omega)
  have hct := fun j (hj : j < l.length) => cut_two hV8 hi3 hj hbb
  have htl := torn_len (bs := bs) (l := l) (i := i)
  have hta := torn_at (bs := bs) (l := l) hi3
  have htle := tornN_len bs l i
  have hb1 : beginL bs (i + 1) = beginL bs i + bs[i].2 := hsu
  have hits : isTorn bs l i = decide (¬ (colF bs l i : Int) = (colT bs l i : Int)) := rfl
  rw [htN] at hta
  rw [hll] at hcs hct
  (refine jjB ?_; refine jjC ?_; refine jjZ rfl rfl (by omega) ?_; refine jz ?_; refine jjB ?_; refine jjJ rfl ?_; refine jjG ?_; refine jjB ?_; refine jjD ?_; refine jjB ?_; refine jjC ?_; apply jI; exact eI rfl; refine jF rfl rfl rfl (map_get (by omega)) ?_; intro _ _ _; refine jQ rfl rfl ?_)
  ((skip); refine jjY ?_; intro b15 w_b15 hb_b15 hs_b15 hS_b15 hk_b15; have hA_b15 := Bk.of hk_b15)
  (apply jJ; exact eI rfl)
  refine Ops.store rfl rfl rfl rfl rfl ?_
  intro wA hpA
  have hEA : Ext V wA := hpA.ext hS_b15.ext (by omega)
  have hSA : Step V wA := hEA.toStep
  have hA15 : At wA b15 0 [.string bs[i].1, .int .i64 bs[i].2] := Bk.toAt (h := Bk.of hpA.new)
  (refine jz ?_; refine jjB ?_; refine jjC ?_; apply jJ; exact eI rfl; refine jz ?_; refine jjB ?_; refine jjB ?_; refine jjC ?_; apply jI; exact eS rfl; refine jh rfl ?_; apply jI; exact eI rfl; refine jz ?_; refine jjD ?_)
  generalize bs[i].2 = L at *
  refine W.keep [(2, .pointer (some ⟨b2, 0, none⟩)), (5, .bool true), (8, .slice a8 l.length c8), (10, .slice a9 tN.length c9), (12, .int .i64 (((tornN bs l i).length : Nat) : Int)), (13, .int .i64 (beginL bs i)), (14, .int .i64 ((i : Nat) : Int)), (15, .pointer (some ⟨b15, 0, none⟩)), (16, .int .i64 ((cutN bs l i 0 : Nat) : Int)), (65, .slice a bs.length c), (66, .int .i64 (bs.length : Int)), (67, .int .i64 ((i : Nat) : Int)), (72, .slice a8 l.length c8), (73, .int .i64 (l.length : Int)), (74, .int .i64 ((0 : Nat) : Int))] (D := (68 :: 69 :: 70 :: 71 :: 15 :: 14 :: 16 :: 72 :: 73 :: 74 :: 75 :: 76 :: 77 :: 18 :: 78 :: 79 :: 80 :: 81 :: 82 :: 83 :: 84 :: 85 :: 86 :: 87 :: 88 :: 89 :: 90 :: 91 :: 92 :: 93 :: 94 :: 95 :: 96 :: 97 :: 98 :: 99 :: 100 :: 101 :: 102 :: 103 :: 4 :: 104 :: 106 :: 107 :: 108 :: 109 :: 105 :: 110 :: 111 :: 112 :: 19 :: 20 :: 21 :: 113 :: 114 :: 115 :: 116 :: 117 :: 118 :: 119 :: 120 :: 121 :: 122 :: 123 :: 124 :: 22 :: 125 :: 126 :: 127 :: 12 :: 128 :: 129 :: 130 :: 131 :: 132 :: 133 :: 134 :: 135 :: 136 :: 137 :: 138 :: 139 :: 140 :: 141 :: 142 :: 143 :: 144 :: 145 :: 146 :: 13 :: 147 :: 67 :: [])) (sO := upds s0 _) (by ((refine Same.upd rfl ?_; refine Same.upd rfl ?_; refine Same.upd rfl ?_; refine Same.upd rfl ?_; refine Same.upd rfl ?_; refine Same.upd rfl ?_; refine Same.upd rfl ?_; refine Same.upd rfl ?_; refine Same.upd rfl ?_; refine Same.upd rfl ?_; refine Same.upd rfl ?_; refine Same.upd rfl ?_; refine Same.upd rfl ?_; exact Same.ovN))) ⟨eP rfl, eB rfl, eS rfl, eS rfl, eI rfl, eI rfl, eI rfl, eP rfl, congrArg (Value.int .i64) (by simp [cutN]), eS rfl, eI rfl, eI rfl, eS rfl, eI rfl, eI rfl, trivial⟩ fun s1 hs1' => ?_
  refine W.loop (75 :: 76 :: 77 :: 18 :: 78 :: 79 :: 80 :: 81 :: 82 :: 83 :: 84 :: 85 :: 86 :: 87 :: 88 :: 89 :: 90 :: 16 :: 91 :: 92 :: 93 :: 94 :: 95 :: 96 :: 97 :: 98 :: 99 :: 100 :: 101 :: 102 :: 103 :: 4 :: 104 :: 74 :: []) (fun g s' V => ∃ j : Nat, s' 74 = .int .i64 ((j : Nat) : Int) ∧ s' 16 = .int .i64 ((cutN bs l i j : Nat) : Int) ∧ g = l.length - j ∧ j ≤ l.length) l.length ⟨0, rfl, rfl, rfl, Nat.zero_le _⟩ ?_
  rintro _ sd2 V2 hSV2 ⟨j, h74, h16, rfl, hj⟩
  refine W.fix (d := 74) h74 (W.fix (d := 16) h16 ?_)
  clear h74 h16
  have hcn : cutN bs l i j ≤ j := by unfold cutN; omega
  by_cases hj3 : j < l.length
  · have hsj := hcs j hj3
    have htj := hct j hj3
    have hgj : l.getD j 0 = l[j] := getD_lt hj3
    rw [hgj] at hsj htj
    have hvj := (hV8.step j hj3)
    rw [hgj] at hvj
    by_cases hc : beginL bs i < l[j] ∧ l[j] < beginL bs i + L
    · rw [if_pos hc] at hsj
      obtain ⟨hc1, hc2⟩ := hc
      have htj' := htj hc1 hc2
      (refine jjB ?_; refine jjC ?_; refine jjZ rfl rfl (by omega) ?_; refine jz ?_; refine jjB ?_; refine jjJ rfl ?_; refine jjG ?_; refine jjB ?_; refine jjD ?_; refine jjB ?_; refine jjC ?_; refine jF rfl rfl rfl (map_get (by omega)) ?_; intro _ _ _; refine jQ rfl rfl ?_; apply jJ; exact eI rfl; refine jz ?_; refine jjB ?_; refine jjC ?_; apply jI; exact eI rfl; apply jI; exact eI rfl; refine jjd rfl rfl (by omega) ?_; apply jI; exact eB rfl; refine jT rfl rfl rfl ?_; apply jI; exact eI rfl; refine jT rfl rfl rfl ?_; apply jI; exact eI rfl; refine jT rfl rfl rfl ?_; refine jm ?_; refine jn rfl ?_; refine jT rfl rfl rfl ?_; refine jN rfl rfl rfl ?_; refine jT rfl rfl rfl ?_; refine jY rfl rfl (by omega) ?_; refine jT rfl rfl rfl ?_; refine jjZ rfl rfl (by omega) ?_; apply jK rfl; exact eB rfl; refine jz ?_; refine jjJ rfl ?_; refine jjB ?_; refine jjC ?_; apply jI; exact eI rfl; refine jY rfl rfl (by omega) ?_; apply jJ; exact eI rfl; refine jz ?_; refine jjB ?_; refine jjC ?_; apply jI; exact eI rfl; apply jI; exact eI rfl; refine jY rfl rfl (by omega) ?_; refine jja rfl rfl (by omega) ?_; apply jI; exact eB rfl; refine jT rfl rfl rfl ?_; apply jI; exact eI rfl; refine jT rfl rfl rfl ?_; apply jI; exact eI rfl; refine jT rfl rfl rfl ?_; refine jm ?_; refine jn rfl ?_; refine jT rfl rfl rfl ?_; refine jN rfl rfl rfl ?_; refine jT rfl rfl rfl ?_; refine jY rfl rfl (by omega) ?_; refine jT rfl rfl rfl ?_; refine jZ rfl rfl (by omega) ?_; refine jT rfl rfl rfl ?_; refine jje rfl rfl (by omega) ?_; apply jL rfl; exact eB rfl; refine jz ?_; refine jjK rfl ?_; refine jjG ?_; refine jjC ?_; refine jY rfl rfl (by omega) ?_; apply jI; exact eI rfl; refine jz ?_)
      exact ⟨rfl, by ((refine Same.upd rfl ?_; refine Same.upd rfl ?_; refine Same.upd rfl ?_; refine Same.upd rfl ?_; refine Same.upd rfl ?_; refine Same.upd rfl ?_; refine Same.upd rfl ?_; refine Same.upd rfl ?_; refine Same.upd rfl ?_; refine Same.upd rfl ?_; refine Same.upd rfl ?_; refine Same.upd rfl ?_; refine Same.upd rfl ?_; refine Same.upd rfl ?_; refine Same.upd rfl ?_; refine Same.upd rfl ?_; refine Same.upd rfl ?_; refine Same.upd rfl ?_; refine Same.upd rfl ?_; refine Same.upd rfl ?_; refine Same.upd rfl ?_; refine Same.upd rfl ?_; refine Same.upd rfl ?_; refine Same.upd rfl ?_; refine Same.upd rfl ?_; refine Same.upd rfl ?_; refine Same.upd rfl ?_; refine Same.upd rfl ?_; refine Same.upd rfl ?_; refine Same.upd rfl ?_; refine Same.upd rfl ?_; refine Same.upd rfl ?_; refine Same.upd rfl ?_; refine Same.upd rfl ?_; refine Same.upd rfl ?_; exact Same.ovN)), l.length - (j + 1), by omega, inferInstance, j + 1, congrArg (Value.int .i64) (by omega), congrArg (Value.int .i64) (by omega), rfl, by omega⟩
    · rw [if_neg hc] at hsj
      rcases (by omega : l[j] ≤ beginL bs i ∨ (beginL bs i < l[j] ∧ beginL bs i + L ≤ l[j])) with hd | hd
      all_goals ((repeat' (first|(refine jW ?_; (first|refine jjZ rfl rfl (by omega) ?_|refine jja rfl rfl (by omega) ?_|refine jjd rfl rfl (by omega) ?_|refine jje rfl rfl (by omega) ?_))|((first|apply jI|apply jJ|apply jK rfl|apply jL rfl); (first|exact eI rfl|exact eB rfl))|(refine jM ?_; (first|refine jN rfl rfl rfl ?_|refine jQ rfl rfl ?_))|(refine jS ?_; (first|refine jT rfl rfl rfl ?_|refine jU rfl rfl rfl rfl ?_))|(refine jW ?_; refine jY rfl rfl (by omega) ?_)|(refine jm ?_; refine jn rfl ?_)|(refine jE ?_; (refine jF rfl rfl rfl (map_get (by omega)) ?_; intro _ _ _))|refine jz ?_|(refine jjA ?_; (first|refine jjB ?_|refine jjC ?_|refine jjD ?_|refine jjG ?_|refine jjJ rfl ?_|refine jjK rfl ?_)))); exact ⟨rfl, by (repeat' (first|exact Same.ovN|refine Same.upd rfl ?_)), l.length - (j + 1), by omega, inferInstance, j + 1, congrArg (Value.int .i64) (by omega), congrArg (Value.int .i64) (by omega), rfl, by omega⟩)
  obtain rfl : j = l.length := by omega
  have hcl : cutN bs l i l.length ≤ l.length := hcn
  (refine jjB ?_; refine jjC ?_; refine jja rfl rfl (by omega) ?_; refine jz ?_; refine jjB ?_; refine jjK rfl ?_; refine jjE ?_; refine jjB ?_; refine jjC ?_; refine jO rfl rfl rfl rfl ?_; apply jI; exact eS rfl; apply jI; exact eI rfl)
  refine jjQ ((Columns_galley h a c bs a8 c8 l _ (i : Int) (by omega) (ir.h.ext inferInstance) hbz (htn'.ext inferInstance)).mono (R' := fun v _ => v = .tuple #[.int .i64 ((colF bs l i : Nat) : Int), .int .i64 ((colT bs l i : Nat) : Int), .int .i64 0]) fun v _ _ h => h.trans (by rw [hcol]; rfl)) rfl rfl ?_
  rintro _ w12 hS12 rfl
  obtain ⟨T, hT⟩ : ∃ T, isTorn bs l i = T := ⟨_, rfl⟩
  rw [hT] at hits htl hta
  generalize ((colF bs l i : Nat) : Int) = F at *
  generalize ((colT bs l i : Nat) : Int) = E at *
  generalize cutN bs l i l.length = cu at *
  generalize hkk : (tornN bs l i).length = k at *
  cases T with
  | true =>
    obtain ⟨t1, t2⟩ := hta.1 rfl
    have hne : ¬ F = E := of_decide_eq_true hits.symm
    rw [if_pos rfl] at htl
    have hgk : tN.getD k 0 = tN[k] := getD_lt t1
    rw [hgk] at t2
    (apply jI; exact eU rfl; refine ju rfl rfl ?_; refine ju rfl rfl ?_; refine ju rfl rfl ?_; apply jJ; exact eI rfl; apply jJ; exact eI rfl; apply jJ; exact eI rfl; refine jz ?_; refine jjB ?_; refine jjC ?_; apply jI; exact eI rfl; apply jI; exact eS rfl; refine jh rfl ?_; refine jjZ rfl rfl (by omega) ?_; apply jI; exact eB rfl; refine jT rfl rfl rfl ?_; apply jI; exact eS rfl; refine jT rfl rfl rfl ?_; apply jI; exact eI rfl; refine jT rfl rfl rfl ?_; refine jF rfl rfl rfl (map_get (by omega)) ?_; intro _ _ _; refine jT rfl rfl rfl ?_; refine jQ rfl rfl ?_; refine jT rfl rfl rfl ?_; apply jI; exact eI rfl; refine jT rfl rfl rfl ?_; refine jjh rfl rfl (by omega) ?_; apply jK rfl; exact eB rfl; apply jJ; exact eB rfl; refine jz ?_; refine jjB ?_; refine jjB ?_; refine jjC ?_; apply jI; exact eB rfl; refine jz ?_; refine jjJ rfl ?_; refine jjC ?_; apply jI; exact eI rfl; refine jY rfl rfl (by omega) ?_; apply jJ; exact eI rfl; refine jz ?_; refine jjB ?_; refine jjB ?_; refine jjC ?_; apply jI; exact eI rfl; refine jjk rfl rfl (by omega) ?_; apply jI; exact eB rfl; refine jT rfl rfl rfl ?_; apply jI; exact eI rfl; refine jT rfl rfl rfl ?_; apply jI; exact eI rfl; refine jT rfl rfl rfl ?_; refine jZ rfl rfl (by omega) ?_; refine jT rfl rfl rfl ?_; apply jI; exact eI rfl; refine jT rfl rfl rfl ?_; refine jjk rfl rfl (by omega) ?_; apply jL rfl; exact eB rfl; apply jI; exact eB rfl; refine jT rfl rfl rfl ?_; apply jI; exact eB rfl; refine jT rfl rfl rfl ?_; apply jI; exact eI rfl; refine jT rfl rfl rfl ?_; refine jjd rfl rfl (by omega) ?_; refine jT rfl rfl rfl ?_)
    refine Ops.neqBB rfl rfl ?_
    (apply jL rfl; exact eB rfl; refine jz ?_; refine jjK rfl ?_; refine jjG ?_; refine jjC ?_; apply jI; exact eI rfl; refine jm ?_; refine jn rfl ?_; refine jN rfl rfl rfl ?_; refine jY rfl rfl (by omega) ?_; apply jJ; exact eI rfl; refine jz ?_; refine jjC ?_; refine jY rfl rfl (by omega) ?_; apply jI; exact eI rfl; refine jz ?_)
    exact ⟨rfl, by ((refine Same.upd rfl ?_; refine Same.upd rfl ?_; refine Same.upd rfl ?_; refine Same.upd rfl ?_; refine Same.upd rfl ?_; refine Same.upd rfl ?_; refine Same.upd rfl ?_; refine Same.upd rfl ?_; refine Same.upd rfl ?_; refine Same.upd rfl ?_; refine Same.upd rfl ?_; refine Same.upd rfl ?_; refine Same.upd rfl ?_; refine Same.upd rfl ?_; refine Same.upd rfl ?_; refine Same.upd rfl ?_; refine Same.upd rfl ?_; refine Same.upd rfl ?_; refine Same.upd rfl ?_; refine Same.upd rfl ?_; refine Same.upd rfl ?_; refine Same.upd rfl ?_; refine Same.upd rfl ?_; refine Same.upd rfl ?_; refine Same.upd rfl ?_; refine Same.upd rfl ?_; refine Same.upd rfl ?_; refine Same.upd rfl ?_; refine Same.upd rfl ?_; refine Same.upd rfl ?_; refine Same.upd rfl ?_; refine Same.upd rfl ?_; refine Same.upd rfl ?_; refine Same.upd rfl ?_; refine Same.upd rfl ?_; refine Same.upd rfl ?_; refine Same.upd rfl ?_; refine Same.upd rfl ?_; refine Same.upd rfl ?_; refine Same.upd rfl ?_; refine Same.upd rfl ?_; refine Same.upd rfl ?_; refine Same.upd rfl ?_; refine Same.upd rfl ?_; refine Same.upd rfl ?_; refine Same.upd rfl ?_; refine Same.upd rfl ?_; refine Same.upd rfl ?_; refine Same.upd rfl ?_; refine Same.upd rfl ?_; refine Same.upd rfl ?_; refine Same.upd rfl ?_; refine Same.upd rfl ?_; refine Same.ovN' rfl ?_; assumption)), bs.length - (i + 1), by omega, inferInstance, i + 1, congrArg (Value.int .i64) (by omega), congrArg (Value.int .i64) (by omega), congrArg (Value.int .i64) (by omega), rfl, by omega⟩
  | false =>
    have he : F = E := Decidable.not_not.1 (of_decide_eq_false hits.symm)
    rw [if_neg (by simp)] at htl
    by_cases hkt : k < tN.length
    · have t2 := hta.2 rfl hkt
      have hgk : tN.getD k 0 = tN[k] := getD_lt hkt
      rw [hgk] at t2
      (apply jI; exact eU rfl; refine ju rfl rfl ?_; refine ju rfl rfl ?_; refine ju rfl rfl ?_; apply jJ; exact eI rfl; apply jJ; exact eI rfl; apply jJ; exact eI rfl; refine jz ?_; refine jjB ?_; refine jjC ?_; apply jI; exact eI rfl; apply jI; exact eS rfl; refine jh rfl ?_; refine jjZ rfl rfl (by omega) ?_; apply jI; exact eB rfl; refine jT rfl rfl rfl ?_; apply jI; exact eS rfl; refine jT rfl rfl rfl ?_; apply jI; exact eI rfl; refine jT rfl rfl rfl ?_; refine jF rfl rfl rfl (map_get (by omega)) ?_; intro _ _ _; refine jT rfl rfl rfl ?_; refine jQ rfl rfl ?_; refine jT rfl rfl rfl ?_; apply jI; exact eI rfl; refine jT rfl rfl rfl ?_; refine jji rfl rfl (by omega) ?_; apply jK rfl; exact eB rfl; apply jJ; exact eB rfl; refine jz ?_; refine jjB ?_; refine jjB ?_; refine jjC ?_; apply jI; exact eB rfl; refine jz ?_; refine jjK rfl ?_; refine jjG ?_; refine jjB ?_; refine jjB ?_; refine jjC ?_; apply jI; exact eI rfl; refine jjk rfl rfl (by omega) ?_; apply jI; exact eB rfl; refine jT rfl rfl rfl ?_; apply jI; exact eI rfl; refine jT rfl rfl rfl ?_; apply jI; exact eI rfl; refine jT rfl rfl rfl ?_; refine jZ rfl rfl (by omega) ?_; refine jT rfl rfl rfl ?_; apply jI; exact eI rfl; refine jT rfl rfl rfl ?_; refine jjk rfl rfl (by omega) ?_; apply jL rfl; exact eB rfl; apply jI; exact eB rfl; refine jT rfl rfl rfl ?_; apply jI; exact eB rfl; refine jT rfl rfl rfl ?_; apply jI; exact eI rfl; refine jT rfl rfl rfl ?_; refine jje rfl rfl (by omega) ?_; refine jT rfl rfl rfl ?_)
      refine Ops.neqBB rfl rfl ?_
      (apply jL rfl; exact eB rfl; refine jz ?_; refine jjK rfl ?_; refine jjG ?_; refine jjC ?_; apply jI; exact eI rfl; refine jm ?_; refine jn rfl ?_; refine jN rfl rfl rfl ?_; refine jY rfl rfl (by omega) ?_; apply jJ; exact eI rfl; refine jz ?_; refine jjC ?_; refine jY rfl rfl (by omega) ?_; apply jI; exact eI rfl; refine jz ?_)
      exact ⟨rfl, by ((refine Same.upd rfl ?_; refine Same.upd rfl ?_; refine Same.upd rfl ?_; refine Same.upd rfl ?_; refine Same.upd rfl ?_; refine Same.upd rfl ?_; refine Same.upd rfl ?_; refine Same.upd rfl ?_; refine Same.upd rfl ?_; refine Same.upd rfl ?_; refine Same.upd rfl ?_; refine Same.upd rfl ?_; refine Same.upd rfl ?_; refine Same.upd rfl ?_; refine Same.upd rfl ?_; refine Same.upd rfl ?_; refine Same.upd rfl ?_; refine Same.upd rfl ?_; refine Same.upd rfl ?_; refine Same.upd rfl ?_; refine Same.upd rfl ?_; refine Same.upd rfl ?_; refine Same.upd rfl ?_; refine Same.upd rfl ?_; refine Same.upd rfl ?_; refine Same.upd rfl ?_; refine Same.upd rfl ?_; refine Same.upd rfl ?_; refine Same.upd rfl ?_; refine Same.upd rfl ?_; refine Same.upd rfl ?_; refine Same.upd rfl ?_; refine Same.upd rfl ?_; refine Same.upd rfl ?_; refine Same.upd rfl ?_; refine Same.upd rfl ?_; refine Same.upd rfl ?_; refine Same.upd rfl ?_; refine Same.upd rfl ?_; refine Same.upd rfl ?_; refine Same.upd rfl ?_; refine Same.upd rfl ?_; refine Same.upd rfl ?_; refine Same.upd rfl ?_; refine Same.upd rfl ?_; refine Same.upd rfl ?_; refine Same.upd rfl ?_; refine Same.upd rfl ?_; refine Same.upd rfl ?_; refine Same.upd rfl ?_; refine Same.ovN' rfl ?_; assumption)), bs.length - (i + 1), by omega, inferInstance, i + 1, congrArg (Value.int .i64) (by omega), congrArg (Value.int .i64) (by omega), congrArg (Value.int .i64) (by omega), rfl, by omega⟩
    · (apply jI; exact eU rfl; refine ju rfl rfl ?_; refine ju rfl rfl ?_; refine ju rfl rfl ?_; apply jJ; exact eI rfl; apply jJ; exact eI rfl; apply jJ; exact eI rfl; refine jz ?_; refine jjB ?_; refine jjC ?_; apply jI; exact eI rfl; apply jI; exact eS rfl; refine jh rfl ?_; refine jja rfl rfl (by omega) ?_; apply jI; exact eB rfl; refine jU rfl rfl rfl rfl ?_; refine jU rfl rfl rfl rfl ?_; refine jU rfl rfl rfl rfl ?_; refine jU rfl rfl rfl rfl ?_; refine jU rfl rfl rfl rfl ?_; refine jU rfl rfl rfl rfl ?_; apply jL rfl; exact eB rfl; apply jJ; exact eB rfl; refine jz ?_; refine jjB ?_; refine jjB ?_; refine jjC ?_; apply jI; exact eB rfl; refine jz ?_; refine jjK rfl ?_; refine jjG ?_; refine jjB ?_; refine jjB ?_; refine jjC ?_; apply jI; exact eI rfl; refine jjk rfl rfl (by omega) ?_; apply jI; exact eB rfl; refine jT rfl rfl rfl ?_; apply jI; exact eI rfl; refine jT rfl rfl rfl ?_; apply jI; exact eI rfl; refine jT rfl rfl rfl ?_; refine jZ rfl rfl (by omega) ?_; refine jT rfl rfl rfl ?_; apply jI; exact eI rfl; refine jT rfl rfl rfl ?_; refine jjk rfl rfl (by omega) ?_; apply jL rfl; exact eB rfl; apply jI; exact eB rfl; refine jT rfl rfl rfl ?_; apply jI; exact eB rfl; refine jT rfl rfl rfl ?_; apply jI; exact eI rfl; refine jT rfl rfl rfl ?_; refine jje rfl rfl (by omega) ?_; refine jT rfl rfl rfl ?_)
      refine Ops.neqBB rfl rfl ?_
      (apply jL rfl; exact eB rfl; refine jz ?_; refine jjK rfl ?_; refine jjG ?_; refine jjC ?_; apply jI; exact eI rfl; refine jm ?_; refine jn rfl ?_; refine jN rfl rfl rfl ?_; refine jY rfl rfl (by omega) ?_; apply jJ; exact eI rfl; refine jz ?_; refine jjC ?_; refine jY rfl rfl (by omega) ?_; apply jI; exact eI rfl; refine jz ?_)
      exact ⟨rfl, by ((refine Same.upd rfl ?_; refine Same.upd rfl ?_; refine Same.upd rfl ?_; refine Same.upd rfl ?_; refine Same.upd rfl ?_; refine Same.upd rfl ?_; refine Same.upd rfl ?_; refine Same.upd rfl ?_; refine Same.upd rfl ?_; refine Same.upd rfl ?_; refine Same.upd rfl ?_; refine Same.upd rfl ?_; refine Same.upd rfl ?_; refine Same.upd rfl ?_; refine Same.upd rfl ?_; refine Same.upd rfl ?_; refine Same.upd rfl ?_; refine Same.upd rfl ?_; refine Same.upd rfl ?_; refine Same.upd rfl ?_; refine Same.upd rfl ?_; refine Same.upd rfl ?_; refine Same.upd rfl ?_; refine Same.upd rfl ?_; refine Same.upd rfl ?_; refine Same.upd rfl ?_; refine Same.upd rfl ?_; refine Same.upd rfl ?_; refine Same.upd rfl ?_; refine Same.upd rfl ?_; refine Same.upd rfl ?_; refine Same.upd rfl ?_; refine Same.upd rfl ?_; refine Same.upd rfl ?_; refine Same.upd rfl ?_; refine Same.upd rfl ?_; refine Same.upd rfl ?_; refine Same.upd rfl ?_; refine Same.upd rfl ?_; refine Same.upd rfl ?_; refine Same.upd rfl ?_; refine Same.upd rfl ?_; refine Same.upd rfl ?_; refine Same.upd rfl ?_; refine Same.upd rfl ?_; refine Same.upd rfl ?_; refine Same.upd rfl ?_; refine Same.upd rfl ?_; refine Same.upd rfl ?_; refine Same.upd rfl ?_; refine Same.ovN' rfl ?_; assumption)), bs.length - (i + 1), by omega, inferInstance, i + 1, congrArg (Value.int .i64) (by omega), congrArg (Value.int .i64) (by omega), congrArg (Value.int .i64) (by omega), rfl, by omega⟩
end
end Go.Proofs.YtfebegbjggoijaaGreatDoor
