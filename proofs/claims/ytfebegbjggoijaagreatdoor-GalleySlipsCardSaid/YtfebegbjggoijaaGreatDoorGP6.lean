/- Texts of the proof, part 6: Gl2, Ix2, LawGp. -/
import Derived.Test.YtfebegbjggoijaaGreatDoorGP5
/- The laws of galleys: the chapter's examples (alive). -/
namespace Go.Proofs.YtfebegbjggoijaaGreatDoor
open Go.RowKit

abbrev noneC : List Value := [.int .i64 (-1), .int .i64 (-1)]
theorem strs_fit8 (l : List ByteArray) : ∀ x ∈ l.map strV, fitsV false 1 x = true := fun x hx => by
  obtain ⟨y, _, rfl⟩ := List.mem_map.1 hx; rfl
theorem blk_fit8 (l : List Blk) : ∀ x ∈ l.map encB, fitsV true 2 x = true := fun x hx => by
  obtain ⟨y, _, rfl⟩ := List.mem_map.1 hx; rfl
set_option maxHeartbeats 1000000 in
theorem text_law8 (w : World) : Ct Tryz.prog 34 [] w fun v w' => ∃ a c cs, v = .agg #[.slice a cs.length c] ∧ RowV w' true 2 (.slice a cs.length c) (cs.map encCh) ∧ TextI w' cs ∧ txF cs = seaT := by
  refine Ct.ofW (by simp) ?_
  (((refine jjB ?_; refine jjC ?_)); refine jjY ?_; intro b0 w_b0 hb_b0 hs_b0 hS_b0 hk_b0; have hA_b0 := Bk.of hk_b0)
  (refine jz ?_; refine jjB ?_; refine jjC ?_)
  refine Ops.buildSliceF (cells := [strV wThe, strV wSea, strV wIs, strV wOld]) rfl rfl rfl ?_
  intro b1 w1 hb1 hs1 hS1 hk1
  refine Ops.buildSliceF (cells := [strV wOld, strV wThe, strV wSea]) rfl rfl rfl ?_
  intro b2 w2 hb2 hs2 hS2 hk2
  refine Ops.buildSliceF (cells := [.slice (some ⟨b1, 0, none⟩) 4 4, .slice (some ⟨b2, 0, none⟩) 3 3]) rfl rfl rfl ?_
  intro b3 w3 hb3 hs3 hS3 hk3
  (refine jjS (cells := [.int .i64 7, .slice (some ⟨b3, 0, none⟩) 2 2]) ?_ ?_; exact rfl)
  refine Ops.buildSliceF (cells := [strV wSea, strV wAnd, strV wSea]) rfl rfl rfl ?_
  intro b5 w5 hb5 hs5 hS5 hk5
  refine Ops.buildSliceF (cells := [.slice (some ⟨b5, 0, none⟩) 3 3]) rfl rfl rfl ?_
  intro b6 w6 hb6 hs6 hS6 hk6
  (refine jjS (cells := [.int .i64 3, .slice (some ⟨b6, 0, none⟩) 1 1]) ?_ ?_; exact rfl)
  refine Ops.buildSliceF (cells := [.int .i64 7, .slice (some ⟨b3, 0, none⟩) 2 2, .int .i64 3, .slice (some ⟨b6, 0, none⟩) 1 1]) rfl rfl rfl ?_
  intro b8 w8 hb8 hs8 hS8 hk8
  (refine jjS (cells := [.slice (some ⟨b8, 0, none⟩) 2 2]) ?_ ?_; exact rfl)
  have hb0 : Bk w8 b0 [.slice none 0 0] 63 := inferInstance
  have hE8 : Ext w w8 := inferInstance
  have k1 : Bk w8 b1 [strV wThe, strV wSea, strV wIs, strV wOld] 9 := inferInstance
  have k2 : Bk w8 b2 [strV wOld, strV wThe, strV wSea] 9 := inferInstance
  have k3 : Bk w8 b3 [.slice (some ⟨b1, 0, none⟩) 4 4, .slice (some ⟨b2, 0, none⟩) 3 3] 71 := inferInstance
  have k5 : Bk w8 b5 [strV wSea, strV wAnd, strV wSea] 9 := inferInstance
  have k6 : Bk w8 b6 [.slice (some ⟨b5, 0, none⟩) 3 3] 71 := inferInstance
  refine Ops.store rfl rfl rfl rfl rfl ?_
  intro V2 hp2
  have := Bk.toAt (h := Bk.of hp2.new)
  have z0 := hS_b0.size
  have z1 := hS1.size
  have z2 := hS2.size
  have z3 := hS3.size
  have z5 := hS5.size
  have z6 := hS6.size
  have z8 := hS8.size
  have m1 := hp2.bk k1 (by omega)
  have m2 := hp2.bk k2 (by omega)
  have m3 := hp2.bk k3 (by omega)
  have m5 := hp2.bk k5 (by omega)
  have m6 := hp2.bk k6 (by omega)
  have m8 := hp2.bk hk8 (by omega)
  (refine jz ?_; refine jjF ?_)
  refine fin1C rfl rfl rfl rfl rfl ⟨hp2.ext hE8 (by omega), some ⟨b8, 0, none⟩, 2, [(7, some ⟨b3, 0, none⟩, 2, [(some ⟨b1, 0, none⟩, 4, [wThe, wSea, wIs, wOld]), (some ⟨b2, 0, none⟩, 3, [wOld, wThe, wSea])]), (3, some ⟨b6, 0, none⟩, 1, [(some ⟨b5, 0, none⟩, 3, [wSea, wAnd, wSea])])], rfl, ?_, ⟨?_, ?_⟩, rfl⟩
  · exact Bk.rows (xs := [encCh (7, some ⟨b3, 0, none⟩, 2, [(some ⟨b1, 0, none⟩, 4, [wThe, wSea, wIs, wOld]), (some ⟨b2, 0, none⟩, 3, [wOld, wThe, wSea])]), encCh (3, some ⟨b6, 0, none⟩, 1, [(some ⟨b5, 0, none⟩, 3, [wSea, wAnd, wSea])])]) m8 (by simp [fitsV]) (by simp)
  · intro x hx
    simp only [List.mem_cons, List.not_mem_nil, or_false] at hx
    rcases hx with rfl | rfl
    · exact m3.row (fun x hx => by simp at hx; rcases hx with rfl | rfl <;> rfl) (by simp)
    · exact m6.row (fun x hx => by simp at hx; rcases hx with rfl; rfl) (by simp)
  · intro x hx
    simp only [List.mem_cons, List.not_mem_nil, or_false] at hx
    rcases hx with rfl | rfl
    · intro y hy
      simp only [List.mem_cons, List.not_mem_nil, or_false] at hy
      rcases hy with rfl | rfl
      · exact m1.row (strs_fit8 [_, _, _, _]) (by simp)
      · exact m2.row (strs_fit8 [_, _, _]) (by simp)
    · intro y hy
      simp only [List.mem_cons, List.not_mem_nil, or_false] at hy
      subst hy
      exact m5.row (strs_fit8 [_, _, _]) (by simp)
set_option maxHeartbeats 1000000 in
theorem example_law8 (w : World) : Ct Tryz.prog 31 [] w fun v w' => ∃ a c, v = .agg #[.int .i64 5, .slice a exG.length c] ∧ RowV w' true 2 (.slice a exG.length c) (exG.map encB) := by
  refine Ct.ofW (by simp) ?_
  (((refine jjB ?_; refine jjC ?_)); refine jjY ?_; intro b0 w_b0 hb_b0 hs_b0 hS_b0 hk_b0; have hA_b0 := Bk.of hk_b0)
  (refine jz ?_; refine jjB ?_; refine jjC ?_)
  (refine jjS (cells := [.string wAnd, .int .i64 3]) ?_ ?_; exact rfl)
  (refine jjS (cells := [.string wIs, .int .i64 2]) ?_ ?_; exact rfl)
  (refine jjS (cells := [.string wOld, .int .i64 6]) ?_ ?_; exact rfl)
  (refine jjS (cells := [.string wSea, .int .i64 4]) ?_ ?_; exact rfl)
  refine Ops.buildSliceF (cells := [.string wAnd, .int .i64 3, .string wIs, .int .i64 2, .string wOld, .int .i64 6, .string wSea, .int .i64 4]) rfl rfl rfl ?_
  intro b5 w5 hb5 hs5 hS5 hk5
  (refine jjS (cells := [.int .i64 5, .slice (some ⟨b5, 0, none⟩) 4 4]) ?_ ?_; exact rfl)
  have hb0 : Bk w5 b0 [.int .i64 0, .slice none 0 0] 24 := inferInstance
  have hE5 : Ext w w5 := inferInstance
  refine Ops.store rfl rfl rfl rfl rfl ?_
  intro V2 hp2
  have := Bk.toAt (h := Bk.of hp2.new)
  have z0 := hS_b0.size
  have z5 := hS5.size
  have m5 := hp2.bk hk5 (by omega)
  (refine jz ?_; refine jjF ?_)
  refine fin1C rfl rfl rfl rfl rfl ⟨hp2.ext hE5 (by omega), some ⟨b5, 0, none⟩, 4, rfl, ?_⟩
  exact Bk.rows (xs := exG.map encB) m5 (blk_fit8 _) (by simp)
theorem int_fit8 (l : List Int) : ∀ x ∈ l.map intV, fitsV false 1 x = true := fun x hx => by
  obtain ⟨y, _, rfl⟩ := List.mem_map.1 hx; rfl
theorem exg_sz : ∀ b ∈ exG, b.1.size ≤ 140737488351232 := by decide
section
variable (w : World) [hgs : At w 2 0 sidesC] [htn : At w 1 0 tornC] [hnn : At w 0 0 noneC]
set_option maxRecDepth 20000 in
set_option maxHeartbeats 16000000 in
theorem alive_law8 : Ct Tryz.prog 11 [] w fun v _ => v = .bool true := by
  refine Ct.ofW (by simp) ?_
  (refine jjB ?_; refine jjC ?_; apply jJ; exact eB rfl; refine jz ?_; refine jjB ?_; refine jjC ?_)
  refine jjQ (example_law8 _) rfl rfl ?_
  rintro _ w1 hS1 ⟨a1, c1, rfl, hR1⟩
  skip
  refine jjQ ((Ends_galley 5 a1 c1 exG _ hR1 exg_sz (htn.ext inferInstance)).mono (R' := fun v w' => ∃ u, v = .tuple #[u, .int .i64 0] ∧ RowV w' false 1 u ([(3 : Int), 5, 7, 8, 9, 11, 13, 15].map intV)) fun v _ _ h => by rw [if_pos ex_ok, ex_ends] at h; exact h) rfl rfl ?_
  rintro _ w2 hS2 ⟨u2, rfl, hR2⟩
  obtain ⟨a2, c2, rfl, i2⟩ := hR2.ints
  (apply jI; exact eU rfl; refine ju rfl rfl ?_; refine ju rfl rfl ?_; apply jJ; exact eS rfl; apply jJ; exact eI rfl; refine jz ?_; refine jjB ?_; refine jjC ?_)
  refine jjQ (example_law8 _) rfl rfl ?_
  rintro _ w3 hS3 ⟨a3, c3, rfl, hR3⟩
  skip
  refine jjQ ((Break_galley 5 a3 c3 exG _ hR3 exg_sz (htn.ext inferInstance) (hnn.ext inferInstance)).mono (R' := fun v w' => ∃ u, v = .tuple #[u, .int .i64 0] ∧ RowV w' false 1 u ([(5 : Int), 9, 13, 15].map intV)) fun v _ _ h => by rw [if_pos ex_ok, ex_brk] at h; exact h) rfl rfl ?_
  rintro _ w4 hS4 ⟨u4, rfl, hR4⟩
  obtain ⟨a4, c4, rfl, i4⟩ := hR4.ints
  (apply jI; exact eU rfl; refine ju rfl rfl ?_; refine ju rfl rfl ?_; apply jJ; exact eS rfl; apply jJ; exact eI rfl; refine jz ?_; refine jjB ?_; refine jjC ?_)
  refine jjQ (example_law8 _) rfl rfl ?_
  rintro _ w5 hS5 ⟨a5, c5, rfl, hR5⟩
  skip
  refine Ops.buildSliceF (cells := [.int .i64 5, .int .i64 9, .int .i64 13, .int .i64 15]) rfl rfl rfl ?_
  intro b6 w6 hb6 hs6 hS6 hk6
  have i6 : RowI w6 (.slice (some ⟨b6, 0, none⟩) exL.length 4) false 1 (exL.map intV) := ⟨hk6.row (fun x hx => by simp at hx; rcases hx with rfl | rfl | rfl | rfl <;> rfl) (by simp)⟩
  skip
  refine jjQ (ints_law8 (.slice (some ⟨b6, 0, none⟩) 4 4) _ _ _ rfl _) rfl rfl ?_
  rintro _ w7 hS7 rfl
  skip
  refine jjQ ((Waste_galley 5 a5 c5 exG (some ⟨b6, 0, none⟩) 4 exL _ (by decide) ((hR5.ext hS6.ext).ext hS7.ext) exg_sz (htn.ext inferInstance)).mono (R' := fun v _ => v = .tuple #[.int .i64 2, .int .i64 0]) fun v _ _ h => h.trans (by rw [ex_waste, ex_valid])) rfl rfl ?_
  rintro _ w8 hS8 rfl
  (apply jI; exact eU rfl; refine ju rfl rfl ?_; refine ju rfl rfl ?_; apply jJ; exact eI rfl; apply jJ; exact eI rfl; refine jz ?_; refine jjB ?_; refine jjC ?_)
  refine jjQ (example_law8 _) rfl rfl ?_
  rintro _ w9 hS9 ⟨a9, c9, rfl, hR9⟩
  skip
  refine jjQ ((Proof_galley 5 a9 c9 exG _ hR9 exg_sz (htn.ext inferInstance) (fun _ => by rw [ex_ends]; decide)).mono (R' := fun v w' => ∃ u, v = .tuple #[u, .int .i64 0] ∧ RowV w' false 1 u ([(0 : Int), 4, 0, 5, 4, 1, 6, 2, 2].map intV)) fun v _ _ h => by rw [if_pos ex_ok] at h; exact h) rfl rfl ?_
  rintro _ w10 hS10 ⟨u10, rfl, hR10⟩
  obtain ⟨a10, c10, rfl, i10⟩ := hR10.ints
  (apply jI; exact eU rfl; refine ju rfl rfl ?_; refine ju rfl rfl ?_; apply jJ; exact eS rfl; apply jJ; exact eI rfl; refine jz ?_; refine jjB ?_; refine jjC ?_)
  refine jjQ (example_law8 _) rfl rfl ?_
  rintro _ w11 hS11 ⟨a11, c11, rfl, hR11⟩
  skip
  refine Ops.buildSliceF (cells := [.int .i64 5, .int .i64 9, .int .i64 13, .int .i64 15]) rfl rfl rfl ?_
  intro b12 w12 hb12 hs12 hS12 hk12
  have i12 : RowI w12 (.slice (some ⟨b12, 0, none⟩) exL.length 4) false 1 (exL.map intV) := ⟨hk12.row (fun x hx => by simp at hx; rcases hx with rfl | rfl | rfl | rfl <;> rfl) (by simp)⟩
  skip
  refine jjQ (ints_law8 (.slice (some ⟨b12, 0, none⟩) 4 4) _ _ _ rfl _) rfl rfl ?_
  rintro _ w13 hS13 rfl
  skip
  refine jjQ ((At_galley 5 a11 c11 exG (some ⟨b12, 0, none⟩) 4 exL _ 9 (by decide) ((hR11.ext hS12.ext).ext hS13.ext) exg_sz (htn.ext inferInstance)).mono (R' := fun v _ => v = .tuple #[.int .i64 2, .int .i64 0, .int .i64 0]) fun v _ _ h => h.trans (by rw [ex_at]; rfl)) rfl rfl ?_
  rintro _ w14 hS14 rfl
  (apply jI; exact eU rfl; refine ju rfl rfl ?_; refine ju rfl rfl ?_; refine ju rfl rfl ?_; apply jJ; exact eI rfl; apply jJ; exact eI rfl; apply jJ; exact eI rfl; refine jz ?_; refine jjB ?_; refine jjC ?_)
  refine jjQ (example_law8 _) rfl rfl ?_
  rintro _ w15 hS15 ⟨a15, c15, rfl, hR15⟩
  skip
  refine Ops.buildSliceF (cells := [.int .i64 5, .int .i64 9, .int .i64 13, .int .i64 15]) rfl rfl rfl ?_
  intro b16 w16 hb16 hs16 hS16 hk16
  have i16 : RowI w16 (.slice (some ⟨b16, 0, none⟩) exL.length 4) false 1 (exL.map intV) := ⟨hk16.row (fun x hx => by simp at hx; rcases hx with rfl | rfl | rfl | rfl <;> rfl) (by simp)⟩
  skip
  refine jjQ (ints_law8 (.slice (some ⟨b16, 0, none⟩) 4 4) _ _ _ rfl _) rfl rfl ?_
  rintro _ w17 hS17 rfl
  skip
  refine jjQ ((Columns_galley 5 a15 c15 exG (some ⟨b16, 0, none⟩) 4 exL _ 2 (by decide) ((hR15.ext hS16.ext).ext hS17.ext) exg_sz (htn.ext inferInstance)).mono (R' := fun v _ => v = .tuple #[.int .i64 1, .int .i64 2, .int .i64 0]) fun v _ _ h => h.trans (by rw [ex_col]; rfl)) rfl rfl ?_
  rintro _ w18 hS18 rfl
  (apply jI; exact eU rfl; refine ju rfl rfl ?_; refine ju rfl rfl ?_; refine ju rfl rfl ?_; apply jJ; exact eI rfl; apply jJ; exact eI rfl; apply jJ; exact eI rfl; refine jz ?_; refine jjB ?_; refine jjC ?_)
  refine jjQ (example_law8 _) rfl rfl ?_
  rintro _ w19 hS19 ⟨a19, c19, rfl, hR19⟩
  skip
  refine Ops.buildSliceF (cells := [.int .i64 5, .int .i64 9, .int .i64 13, .int .i64 15]) rfl rfl rfl ?_
  intro b20 w20 hb20 hs20 hS20 hk20
  have i20 : RowI w20 (.slice (some ⟨b20, 0, none⟩) exL.length 4) false 1 (exL.map intV) := ⟨hk20.row (fun x hx => by simp at hx; rcases hx with rfl | rfl | rfl | rfl <;> rfl) (by simp)⟩
  skip
  refine jjQ (ints_law8 (.slice (some ⟨b20, 0, none⟩) 4 4) _ _ _ rfl _) rfl rfl ?_
  rintro _ w21 hS21 rfl
  skip
  refine jjQ ((Fix_galley 5 a19 c19 exG (some ⟨b20, 0, none⟩) 4 exL _ 1 3 (by decide) ((hR19.ext hS20.ext).ext hS21.ext) exg_sz (htn.ext inferInstance) (hnn.ext inferInstance)).mono (R' := fun v w' => ∃ (xa : Option Addr) (xc : Nat) (aa : Option Addr) (ac : Nat), v = .tuple #[.agg #[.int .i64 5, .slice xa 4 xc], .slice aa 5 ac, .int .i64 0, .int .i64 0, .int .i64 0] ∧ RowV w' true 2 (.slice xa 4 xc) ([(wAnd, (3 : Int)), (wIs, 3), (wOld, 6), (wSea, 4)].map encB) ∧ RowV w' false 1 (.slice aa 5 ac) ([(3 : Int), 6, 10, 14, 16].map intV)) fun v _ _ h => ?_) rfl rfl ?_
  · rcases h with ⟨h1, -⟩ | ⟨-, h1, -⟩ | ⟨-, k', t, xa, xc, aa, ac, hk, hD, hT, hv, hOx, hOm, -⟩
    · exact absurd ex_valid h1
    · exact absurd ⟨⟨by omega, by decide⟩, by omega, by omega⟩ h1
    · obtain rfl : k' = 1 := by omega
      obtain rfl : t = 0 := (FixT.eq hD hT).trans ex_colT.1
      rw [ex_fix, ex_colT.2] at hv
      rw [ex_fix] at hOm
      exact ⟨xa, xc, aa, ac, hv, hOx.row, hOm.row⟩
  rintro _ w22 hS22 ⟨xa, xc, aa, ac, rfl, hRx, hRm⟩
  (apply jI; exact eU rfl; refine ju rfl rfl ?_; refine ju rfl rfl ?_; refine ju rfl rfl ?_; refine ju rfl rfl ?_; refine ju rfl rfl ?_)
  (apply jjR rfl; (intro _; first|exact eI rfl|exact eB rfl|exact eP rfl|exact eS rfl|exact eT rfl|exact eA rfl|exact eU rfl|exact eF rfl|exact eM rfl|exact eN rfl|exact rfl); exact rfl; exact rfl; exact rfl; exact rfl; intro b15 w_b15 hb_b15 hs_b15 hS_b15 hk_b15; have hA_b15 := Bk.of hk_b15)
  (apply jJ; exact eS rfl; apply jJ; exact eI rfl; apply jJ; exact eI rfl; apply jJ; exact eI rfl; refine jz ?_; refine jjB ?_; refine jjC ?_)
  refine jjQ (text_law8 _) rfl rfl ?_
  rintro _ w23 hS23 ⟨a23, c23, cs23, rfl, hR23, hT23, hx23⟩
  have i23 := RowI.mk hR23
  skip
  (refine jjS (cells := [.int .i64 14, .int .u8 3]) ?_ ?_; exact rfl)
  have hst := Set_galley a23 c23 cs23 14 3 w23 (small_of_great (by rw [hx23]; kernel_rfl)) (by omega) 4
  rw [hx23, ex_set] at hst
  skip
  refine jjQ hst rfl rfl ?_
  rintro _ w24 hS24 ⟨ga, gc, rfl, hRg⟩
  (apply jI; exact eU rfl; refine ju rfl rfl ?_; refine ju rfl rfl ?_)
  (apply jjR rfl; (intro _; first|exact eI rfl|exact eB rfl|exact eP rfl|exact eS rfl|exact eT rfl|exact eA rfl|exact eU rfl|exact eF rfl|exact eM rfl|exact eN rfl|exact rfl); exact rfl; exact rfl; exact rfl; exact rfl; intro b20 w_b20 hb_b20 hs_b20 hS_b20 hk_b20; have hA_b20 := Bk.of hk_b20)
  (apply jJ; exact eI rfl; refine jz ?_; refine jjB ?_; refine jjC ?_)
  (refine jjS (cells := [.string wAnd, .int .i64 2]) ?_ ?_; exact rfl)
  (refine jjS (cells := [.string wIs, .int .i64 2]) ?_ ?_; exact rfl)
  (refine jjS (cells := [.string wOld, .int .i64 3]) ?_ ?_; exact rfl)
  (refine jjS (cells := [.string wSea, .int .i64 5]) ?_ ?_; exact rfl)
  (refine jjS (cells := [.string wThe, .int .i64 3]) ?_ ?_; exact rfl)
  refine Ops.buildSliceF (cells := [.string wAnd, .int .i64 2, .string wIs, .int .i64 2, .string wOld, .int .i64 3, .string wSea, .int .i64 5, .string wThe, .int .i64 3]) rfl rfl rfl ?_
  intro b25 w25 hb25 hs25 hS25 hk25
  have hEx : Ext w22 w25 := inferInstance
  have iM : RowI w25 (.slice aa 5 ac) false 1 ([(3 : Int), 6, 10, 14, 16].map intV) := ⟨hRm.ext inferInstance⟩
  have iX : RowI w25 (.slice xa 4 xc) true 2 ([(wAnd, (3 : Int)), (wIs, 3), (wOld, 6), (wSea, 4)].map encB) := ⟨hRx.ext inferInstance⟩
  have iG : RowI w25 (.slice ga 5 gc) true 2 ([(wAnd, (2 : Int)), (wIs, 2), (wOld, 3), (wSea, 5), (wThe, 3)].map encB) := ⟨hRg.ext inferInstance⟩
  have iW : RowI w25 (.slice (some ⟨b25, 0, none⟩) 5 5) true 2 ([(wAnd, (2 : Int)), (wIs, 2), (wOld, 3), (wSea, 5), (wThe, 3)].map encB) := ⟨Bk.rows (xs := [(wAnd, (2 : Int)), (wIs, 2), (wOld, 3), (wSea, 5), (wThe, 3)].map encB) hk25 (blk_fit8 _) (by simp)⟩
  have hA15 : At w25 b15 0 [.int .i64 5, .slice xa 4 xc] := inferInstance
  have hA20 : At w25 b20 0 [.int .i64 4, .slice ga 5 gc] := inferInstance
  (apply jJ; exact eS rfl; refine jz ?_; refine jjB ?_; refine jjC ?_; apply jI; exact eI rfl; refine jjh rfl rfl (by omega) ?_; apply jI; exact eB rfl; refine jT rfl rfl rfl ?_; apply jI; exact eS rfl; refine jT rfl rfl rfl ?_)
  refine Ops.buildSliceF (cells := [.int .i64 3, .int .i64 5, .int .i64 7, .int .i64 8, .int .i64 9, .int .i64 11, .int .i64 13, .int .i64 15]) rfl rfl rfl ?_
  intro b87 w87 hb87 hs87 hS87 hk87
  have i87 : RowI w87 (.slice (some ⟨b87, 0, none⟩) ([3, 5, 7, 8, 9, 11, 13, 15] : List Int).length 8) false 1 (([3, 5, 7, 8, 9, 11, 13, 15] : List Int).map intV) := ⟨Bk.row (xs := ([3, 5, 7, 8, 9, 11, 13, 15] : List Int).map intV) hk87 (int_fit8 _) (by simp)⟩
  (refine jT rfl rfl rfl ?_)
  refine jjQ ((same_law8 a2 (some ⟨b87, 0, none⟩) c2 8 [3, 5, 7, 8, 9, 11, 13, 15] [3, 5, 7, 8, 9, 11, 13, 15] _).mono (R' := fun v _ => v = .bool true) fun v _ _ h => h.trans (by rw [decide_eq_true rfl])) rfl rfl ?_
  rintro _ w26 hS26 rfl
  (apply jK rfl; exact eB rfl; apply jI; exact eB rfl; refine jT rfl rfl rfl ?_; apply jI; exact eI rfl; refine jT rfl rfl rfl ?_; refine jjh rfl rfl (by omega) ?_; apply jK rfl; exact eB rfl; apply jI; exact eB rfl; refine jT rfl rfl rfl ?_; apply jI; exact eS rfl; refine jT rfl rfl rfl ?_)
  refine Ops.buildSliceF (cells := [.int .i64 5, .int .i64 9, .int .i64 13, .int .i64 15]) rfl rfl rfl ?_
  intro b96 w96 hb96 hs96 hS96 hk96
  have i96 : RowI w96 (.slice (some ⟨b96, 0, none⟩) ([5, 9, 13, 15] : List Int).length 4) false 1 (([5, 9, 13, 15] : List Int).map intV) := ⟨Bk.row (xs := ([5, 9, 13, 15] : List Int).map intV) hk96 (int_fit8 _) (by simp)⟩
  (refine jT rfl rfl rfl ?_)
  refine jjQ ((same_law8 a4 (some ⟨b96, 0, none⟩) c4 4 [5, 9, 13, 15] [5, 9, 13, 15] _).mono (R' := fun v _ => v = .bool true) fun v _ _ h => h.trans (by rw [decide_eq_true rfl])) rfl rfl ?_
  rintro _ w27 hS27 rfl
  (apply jK rfl; exact eB rfl; apply jI; exact eB rfl; refine jT rfl rfl rfl ?_; apply jI; exact eI rfl; refine jT rfl rfl rfl ?_; refine jjh rfl rfl (by omega) ?_; apply jK rfl; exact eB rfl; apply jI; exact eB rfl; refine jT rfl rfl rfl ?_; apply jI; exact eI rfl; refine jT rfl rfl rfl ?_; refine jjh rfl rfl (by omega) ?_; apply jK rfl; exact eB rfl; apply jI; exact eB rfl; refine jT rfl rfl rfl ?_; apply jI; exact eI rfl; refine jT rfl rfl rfl ?_; refine jjh rfl rfl (by omega) ?_; apply jK rfl; exact eB rfl; apply jI; exact eB rfl; refine jT rfl rfl rfl ?_; apply jI; exact eS rfl; refine jT rfl rfl rfl ?_)
  refine Ops.buildSliceF (cells := [.int .i64 0, .int .i64 4, .int .i64 0, .int .i64 5, .int .i64 4, .int .i64 1, .int .i64 6, .int .i64 2, .int .i64 2]) rfl rfl rfl ?_
  intro b113 w113 hb113 hs113 hS113 hk113
  have i113 : RowI w113 (.slice (some ⟨b113, 0, none⟩) ([0, 4, 0, 5, 4, 1, 6, 2, 2] : List Int).length 9) false 1 (([0, 4, 0, 5, 4, 1, 6, 2, 2] : List Int).map intV) := ⟨Bk.row (xs := ([0, 4, 0, 5, 4, 1, 6, 2, 2] : List Int).map intV) hk113 (int_fit8 _) (by simp)⟩
  (refine jT rfl rfl rfl ?_)
  refine jjQ ((same_law8 a10 (some ⟨b113, 0, none⟩) c10 9 [0, 4, 0, 5, 4, 1, 6, 2, 2] [0, 4, 0, 5, 4, 1, 6, 2, 2] _).mono (R' := fun v _ => v = .bool true) fun v _ _ h => h.trans (by rw [decide_eq_true rfl])) rfl rfl ?_
  rintro _ w28 hS28 rfl
  (apply jK rfl; exact eB rfl; apply jI; exact eB rfl; refine jT rfl rfl rfl ?_; apply jI; exact eI rfl; refine jT rfl rfl rfl ?_; refine jjh rfl rfl (by omega) ?_; apply jK rfl; exact eB rfl; apply jI; exact eB rfl; refine jT rfl rfl rfl ?_; apply jI; exact eI rfl; refine jT rfl rfl rfl ?_; refine jjh rfl rfl (by omega) ?_; apply jK rfl; exact eB rfl; apply jI; exact eB rfl; refine jT rfl rfl rfl ?_; apply jI; exact eI rfl; refine jT rfl rfl rfl ?_; refine jjh rfl rfl (by omega) ?_; apply jK rfl; exact eB rfl; apply jI; exact eB rfl; refine jT rfl rfl rfl ?_; apply jI; exact eI rfl; refine jT rfl rfl rfl ?_; refine jjh rfl rfl (by omega) ?_; apply jK rfl; exact eB rfl; apply jI; exact eB rfl; refine jT rfl rfl rfl ?_; apply jI; exact eI rfl; refine jT rfl rfl rfl ?_; refine jjh rfl rfl (by omega) ?_; apply jK rfl; exact eB rfl; apply jI; exact eB rfl; refine jT rfl rfl rfl ?_; apply jI; exact eI rfl; refine jT rfl rfl rfl ?_; refine jjh rfl rfl (by omega) ?_; apply jK rfl; exact eB rfl; apply jI; exact eB rfl; refine jT rfl rfl rfl ?_; apply jI; exact eI rfl; refine jT rfl rfl rfl ?_; refine jjh rfl rfl (by omega) ?_; apply jK rfl; exact eB rfl; apply jI; exact eB rfl; refine jT rfl rfl rfl ?_; refine jm ?_; refine jn rfl ?_; refine jT rfl rfl rfl ?_; refine jN rfl rfl rfl ?_; refine jT rfl rfl rfl ?_; refine jh rfl ?_; refine jT rfl rfl rfl ?_; refine jjh rfl rfl (by omega) ?_; apply jK rfl; exact eB rfl; apply jI; exact eB rfl; refine jT rfl rfl rfl ?_; refine jm ?_; refine jn rfl ?_; refine jT rfl rfl rfl ?_; refine jN rfl rfl rfl ?_; refine jT rfl rfl rfl ?_)
  refine jF rfl rfl rfl (map_get (show 1 < [(wAnd, (3 : Int)), (wIs, 3), (wOld, 6), (wSea, 4)].length by decide)) ?_
  intro b153 o153 hA153
  have hA153' : At _ b153 o153 [.string wIs, .int .i64 3] := hA153
  (refine jT rfl rfl rfl ?_; refine jm ?_; refine jn rfl ?_; refine jT rfl rfl rfl ?_; refine jP rfl rfl rfl ?_; refine jT rfl rfl rfl ?_; refine jjh rfl rfl (by omega) ?_; apply jK rfl; exact eB rfl; apply jI; exact eB rfl; refine jT rfl rfl rfl ?_; apply jI; exact eS rfl; refine jT rfl rfl rfl ?_)
  refine Ops.buildSliceF (cells := [.int .i64 3, .int .i64 6, .int .i64 10, .int .i64 14, .int .i64 16]) rfl rfl rfl ?_
  intro b160 w160 hb160 hs160 hS160 hk160
  have i160 : RowI w160 (.slice (some ⟨b160, 0, none⟩) ([3, 6, 10, 14, 16] : List Int).length 5) false 1 (([3, 6, 10, 14, 16] : List Int).map intV) := ⟨Bk.row (xs := ([3, 6, 10, 14, 16] : List Int).map intV) hk160 (int_fit8 _) (by simp)⟩
  (refine jT rfl rfl rfl ?_)
  refine jjQ ((same_law8 aa (some ⟨b160, 0, none⟩) ac 5 [3, 6, 10, 14, 16] [3, 6, 10, 14, 16] _).mono (R' := fun v _ => v = .bool true) fun v _ _ h => h.trans (by rw [decide_eq_true rfl])) rfl rfl ?_
  rintro _ w29 hS29 rfl
  (apply jK rfl; exact eB rfl; apply jI; exact eB rfl; refine jT rfl rfl rfl ?_; apply jI; exact eI rfl; refine jT rfl rfl rfl ?_; refine jjh rfl rfl (by omega) ?_; apply jK rfl; exact eB rfl; apply jI; exact eB rfl; refine jT rfl rfl rfl ?_; apply jI; exact eI rfl; refine jT rfl rfl rfl ?_; refine jjh rfl rfl (by omega) ?_; apply jK rfl; exact eB rfl; apply jI; exact eB rfl; refine jT rfl rfl rfl ?_; apply jI; exact eI rfl; refine jT rfl rfl rfl ?_; refine jjh rfl rfl (by omega) ?_; apply jK rfl; exact eB rfl; apply jI; exact eB rfl; refine jT rfl rfl rfl ?_; refine jO rfl rfl rfl rfl ?_; refine jT rfl rfl rfl ?_; apply jI; exact eS rfl; refine jT rfl rfl rfl ?_)
  (refine jjS (cells := [.int .i64 4, .slice (some ⟨b25, 0, none⟩) 5 5]) ?_ ?_; exact rfl)
  (refine jT rfl rfl rfl ?_)
  refine jjQ (Same_yes 4 ga (some ⟨b25, 0, none⟩) gc 5 [(wAnd, 2), (wIs, 2), (wOld, 3), (wSea, 5), (wThe, 3)] _) rfl rfl ?_
  rintro _ w30 hS30 rfl
  (apply jK rfl; exact eB rfl; apply jJ; exact eB rfl; refine jz ?_; refine jjF ?_; refine jB rfl rfl ⟨inferInstance, ?_⟩)
  exact rfl
end
end Go.Proofs.YtfebegbjggoijaaGreatDoor

/- leaf: Places. -/
namespace Go.Proofs.YtfebegbjggoijaaGreatDoor
open Go.RowKit

theorem plsN_all (t : Tx) (s : ByteArray) : plsN t (allW t t.length).length s = placesF t s := by rw [plsN, List.take_length, placesF]
/-- The places of a word, or the error. -/
def placesR (t : Tx) (s : ByteArray) : List Pl × Int := if textB t then (if wordB s then (placesF t s, 0) else ([], 2)) else ([], 10)
section
variable (a : Option Addr) (c : Nat) (cs : List Ch) (w : World) [hrow : RowI w (.slice a cs.length c) true 2 (cs.map encCh)] [hT : TextI w cs]
set_option maxHeartbeats 4000000 in
theorem Places_leaf (hs : SmallT cs) (s : ByteArray) (hss : s.size ≤ 1000) : Ct Tryz.prog 42 [.agg #[.slice a cs.length c], .string s] w fun v w' => ∃ sv, v = .tuple #[sv, .int .i64 (placesR (txF cs) s).2] ∧ OwnL w' w.heap.size 111 true 3 sv ((placesR (txF cs) s).1.map encPl) := by
  refine Ct.ofW (by simp) ?_
  (refine jjB ?_; refine jjC ?_)
  (refine jy rfl ?_; intro b2 w_b2 hb_b2 hs_b2 hS_b2 hk_b2; have hA_b2 := At.ofBlock hk_b2)
  (apply jJ; exact eS rfl; apply jJ; exact eI rfl; refine jz ?_; refine jjB ?_; refine jjC ?_; refine jO rfl rfl rfl rfl ?_)
  obtain ⟨B, hB⟩ : ∃ B, textB (txF cs) = B := ⟨_, rfl⟩
  refine jjQ ((open_leaf a c cs _ hs).mono fun v _ _ h => by rw [hB] at h; exact h) rfl rfl ?_
  rintro _ w2 hS2 ⟨o, rfl, ho⟩
  rw [placesR, hB]
  cases B with
  | false =>
    (apply jI; exact eU rfl; refine ju rfl rfl ?_; refine ju rfl rfl ?_; apply jJ; exact rfl; apply jJ; exact eI rfl; refine jz ?_; refine jjB ?_; refine jjB ?_; refine jjC ?_; apply jI; exact eI rfl; refine jc rfl rfl ?_; refine jz ?_; refine jjJ rfl ?_; refine jjB ?_; refine jjC ?_; apply jI; exact eI rfl; apply jJ; exact eS rfl; apply jJ; exact eI rfl; refine jz ?_; refine jjF ?_; refine jC rfl rfl rfl ⟨inferInstance, ?_⟩)
    exact ⟨_, rfl, OwnL.nil _ _ _ _ _⟩
  | true =>
  obtain ⟨bk, hbk, rfl, hAk⟩ := ho rfl
  obtain ⟨B2, hB2⟩ : ∃ B, wordB s = B := ⟨_, rfl⟩
  rw [if_pos rfl, if_pos rfl, hB2]
  (apply jI; exact eU rfl; refine ju rfl rfl ?_; refine ju rfl rfl ?_; apply jJ; exact eP rfl; apply jJ; exact eI rfl; refine jz ?_; refine jjB ?_; refine jjB ?_; refine jjC ?_; apply jI; exact eI rfl; refine jjk rfl rfl (by omega) ?_; refine jz ?_; refine jjK rfl ?_; refine jjG ?_; refine jjB ?_; refine jjB ?_; refine jjC ?_; apply jI; exact eT rfl)
  refine jjQ ((word_leaf s _ (by omega)).mono fun v _ _ h => h.trans (by rw [hB2])) rfl rfl ?_
  rintro _ w3 hS3 rfl
  cases B2 with
  | false =>
    (refine jq rfl ?_; refine jz ?_; refine jjJ rfl ?_; refine jjB ?_; refine jjC ?_; apply jJ; exact eS rfl; apply jJ; exact eI rfl; refine jz ?_; refine jjF ?_; refine jC rfl rfl rfl ⟨inferInstance, ?_⟩)
    exact ⟨_, rfl, OwnL.nil _ _ _ _ _⟩
  | true =>
  have hAk3 : At w3 bk 0 [.slice a cs.length c] := hAk.ext hS3.ext
  have zE : w.heap.size ≤ w3.heap.size := Ext.size inferInstance
  (refine jp rfl ?_; refine jz ?_; refine jjK rfl ?_; refine jjG ?_; refine jjB ?_; refine jjC ?_; apply jI; exact eP rfl)
  refine jjQ (index_leaf a c cs _ hs hB bk) rfl rfl ?_
  rintro _ w4 hS4 ⟨mb, m, rfl, hmb, hM, hnd, hO⟩
  have hO4 := (hO s).mono (B' := w.heap.size) (by omega)
  rw [plsN_all] at hO4
  obtain ⟨v0, hv0⟩ : ∃ v0, (mget m s).getD nilV = v0 := ⟨_, rfl⟩
  rw [hv0] at hO4
  obtain ⟨va, vl, vc, rfl⟩ := hO4.slice3
  (apply jI; exact eT rfl)
  refine Ops.lookupV (k := s) hv0 hM rfl rfl ?_
  (apply jJ; exact eS rfl; apply jJ; exact eI rfl; refine jz ?_; refine jjF ?_; refine jC rfl rfl rfl ⟨inferInstance, ?_⟩)
  exact ⟨_, rfl, hO4⟩
end
end Go.Proofs.YtfebegbjggoijaaGreatDoor

/- The law: each slip of a text has its line, each word its heading. -/
namespace Go.Proofs.YtfebegbjggoijaaGreatDoor
open Go.RowKit

section
variable (a : Option Addr) (c : Nat) (cs : List Ch) (wd side : Int) (w : World) [hrow : RowI w (.slice a cs.length c) true 2 (cs.map encCh)] [hT : TextI w cs] [hgs : At w 2 0 sidesC] [htn : At w 1 0 tornC] [hnn : At w 0 0 noneC]
set_option maxRecDepth 20000 in
set_option maxHeartbeats 8000000 in
theorem GalleySlips_law (hd : 0 ≤ side ∧ side ≤ 255) (h : Int) : Ct Tryz.prog 10 [.agg #[.slice a cs.length c], encCut wd side, .int .i64 h] w fun v _ => v = .bool true := by
  refine Ct.ofW (by simp) ?_
  (refine jjB ?_; refine jjC ?_)
  (refine jy rfl ?_; intro b3 w_b3 hb_b3 hs_b3 hS_b3 hk_b3; have hA_b3 := At.ofBlock hk_b3)
  skip
  (refine jy rfl ?_; intro b4 w_b4 hb_b4 hs_b4 hS_b4 hk_b4; have hA_b4 := At.ofBlock hk_b4)
  (apply jJ; exact eB rfl; refine jz ?_; refine jjB ?_; refine jjC ?_)
  refine jjQ (alive_law8 _) rfl rfl ?_
  rintro _ w3 hS3 rfl
  obtain ⟨R, hR⟩ : ∃ R, greatT (txF cs) = R := ⟨_, rfl⟩
  (apply jJ; exact eB rfl; refine jz ?_; refine jjB ?_; refine jjB ?_; refine jjC ?_; refine jO rfl rfl rfl rfl ?_)
  refine jjQ ((Great_ref1 a c cs _).mono fun v _ _ h => h.trans (by rw [hR])) rfl rfl ?_
  rintro _ w4 hS4 rfl
  cases R with
  | true =>
    (apply jI; exact eB rfl; refine jU rfl rfl rfl rfl ?_; refine jU rfl rfl rfl rfl ?_; refine jU rfl rfl rfl rfl ?_; apply jK rfl; exact eB rfl; apply jI; exact eB rfl; refine jU rfl rfl rfl rfl ?_; refine jU rfl rfl rfl rfl ?_; refine jU rfl rfl rfl rfl ?_; apply jK rfl; exact eB rfl; apply jI; exact eB rfl; refine jU rfl rfl rfl rfl ?_; refine jU rfl rfl rfl rfl ?_; apply jK rfl; exact eB rfl; apply jI; exact eB rfl; refine jU rfl rfl rfl rfl ?_; refine jU rfl rfl rfl rfl ?_; apply jK rfl; exact eB rfl; apply jI; exact eB rfl; refine jU rfl rfl rfl rfl ?_; refine jU rfl rfl rfl rfl ?_; apply jK rfl; exact eB rfl; refine jz ?_; refine jjJ rfl ?_; refine jjB ?_; refine jjC ?_; apply jI; exact eB rfl; apply jJ; exact eB rfl; refine jz ?_; refine jjF ?_; refine jB rfl rfl ⟨inferInstance, ?_⟩)
    exact rfl
  | false =>
  have hs := small_of_great hR
  obtain ⟨T, hTT⟩ : ∃ T, textB (txF cs) = T := ⟨_, rfl⟩
  (apply jI; exact eB rfl; refine jT rfl rfl rfl ?_; refine jO rfl rfl rfl rfl ?_; refine jT rfl rfl rfl ?_)
  refine jjQ ((Check_ref1 a c cs _ hs).mono fun v _ _ h => h.trans (by rw [hTT])) rfl rfl ?_
  rintro _ w5 hS5 rfl
  cases T with
  | false =>
    (refine jT rfl rfl rfl ?_; refine jc rfl rfl ?_; apply jL rfl; exact eB rfl; apply jI; exact eB rfl; refine jU rfl rfl rfl rfl ?_; refine jU rfl rfl rfl rfl ?_; refine jU rfl rfl rfl rfl ?_; apply jK rfl; exact eB rfl; apply jI; exact eB rfl; refine jU rfl rfl rfl rfl ?_; refine jU rfl rfl rfl rfl ?_; apply jK rfl; exact eB rfl; apply jI; exact eB rfl; refine jU rfl rfl rfl rfl ?_; refine jU rfl rfl rfl rfl ?_; apply jK rfl; exact eB rfl; apply jI; exact eB rfl; refine jU rfl rfl rfl rfl ?_; refine jU rfl rfl rfl rfl ?_; apply jK rfl; exact eB rfl; refine jz ?_; refine jjJ rfl ?_; refine jjB ?_; refine jjC ?_; apply jI; exact eB rfl; apply jJ; exact eB rfl; refine jz ?_; refine jjF ?_; refine jB rfl rfl ⟨inferInstance, ?_⟩)
    exact rfl
  | true =>
  obtain ⟨C, hC⟩ : ∃ C, cutB wd side = C := ⟨_, rfl⟩
  (refine jT rfl rfl rfl ?_; refine jc rfl rfl ?_; apply jL rfl; exact eB rfl; apply jI; exact eB rfl; refine jT rfl rfl rfl ?_; refine jO rfl rfl rfl rfl ?_; refine jT rfl rfl rfl ?_)
  refine jjQ ((Cut_ref3 wd side hd _).mono fun v _ _ h => h.trans (by rw [hC])) rfl rfl ?_
  rintro _ w6 hS6 rfl
  cases C with
  | false =>
    (refine jT rfl rfl rfl ?_; refine jq rfl ?_; apply jL rfl; exact eB rfl; apply jI; exact eB rfl; refine jU rfl rfl rfl rfl ?_; refine jU rfl rfl rfl rfl ?_; apply jK rfl; exact eB rfl; apply jI; exact eB rfl; refine jU rfl rfl rfl rfl ?_; refine jU rfl rfl rfl rfl ?_; apply jK rfl; exact eB rfl; apply jI; exact eB rfl; refine jU rfl rfl rfl rfl ?_; refine jU rfl rfl rfl rfl ?_; apply jK rfl; exact eB rfl; refine jz ?_; refine jjJ rfl ?_; refine jjB ?_; refine jjC ?_; apply jI; exact eB rfl; apply jJ; exact eB rfl; refine jz ?_; refine jjF ?_; refine jB rfl rfl ⟨inferInstance, ?_⟩)
    exact rfl
  | true =>
  by_cases h4 : h < 4
  · (refine jT rfl rfl rfl ?_; refine jp rfl ?_; apply jL rfl; exact eB rfl; apply jI; exact eB rfl; refine jT rfl rfl rfl ?_; apply jI; exact eI rfl; refine jT rfl rfl rfl ?_; refine jjZ rfl rfl (by omega) ?_; apply jL rfl; exact eB rfl; apply jI; exact eB rfl; refine jU rfl rfl rfl rfl ?_; refine jU rfl rfl rfl rfl ?_; apply jK rfl; exact eB rfl; apply jI; exact eB rfl; refine jU rfl rfl rfl rfl ?_; refine jU rfl rfl rfl rfl ?_; apply jK rfl; exact eB rfl; refine jz ?_; refine jjJ rfl ?_; refine jjB ?_; refine jjC ?_; apply jI; exact eB rfl; apply jJ; exact eB rfl; refine jz ?_; refine jjF ?_; refine jB rfl rfl ⟨inferInstance, ?_⟩)
    exact rfl
  by_cases h40 : 40 < h
  · (refine jT rfl rfl rfl ?_; refine jp rfl ?_; apply jL rfl; exact eB rfl; apply jI; exact eB rfl; refine jT rfl rfl rfl ?_; apply jI; exact eI rfl; refine jT rfl rfl rfl ?_; refine jja rfl rfl (by omega) ?_; apply jL rfl; exact eB rfl; apply jI; exact eB rfl; refine jT rfl rfl rfl ?_; apply jI; exact eI rfl; refine jT rfl rfl rfl ?_; refine jjd rfl rfl (by omega) ?_; apply jL rfl; exact eB rfl; apply jI; exact eB rfl; refine jU rfl rfl rfl rfl ?_; refine jU rfl rfl rfl rfl ?_; apply jK rfl; exact eB rfl; refine jz ?_; refine jjJ rfl ?_; refine jjB ?_; refine jjC ?_; apply jI; exact eB rfl; apply jJ; exact eB rfl; refine jz ?_; refine jjF ?_; refine jB rfl rfl ⟨inferInstance, ?_⟩)
    exact rfl
  have ha : askE (txF cs) wd side = 0 := askE_yes hTT hC
  have hin : inB 4 40 h = true := decide_eq_true ⟨by omega, by omega⟩
  have hF := all_words (wd := wd) (side := side) hTT hC
  have hwn : (wsOf (txF cs)).length = (allW (txF cs) (txF cs).length).length := by rw [wsOf, List.length_map]
  have hSl : (allS (txF cs) side wd).length = (allW (txF cs) (txF cs).length).length := by rw [allS_lenP, allW_len]
  have hsm := allW_small hTT
  have hblk := blk_places (wd := wd) (side := side) hTT hC
  have hsum := set_total (wd := wd) (side := side) hTT hC
  have hfit := galley_fit (ls := allS (txF cs) side wd) (ws := vocL (wsOf (txF cs))) hin (fun s hs => voc_word hTT hs) (voc_pos hTT)
  have hcnt := fun s => count_places (wd := wd) (side := side) hTT hC s
  have hvl := voc_len (wsOf (txF cs))
  have hvw := fun s (hs : s ∈ vocL (wsOf (txF cs))) => voc_word hTT hs
  have hvocR : vocR (txF cs) = (vocL (wsOf (txF cs)), 0) := by rw [vocR, if_pos hTT]
  obtain ⟨Y, hY⟩ : ∃ Y, galleyB h (blkL (allS (txF cs) side wd) (vocL (wsOf (txF cs)))) = Y := ⟨_, rfl⟩
  rw [hY] at hfit
  have hset : setR (txF cs) wd side h = if Y then ((h, blkL (allS (txF cs) side wd) (vocL (wsOf (txF cs)))), 0) else ((0, []), 4) := by
    cases Y with
    | true => exact setR_yes ha hin hY
    | false => exact setR_no ha hin hY
  simp only [hcnt] at hfit
  rw [hblk] at hset hsum hY
  rw [hwn] at hsum hvl
  have hallR : (allR (txF cs) wd side).length = (allW (txF cs) (txF cs).length).length := by rw [allR, if_pos ha]; exact hSl
  have hwR : wordsR (txF cs) = (((allW (txF cs) (txF cs).length).length : Int), 0) := by rw [wordsR, if_pos hTT]
  have hplR := fun s (hs : wordB s = true) => (show placesR (txF cs) s = (placesF (txF cs) s, 0) by rw [placesR, if_pos hTT, if_pos hs])
  have hple : ∀ s, (placesF (txF cs) s).length ≤ 600 := fun s => by rw [placesF, List.length_map]; exact Nat.le_trans (List.length_filter_le _ _) hsm
  obtain ⟨V, hV⟩ : ∃ V, vocL (wsOf (txF cs)) = V := ⟨_, rfl⟩
  rw [hV] at hset hsum hY hvl hvw hvocR hfit
  obtain ⟨n, hn⟩ : ∃ n, (allW (txF cs) (txF cs).length).length = n := ⟨_, rfl⟩
  rw [hn] at hallR hwR hsum hvl hsm
  obtain ⟨pl, hpl⟩ : ∃ pl : ByteArray → Nat, (fun s => (placesF (txF cs) s).length) = pl := ⟨_, rfl⟩
  have hpl' : ∀ s, (placesF (txF cs) s).length = pl s := fun s => congrFun hpl s
  simp only [hpl'] at hset hsum hY hfit hple
  clear hpl hcnt hblk hF hwn hSl hV hn
  (refine jT rfl rfl rfl ?_; refine jp rfl ?_; apply jL rfl; exact eB rfl; apply jI; exact eB rfl; refine jT rfl rfl rfl ?_; apply jI; exact eI rfl; refine jT rfl rfl rfl ?_; refine jja rfl rfl (by omega) ?_; apply jL rfl; exact eB rfl; apply jI; exact eB rfl; refine jT rfl rfl rfl ?_; apply jI; exact eI rfl; refine jT rfl rfl rfl ?_; refine jje rfl rfl (by omega) ?_; apply jL rfl; exact eB rfl; apply jI; exact eB rfl; refine jT rfl rfl rfl ?_; apply jI; exact eB rfl; refine jT rfl rfl rfl ?_; refine jp rfl ?_; apply jL rfl; exact eB rfl; refine jz ?_; refine jjK rfl ?_; refine jjG ?_; refine jjB ?_; refine jjC ?_; refine jO rfl rfl rfl rfl ?_; refine jO rfl rfl rfl rfl ?_; apply jI; exact eI rfl)
  refine jjQ ((Set_galley a c cs wd side _ hs hd h).mono fun v _ _ hh => by rw [hset] at hh; exact hh) rfl rfl ?_
  rintro _ w7 hS7 ⟨ga, gc, rfl, hRg⟩
  cases Y with
  | true =>
    obtain ⟨B, hB⟩ : ∃ B, V.map (fun s => (s, 1 + (pl s : Int))) = B := ⟨_, rfl⟩
    have hBl : B.length = V.length := by rw [← hB, List.length_map]
    have hBk : ∀ (k : Nat) (hk : k < B.length) (hk' : k < V.length), B[k] = (V[k], (pl V[k] : Int) + 1) := fun k hk hk' => by
      subst hB
      rw [List.getElem_map, Int.add_comm]
    rw [hB] at hsum hY
    rw [if_pos rfl, hB] at hRg ⊢
    have hRg' : RowV w7 true 2 (.slice ga B.length gc) (B.map encB) := hRg
    have ig : RowI w7 (.slice ga B.length gc) true 2 (B.map encB) := RowI.mk hRg'
    have hfit' := hfit.symm
    rw [Bool.and_eq_true, decide_eq_true_eq, List.all_eq_true] at hfit'
    obtain ⟨hV30, hpl9⟩ := hfit'
    have hbz : ∀ b ∈ B, b.1.size ≤ 140737488351232 := fun b hb => by
      rw [← hB] at hb
      obtain ⟨s, hs1, rfl⟩ := List.mem_map.1 hb
      have := hvw s hs1
      simp only [wordB, Bool.and_eq_true, decide_eq_true_eq] at this
      show s.size ≤ _
      omega
    (apply jI; exact eU rfl; refine ju rfl rfl ?_; refine ju rfl rfl ?_)
    (apply jjR rfl; (intro _; first|exact eI rfl|exact eB rfl|exact eP rfl|exact eS rfl|exact eT rfl|exact eA rfl|exact eU rfl|exact eF rfl|exact eM rfl|exact eN rfl|exact rfl); exact rfl; exact rfl; exact rfl; exact rfl; intro b8 w_b8 hb_b8 hs_b8 hS_b8 hk_b8; have hA_b8 := Bk.of hk_b8)
    have hA8 : At w_b8 b8 0 [.int .i64 h, .slice ga B.length gc] := Bk.toAt (h := hA_b8)
    (apply jJ; exact eI rfl; refine jz ?_; refine jjB ?_; refine jjC ?_; refine jO rfl rfl rfl rfl ?_)
    refine jjQ ((Vocabulary_leaf a c cs _ hs).mono (R' := fun v w' => ∃ va vc, v = .tuple #[.slice va V.length vc, .int .i64 0] ∧ RowV w' false 1 (.slice va V.length vc) (V.map strV)) fun v _ _ hh => ?_) rfl rfl ?_
    · rw [hvocR] at hh
      obtain ⟨sv, rfl, hO⟩ := hh
      obtain ⟨va, vc, e⟩ := hO.slice
      rw [List.length_map] at e
      subst e
      exact ⟨va, vc, rfl, hO.row⟩
    rintro _ w9 hS9 ⟨va, vc, rfl, hOv⟩
    have iv : RowI w9 (.slice va V.length vc) false 1 (V.map strV) := RowI.mk hOv
    (apply jI; exact eU rfl; refine ju rfl rfl ?_; refine ju rfl rfl ?_; apply jJ; exact eS rfl; apply jJ; exact eI rfl; refine jz ?_; refine jjB ?_; refine jjC ?_; refine jO rfl rfl rfl rfl ?_)
    refine jjQ ((Words_leaf a c cs _ hs).mono (R' := fun v _ => v = .tuple #[.int .i64 (n : Int), .int .i64 0]) fun v _ _ hh => hh.trans (by rw [hwR])) rfl rfl ?_
    rintro _ w10 hS10 rfl
    (apply jI; exact eU rfl; refine ju rfl rfl ?_; refine ju rfl rfl ?_; apply jJ; exact eI rfl; apply jJ; exact eI rfl; refine jz ?_; refine jjB ?_; refine jjC ?_; refine jO rfl rfl rfl rfl ?_; refine jO rfl rfl rfl rfl ?_)
    refine jjQ ((All_slip a c cs wd side _ hs hd).mono (R' := fun v w' => ∃ la lc, v = .tuple #[.slice la n lc, .int .i64 0]) fun v _ _ hh => ?_) rfl rfl ?_
    · obtain ⟨sv, rfl, hO⟩ := hh
      obtain ⟨la, lc, e⟩ := hO.slice
      rw [List.length_map, hallR] at e
      exact ⟨la, lc, by rw [e, ha]⟩
    rintro _ w11 hS11 ⟨la, lc, rfl⟩
    have hE11 : Ext w w11 := inferInstance
    have hx3 : At w11 b3 0 [.slice a cs.length c] := inferInstance
    have hx8 : At w11 b8 0 [.int .i64 h, .slice ga B.length gc] := inferInstance
    have ir : RowI w11 (.slice a cs.length c) true 2 (cs.map encCh) := inferInstance
    have hT' : TextI w11 cs := inferInstance
    have iv' : RowI w11 (.slice va V.length vc) false 1 (V.map strV) := inferInstance
    have ig' : RowI w11 (.slice ga B.length gc) true 2 (B.map encB) := inferInstance
    have htn' : At w11 1 0 tornC := inferInstance
    (apply jI; exact eU rfl; refine ju rfl rfl ?_; refine ju rfl rfl ?_; apply jJ; exact eS rfl; apply jJ; exact eI rfl; refine jz ?_; refine jjB ?_; refine jjB ?_; refine jjC ?_; apply jI; exact eI rfl; refine jjk rfl rfl (by omega) ?_; apply jI; exact eB rfl; refine jT rfl rfl rfl ?_; apply jI; exact eI rfl; refine jT rfl rfl rfl ?_; refine jjk rfl rfl (by omega) ?_; apply jL rfl; exact eB rfl; apply jI; exact eB rfl; refine jT rfl rfl rfl ?_; apply jI; exact eI rfl; refine jT rfl rfl rfl ?_; refine jjk rfl rfl (by omega) ?_; apply jL rfl; exact eB rfl; apply jI; exact eB rfl; refine jT rfl rfl rfl ?_; apply jI; exact eS rfl; refine jT rfl rfl rfl ?_; refine jh rfl ?_; refine jT rfl rfl rfl ?_; apply jI; exact eI rfl; refine jT rfl rfl rfl ?_; refine jjk rfl rfl (by omega) ?_; apply jL rfl; exact eB rfl; refine jz ?_; refine jjK rfl ?_; refine jjG ?_; refine jjB ?_; refine jjC ?_; apply jI; exact eS rfl; refine jh rfl ?_; refine jje rfl rfl (by omega) ?_; apply jJ; exact eB rfl; refine jz ?_; refine jjB ?_; refine jjB ?_; refine jjC ?_; apply jI; exact eS rfl; refine jh rfl ?_; apply jI; exact eI rfl; refine jz ?_; refine jjD ?_)
    clear hset hfit ig iv hOv hRg hRg' hA_b8 hA8 hS3 hS4 hS5 hS6 hS7 hS9 hS10 hS11
    refine W.keep0 [(2, .int .i64 h), (3, .pointer (some ⟨b3, 0, none⟩)), (7, .bool true), (8, .pointer (some ⟨b8, 0, none⟩)), (9, .int .i64 0), (10, .slice va V.length vc), (12, .int .i64 (n : Int)), (16, .bool false), (91, .slice va V.length vc), (92, .int .i64 (V.length : Int)), (93, .int .i64 ((0 : Nat) : Int))] ⟨eI rfl, eP rfl, eB rfl, eP rfl, eI rfl, eS rfl, eI rfl, eB rfl, eS rfl, eI rfl, eI rfl, trivial⟩ fun s0 => ?_
    refine W.loop (94 :: 95 :: 96 :: 97 :: 17 :: 18 :: 99 :: 100 :: 101 :: 98 :: 102 :: 103 :: 19 :: 20 :: 104 :: 105 :: 6 :: 106 :: 107 :: 108 :: 109 :: 110 :: 111 :: 112 :: 16 :: 113 :: 114 :: 115 :: 116 :: 117 :: 118 :: 119 :: 120 :: 121 :: 122 :: 123 :: 124 :: 125 :: 126 :: 127 :: 128 :: 129 :: 130 :: 131 :: 132 :: 133 :: 134 :: 135 :: 93 :: []) (fun g s' W' => ∃ k : Nat, s' 93 = .int .i64 ((k : Nat) : Int) ∧ s' 16 = .bool false ∧ g = V.length - k ∧ k ≤ V.length) V.length ⟨0, rfl, rfl, rfl, Nat.zero_le _⟩ ?_
    rintro _ sd W1 hSW ⟨k, h93, h16, rfl, hk⟩
    refine W.fix (d := 93) h93 (W.fix (d := 16) h16 ?_)
    clear h93 h16
    by_cases hk3 : k < V.length
    · have hwk := hvw V[k] (List.getElem_mem hk3)
      have hsz : V[k].size ≤ 1000 := by
        simp only [wordB, Bool.and_eq_true, decide_eq_true_eq] at hwk
        omega
      have hp9 : pl V[k] ≤ 19 := by have := hpl9 V[k] (List.getElem_mem hk3); simpa using this
      have hb := hBk k (by omega) hk3
      have hpr := hplR V[k] hwk
      have hpk := hpl' V[k]
      (refine jjB ?_; refine jjC ?_; refine jjZ rfl rfl (by omega) ?_; refine jz ?_; refine jjB ?_; refine jjJ rfl ?_; refine jjG ?_; refine jjB ?_; refine jjD ?_; refine jjB ?_; refine jjC ?_; apply jI; exact eI rfl; refine jF rfl rfl rfl (map_get (by omega)) ?_; intro _ _ _; refine jQ rfl rfl ?_; apply jJ; exact eI rfl; apply jJ; exact eT rfl; refine jz ?_; refine jjB ?_; refine jjC ?_; refine jO rfl rfl rfl rfl ?_; apply jI; exact eT rfl)
      refine jjQ ((Places_leaf a c cs _ hs V[k] hsz).mono (R' := fun v w' => ∃ pa pc, v = .tuple #[.slice pa (pl V[k]) pc, .int .i64 0]) fun v _ _ hh => ?_) rfl rfl ?_
      · obtain ⟨sv, rfl, hO⟩ := hh
        rw [hpr] at hO ⊢
        obtain ⟨pa, pc, e⟩ := hO.slice
        rw [List.length_map, hpk] at e
        exact ⟨pa, pc, by rw [e]⟩
      rintro _ w12 hS12 ⟨pa, pc, rfl⟩
      (apply jI; exact eU rfl; refine ju rfl rfl ?_; refine ju rfl rfl ?_; apply jJ; exact eS rfl; apply jJ; exact eI rfl; refine jz ?_; refine jjB ?_; refine jjB ?_; refine jjC ?_; apply jI; exact eI rfl; refine jjk rfl rfl (by omega) ?_; refine jz ?_; refine jjK rfl ?_; refine jjG ?_; refine jjB ?_; refine jjC ?_; apply jI; exact eB rfl; apply jI; exact eB rfl; refine jT rfl rfl rfl ?_; apply jI; exact eS rfl; refine jT rfl rfl rfl ?_; refine jh rfl ?_; refine jT rfl rfl rfl ?_; refine jY rfl rfl (by omega) ?_; refine jT rfl rfl rfl ?_; refine jje rfl rfl (by omega) ?_; apply jL rfl; exact eB rfl; apply jJ; exact eB rfl; refine jz ?_; refine jjB ?_; refine jjC ?_; apply jI; exact eI rfl; refine jjh rfl rfl (by omega) ?_; apply jI; exact eB rfl; refine jT rfl rfl rfl ?_; apply jI; exact eI rfl; refine jT rfl rfl rfl ?_; refine jm ?_; refine jn rfl ?_; refine jT rfl rfl rfl ?_; refine jN rfl rfl rfl ?_; refine jT rfl rfl rfl ?_; refine jh rfl ?_; refine jT rfl rfl rfl ?_; refine jjg rfl rfl (by omega) ?_; refine jT rfl rfl rfl ?_; apply jI; exact eB rfl; refine jT rfl rfl rfl ?_; refine jm ?_; refine jn rfl ?_; refine jT rfl rfl rfl ?_; refine jN rfl rfl rfl ?_; refine jT rfl rfl rfl ?_; apply jI; exact eI rfl; refine jT rfl rfl rfl ?_; refine jF rfl rfl rfl (map_get (by omega)) ?_; intro _ _ _; refine jT rfl rfl rfl ?_; refine jQ rfl rfl ?_; refine jT rfl rfl rfl ?_; apply jI; exact eT rfl; refine jT rfl rfl rfl ?_; apply jI; exact eS rfl; refine jT rfl rfl rfl ?_; refine jh rfl ?_; refine jT rfl rfl rfl ?_; refine jY rfl rfl (by omega) ?_; refine jT rfl rfl rfl ?_)
      rw [hb]
      (refine jjS (cells := [.string V[k], .int .i64 ((pl V[k] : Int) + 1)]) ?_ ?_; exact rfl)
      (refine jT rfl rfl rfl ?_)
      refine Ops.neqTN (enc := encSI) (V[k], (pl V[k] : Int) + 1) rfl rfl ?_
      (refine jT rfl rfl rfl ?_; apply jL rfl; exact eB rfl; apply jK rfl; exact eB rfl; refine jz ?_; refine jjK rfl ?_; refine jjG ?_; refine jjC ?_; refine jY rfl rfl (by omega) ?_; apply jI; exact eI rfl; refine jz ?_)
      exact ⟨rfl, by ((refine Same.upd rfl ?_; refine Same.upd rfl ?_; refine Same.upd rfl ?_; refine Same.upd rfl ?_; refine Same.upd rfl ?_; refine Same.upd rfl ?_; refine Same.upd rfl ?_; refine Same.upd rfl ?_; refine Same.upd rfl ?_; refine Same.upd rfl ?_; refine Same.upd rfl ?_; refine Same.upd rfl ?_; refine Same.upd rfl ?_; refine Same.upd rfl ?_; refine Same.upd rfl ?_; refine Same.upd rfl ?_; refine Same.upd rfl ?_; refine Same.upd rfl ?_; refine Same.upd rfl ?_; refine Same.upd rfl ?_; refine Same.upd rfl ?_; refine Same.upd rfl ?_; refine Same.upd rfl ?_; refine Same.upd rfl ?_; refine Same.upd rfl ?_; refine Same.upd rfl ?_; refine Same.upd rfl ?_; refine Same.upd rfl ?_; refine Same.upd rfl ?_; refine Same.upd rfl ?_; refine Same.upd rfl ?_; refine Same.upd rfl ?_; refine Same.upd rfl ?_; refine Same.upd rfl ?_; refine Same.upd rfl ?_; refine Same.upd rfl ?_; refine Same.upd rfl ?_; refine Same.upd rfl ?_; refine Same.upd rfl ?_; refine Same.upd rfl ?_; refine Same.upd rfl ?_; refine Same.upd rfl ?_; refine Same.upd rfl ?_; refine Same.upd rfl ?_; refine Same.upd rfl ?_; refine Same.upd rfl ?_; refine Same.upd rfl ?_; refine Same.upd rfl ?_; refine Same.upd rfl ?_; refine Same.upd rfl ?_; exact Same.ovN)), V.length - (k + 1), by omega, inferInstance, k + 1, congrArg (Value.int .i64) (by omega), rfl, rfl, by omega⟩
    obtain rfl : k = V.length := by omega
    have hlz : lastZ (endsF 0 B) = sumL B := lastZ_ends (galley_yes hY).2.2.1 (galley_yes hY).2.1.1
    have hge : gErr h B = 0 := by rw [gErr, hY]; rfl
    (refine jjB ?_; refine jjC ?_; refine jja rfl rfl (by omega) ?_; refine jz ?_; refine jjB ?_; refine jjK rfl ?_; refine jjE ?_; refine jjB ?_; refine jjB ?_; refine jjC ?_; apply jI; exact eI rfl; refine jjk rfl rfl (by omega) ?_; refine jz ?_; refine jjK rfl ?_; refine jjG ?_; refine jjB ?_; refine jjC ?_; refine jO rfl rfl rfl rfl ?_)
    refine jjQ ((Total_galley h ga gc B _ (ig'.h.ext inferInstance) hbz (htn'.ext inferInstance)).mono (R' := fun v _ => v = .tuple #[.int .i64 ((n : Int) + (V.length : Int)), .int .i64 0]) fun v _ _ hh => hh.trans (by rw [if_pos hY, hlz, hge, hsum])) rfl rfl ?_
    rintro _ w14 hS14 rfl
    (apply jI; exact eU rfl; refine ju rfl rfl ?_; refine ju rfl rfl ?_; apply jJ; exact eI rfl; apply jJ; exact eI rfl; refine jz ?_; refine jjB ?_; refine jjC ?_; apply jI; exact eB rfl; apply jI; exact eB rfl; refine jT rfl rfl rfl ?_; apply jI; exact eB rfl; refine jT rfl rfl rfl ?_; refine jq rfl ?_; apply jK rfl; exact eB rfl; apply jI; exact eB rfl; refine jT rfl rfl rfl ?_; refine jm ?_; refine jn rfl ?_; refine jT rfl rfl rfl ?_; refine jN rfl rfl rfl ?_; refine jT rfl rfl rfl ?_; refine jh rfl ?_; refine jT rfl rfl rfl ?_; apply jI; exact eS rfl; refine jT rfl rfl rfl ?_; refine jh rfl ?_; refine jT rfl rfl rfl ?_; refine jjh rfl rfl (by omega) ?_; apply jK rfl; exact eB rfl; apply jI; exact eB rfl; refine jT rfl rfl rfl ?_; refine jm ?_; refine jn rfl ?_; refine jT rfl rfl rfl ?_; refine jN rfl rfl rfl ?_; refine jT rfl rfl rfl ?_; apply jI; exact eI rfl; refine jT rfl rfl rfl ?_; refine jjh rfl rfl (by omega) ?_; apply jK rfl; exact eB rfl; apply jI; exact eB rfl; refine jT rfl rfl rfl ?_; apply jI; exact eI rfl; refine jT rfl rfl rfl ?_; refine jjh rfl rfl (by omega) ?_; apply jK rfl; exact eB rfl; apply jI; exact eB rfl; refine jT rfl rfl rfl ?_; apply jI; exact eI rfl; refine jT rfl rfl rfl ?_; apply jI; exact eI rfl; refine jT rfl rfl rfl ?_; apply jI; exact eS rfl; refine jT rfl rfl rfl ?_; refine jh rfl ?_; refine jT rfl rfl rfl ?_; refine jY rfl rfl (by omega) ?_; refine jT rfl rfl rfl ?_; refine jjh rfl rfl (by omega) ?_; apply jK rfl; exact eB rfl; apply jJ; exact eB rfl; refine jz ?_; refine jjF ?_; refine jB rfl rfl ⟨inferInstance, ?_⟩)
    exact rfl
  | false =>
    rw [if_neg Bool.false_ne_true] at hRg ⊢
    (apply jI; exact eU rfl; refine ju rfl rfl ?_; refine ju rfl rfl ?_)
    (apply jjR rfl; (intro _; first|exact eI rfl|exact eB rfl|exact eP rfl|exact eS rfl|exact eT rfl|exact eA rfl|exact eU rfl|exact eF rfl|exact eM rfl|exact eN rfl|exact rfl); exact rfl; exact rfl; exact rfl; exact rfl; intro b8 w_b8 hb_b8 hs_b8 hS_b8 hk_b8; have hA_b8 := Bk.of hk_b8)
    have hA8 : At w_b8 b8 0 [.int .i64 0, .slice ga 0 gc] := Bk.toAt (h := hA_b8)
    (apply jJ; exact eI rfl; refine jz ?_; refine jjB ?_; refine jjC ?_; refine jO rfl rfl rfl rfl ?_)
    refine jjQ ((Vocabulary_leaf a c cs _ hs).mono (R' := fun v w' => ∃ va vc, v = .tuple #[.slice va V.length vc, .int .i64 0] ∧ RowV w' false 1 (.slice va V.length vc) (V.map strV)) fun v _ _ hh => ?_) rfl rfl ?_
    · rw [hvocR] at hh
      obtain ⟨sv, rfl, hO⟩ := hh
      obtain ⟨va, vc, e⟩ := hO.slice
      rw [List.length_map] at e
      subst e
      exact ⟨va, vc, rfl, hO.row⟩
    rintro _ w9 hS9 ⟨va, vc, rfl, hOv⟩
    have iv : RowI w9 (.slice va V.length vc) false 1 (V.map strV) := RowI.mk hOv
    (apply jI; exact eU rfl; refine ju rfl rfl ?_; refine ju rfl rfl ?_; apply jJ; exact eS rfl; apply jJ; exact eI rfl; refine jz ?_; refine jjB ?_; refine jjC ?_; refine jO rfl rfl rfl rfl ?_)
    refine jjQ ((Words_leaf a c cs _ hs).mono (R' := fun v _ => v = .tuple #[.int .i64 (n : Int), .int .i64 0]) fun v _ _ hh => hh.trans (by rw [hwR])) rfl rfl ?_
    rintro _ w10 hS10 rfl
    (apply jI; exact eU rfl; refine ju rfl rfl ?_; refine ju rfl rfl ?_; apply jJ; exact eI rfl; apply jJ; exact eI rfl; refine jz ?_; refine jjB ?_; refine jjC ?_; refine jO rfl rfl rfl rfl ?_; refine jO rfl rfl rfl rfl ?_)
    refine jjQ ((All_slip a c cs wd side _ hs hd).mono (R' := fun v w' => ∃ la lc, v = .tuple #[.slice la n lc, .int .i64 0]) fun v _ _ hh => ?_) rfl rfl ?_
    · obtain ⟨sv, rfl, hO⟩ := hh
      obtain ⟨la, lc, e⟩ := hO.slice
      rw [List.length_map, hallR] at e
      exact ⟨la, lc, by rw [e, ha]⟩
    rintro _ w11 hS11 ⟨la, lc, rfl⟩
    have hE11 : Ext w w11 := inferInstance
    have hx3 : At w11 b3 0 [.slice a cs.length c] := inferInstance
    have hx8 : At w11 b8 0 [.int .i64 0, .slice ga 0 gc] := inferInstance
    have ir : RowI w11 (.slice a cs.length c) true 2 (cs.map encCh) := inferInstance
    have hT' : TextI w11 cs := inferInstance
    have iv' : RowI w11 (.slice va V.length vc) false 1 (V.map strV) := inferInstance
    have hM1 : 30 < V.length ∨ ∃ j, ∃ hj : j < V.length, 19 < pl V[j] := by
      refine Classical.byContradiction fun hn => ?_
      have : (decide (V.length ≤ 30) && V.all fun w => decide (pl w ≤ 19)) = true := by
        rw [Bool.and_eq_true, decide_eq_true_eq, List.all_eq_true]
        refine ⟨Nat.le_of_not_lt fun h => hn (.inl h), fun x hx => ?_⟩
        obtain ⟨j, hj, rfl⟩ := List.getElem_of_mem hx
        exact decide_eq_true (Nat.le_of_not_lt fun h => hn (.inr ⟨j, hj, h⟩))
      rw [← hfit] at this
      cases this
    obtain ⟨M0, hM0⟩ : ∃ M0, decide (30 < (V.length : Int)) = M0 := ⟨_, rfl⟩
    (apply jI; exact eU rfl; refine ju rfl rfl ?_; refine ju rfl rfl ?_; apply jJ; exact eS rfl; apply jJ; exact eI rfl; refine jz ?_; refine jjB ?_; refine jjB ?_; refine jjC ?_; apply jI; exact eI rfl; refine jjk rfl rfl (by omega) ?_; apply jI; exact eB rfl; refine jT rfl rfl rfl ?_; apply jI; exact eI rfl; refine jT rfl rfl rfl ?_; refine jjk rfl rfl (by omega) ?_; apply jL rfl; exact eB rfl; apply jI; exact eB rfl; refine jT rfl rfl rfl ?_; apply jI; exact eI rfl; refine jT rfl rfl rfl ?_; refine jjk rfl rfl (by omega) ?_; apply jL rfl; exact eB rfl; apply jI; exact eB rfl; refine jT rfl rfl rfl ?_; apply jI; exact eS rfl; refine jT rfl rfl rfl ?_; refine jh rfl ?_; refine jT rfl rfl rfl ?_; apply jI; exact eI rfl; refine jT rfl rfl rfl ?_; refine jjk rfl rfl (by omega) ?_; apply jL rfl; exact eB rfl; refine jz ?_; refine jjK rfl ?_; refine jjG ?_; refine jjB ?_; refine jjC ?_; apply jI; exact eS rfl; refine jh rfl ?_; refine je rfl rfl ?_; apply jJ; exact eB rfl; refine jz ?_; refine jjB ?_; refine jjB ?_; refine jjC ?_; apply jI; exact eS rfl; refine jh rfl ?_; apply jI; exact eI rfl; refine jz ?_; refine jjD ?_)
    rw [hM0]
    skip
    clear hset hfit hY iv hOv hRg hA_b8 hA8 hS3 hS4 hS5 hS6 hS7 hS9 hS10 hS11
    refine W.keep0 [(2, .int .i64 h), (3, .pointer (some ⟨b3, 0, none⟩)), (7, .bool true), (8, .pointer (some ⟨b8, 0, none⟩)), (9, .int .i64 4), (10, .slice va V.length vc), (12, .int .i64 (n : Int)), (16, .bool M0), (91, .slice va V.length vc), (92, .int .i64 (V.length : Int)), (93, .int .i64 ((0 : Nat) : Int))] ⟨eI rfl, eP rfl, eB rfl, eP rfl, eI rfl, eS rfl, eI rfl, eB rfl, eS rfl, eI rfl, eI rfl, trivial⟩ fun s0 => ?_
    refine W.loop (94 :: 95 :: 96 :: 97 :: 17 :: 18 :: 99 :: 100 :: 101 :: 98 :: 102 :: 103 :: 19 :: 20 :: 104 :: 105 :: 6 :: 106 :: 107 :: 108 :: 109 :: 110 :: 111 :: 112 :: 16 :: 113 :: 114 :: 115 :: 116 :: 117 :: 118 :: 119 :: 120 :: 121 :: 122 :: 123 :: 124 :: 125 :: 126 :: 127 :: 128 :: 129 :: 130 :: 131 :: 132 :: 133 :: 134 :: 135 :: 93 :: []) (fun g s' W' => ∃ (k : Nat) (M : Bool), s' 93 = .int .i64 ((k : Nat) : Int) ∧ s' 16 = .bool M ∧ g = V.length - k ∧ k ≤ V.length ∧ (30 < V.length → M = true) ∧ ∀ j (hj : j < V.length), j < k → 19 < pl V[j] → M = true) V.length ⟨0, M0, rfl, rfl, rfl, Nat.zero_le _, fun hh => by rw [← hM0]; exact decide_eq_true (by omega), fun j _ hj => absurd hj (Nat.not_lt_zero _)⟩ ?_
    rintro _ sd W1 hSW ⟨k, M, h93, h16, rfl, hk, hMa, hMb⟩
    refine W.fix (d := 93) h93 (W.fix (d := 16) h16 ?_)
    clear h93 h16
    by_cases hk3 : k < V.length
    · have hwk := hvw V[k] (List.getElem_mem hk3)
      have hsz : V[k].size ≤ 1000 := by
        simp only [wordB, Bool.and_eq_true, decide_eq_true_eq] at hwk
        omega
      have hpr := hplR V[k] hwk
      have hpk := hpl' V[k]
      have hplk := hple V[k]
      have hnext : ∀ M' : Bool, (M = true → M' = true) → (19 < pl V[k] → M' = true) → ∀ j (hj : j < V.length), j < k + 1 → 19 < pl V[j] → M' = true := fun M' h1 h2 j hj hjk hp => by
        by_cases e : j = k
        · subst e; exact h2 hp
        · exact h1 (hMb j hj (by omega) hp)
      (refine jjB ?_; refine jjC ?_; refine jjZ rfl rfl (by omega) ?_; refine jz ?_; refine jjB ?_; refine jjJ rfl ?_; refine jjG ?_; refine jjB ?_; refine jjD ?_; refine jjB ?_; refine jjC ?_; apply jI; exact eI rfl; refine jF rfl rfl rfl (map_get (by omega)) ?_; intro _ _ _; refine jQ rfl rfl ?_; apply jJ; exact eI rfl; apply jJ; exact eT rfl; refine jz ?_; refine jjB ?_; refine jjC ?_; refine jO rfl rfl rfl rfl ?_; apply jI; exact eT rfl)
      refine jjQ ((Places_leaf a c cs _ hs V[k] hsz).mono (R' := fun v w' => ∃ pa pc, v = .tuple #[.slice pa (pl V[k]) pc, .int .i64 0]) fun v _ _ hh => ?_) rfl rfl ?_
      · obtain ⟨sv, rfl, hO⟩ := hh
        rw [hpr] at hO ⊢
        obtain ⟨pa, pc, e⟩ := hO.slice
        rw [List.length_map, hpk] at e
        exact ⟨pa, pc, by rw [e]⟩
      rintro _ w12 hS12 ⟨pa, pc, rfl⟩
      cases M with
      | true =>
        (apply jI; exact eU rfl; refine ju rfl rfl ?_; refine ju rfl rfl ?_; apply jJ; exact eS rfl; apply jJ; exact eI rfl; refine jz ?_; refine jjB ?_; refine jjB ?_; refine jjC ?_; apply jI; exact eI rfl; refine jjk rfl rfl (by omega) ?_; refine jz ?_; refine jjK rfl ?_; refine jjG ?_; refine jjB ?_; refine jjC ?_; apply jI; exact eB rfl; apply jI; exact eB rfl; refine jU rfl rfl rfl rfl ?_; refine jU rfl rfl rfl rfl ?_; refine jU rfl rfl rfl rfl ?_; refine jU rfl rfl rfl rfl ?_; apply jK rfl; exact eB rfl; apply jJ; exact eB rfl; refine jz ?_; refine jjB ?_; refine jjC ?_; apply jI; exact eI rfl; refine jji rfl rfl (by omega) ?_; apply jI; exact eB rfl; refine jU rfl rfl rfl rfl ?_; refine jU rfl rfl rfl rfl ?_; refine jU rfl rfl rfl rfl ?_; refine jU rfl rfl rfl rfl ?_; refine jU rfl rfl rfl rfl ?_; refine jU rfl rfl rfl rfl ?_; refine jV rfl rfl ?_; refine jV rfl rfl ?_; refine jV rfl rfl ?_; refine jV rfl rfl ?_; refine jV rfl rfl ?_; refine jV rfl rfl ?_; refine jV rfl rfl ?_; refine jV rfl rfl ?_; refine jV rfl rfl ?_; refine jV rfl rfl ?_; refine jV rfl rfl ?_; refine jU rfl rfl rfl rfl ?_; apply jL rfl; exact eB rfl; refine jz ?_; refine jjK rfl ?_; refine jjG ?_; refine jjC ?_; refine jY rfl rfl (by omega) ?_; apply jI; exact eI rfl; refine jz ?_)
        exact ⟨rfl, by ((refine Same.upd rfl ?_; refine Same.upd rfl ?_; refine Same.upd rfl ?_; refine Same.upd rfl ?_; refine Same.upd rfl ?_; refine Same.upd rfl ?_; refine Same.upd rfl ?_; refine Same.upd rfl ?_; refine Same.upd rfl ?_; refine Same.upd rfl ?_; refine Same.upd rfl ?_; refine Same.upd rfl ?_; refine Same.upd rfl ?_; refine Same.upd rfl ?_; refine Same.upd rfl ?_; refine Same.upd rfl ?_; refine Same.upd rfl ?_; refine Same.upd rfl ?_; refine Same.upd rfl ?_; refine Same.upd rfl ?_; refine Same.upd rfl ?_; refine Same.upd rfl ?_; refine Same.upd rfl ?_; refine Same.upd rfl ?_; refine Same.upd rfl ?_; refine Same.upd rfl ?_; refine Same.upd rfl ?_; refine Same.upd rfl ?_; refine Same.upd rfl ?_; refine Same.upd rfl ?_; refine Same.upd rfl ?_; refine Same.upd rfl ?_; refine Same.upd rfl ?_; refine Same.upd rfl ?_; refine Same.upd rfl ?_; refine Same.upd rfl ?_; refine Same.upd rfl ?_; refine Same.upd rfl ?_; refine Same.upd rfl ?_; refine Same.upd rfl ?_; refine Same.upd rfl ?_; refine Same.upd rfl ?_; refine Same.upd rfl ?_; refine Same.upd rfl ?_; refine Same.upd rfl ?_; refine Same.upd rfl ?_; refine Same.upd rfl ?_; refine Same.upd rfl ?_; refine Same.upd rfl ?_; refine Same.upd rfl ?_; exact Same.ovN)), V.length - (k + 1), by omega, inferInstance, k + 1, true, congrArg (Value.int .i64) (by omega), rfl, rfl, by omega, fun _ => rfl, hnext true (fun h => h) fun _ => rfl⟩
      | false =>
        by_cases hp : 19 < pl V[k]
        · (apply jI; exact eU rfl; refine ju rfl rfl ?_; refine ju rfl rfl ?_; apply jJ; exact eS rfl; apply jJ; exact eI rfl; refine jz ?_; refine jjB ?_; refine jjB ?_; refine jjC ?_; apply jI; exact eI rfl; refine jjk rfl rfl (by omega) ?_; refine jz ?_; refine jjK rfl ?_; refine jjG ?_; refine jjB ?_; refine jjC ?_; apply jI; exact eB rfl; apply jI; exact eB rfl; refine jT rfl rfl rfl ?_; apply jI; exact eS rfl; refine jT rfl rfl rfl ?_; refine jh rfl ?_; refine jT rfl rfl rfl ?_; refine jY rfl rfl (by omega) ?_; refine jT rfl rfl rfl ?_; refine jjd rfl rfl (by omega) ?_; apply jL rfl; exact eB rfl; apply jJ; exact eB rfl; refine jz ?_; refine jjB ?_; refine jjC ?_; apply jI; exact eI rfl; refine jji rfl rfl (by omega) ?_; apply jI; exact eB rfl; refine jU rfl rfl rfl rfl ?_; refine jU rfl rfl rfl rfl ?_; refine jU rfl rfl rfl rfl ?_; refine jU rfl rfl rfl rfl ?_; refine jU rfl rfl rfl rfl ?_; refine jU rfl rfl rfl rfl ?_; refine jV rfl rfl ?_; refine jV rfl rfl ?_; refine jV rfl rfl ?_; refine jV rfl rfl ?_; refine jV rfl rfl ?_; refine jV rfl rfl ?_; refine jV rfl rfl ?_; refine jV rfl rfl ?_; refine jV rfl rfl ?_; refine jV rfl rfl ?_; refine jV rfl rfl ?_; refine jU rfl rfl rfl rfl ?_; apply jL rfl; exact eB rfl; refine jz ?_; refine jjK rfl ?_; refine jjG ?_; refine jjC ?_; refine jY rfl rfl (by omega) ?_; apply jI; exact eI rfl; refine jz ?_)
          exact ⟨rfl, by ((refine Same.upd rfl ?_; refine Same.upd rfl ?_; refine Same.upd rfl ?_; refine Same.upd rfl ?_; refine Same.upd rfl ?_; refine Same.upd rfl ?_; refine Same.upd rfl ?_; refine Same.upd rfl ?_; refine Same.upd rfl ?_; refine Same.upd rfl ?_; refine Same.upd rfl ?_; refine Same.upd rfl ?_; refine Same.upd rfl ?_; refine Same.upd rfl ?_; refine Same.upd rfl ?_; refine Same.upd rfl ?_; refine Same.upd rfl ?_; refine Same.upd rfl ?_; refine Same.upd rfl ?_; refine Same.upd rfl ?_; refine Same.upd rfl ?_; refine Same.upd rfl ?_; refine Same.upd rfl ?_; refine Same.upd rfl ?_; refine Same.upd rfl ?_; refine Same.upd rfl ?_; refine Same.upd rfl ?_; refine Same.upd rfl ?_; refine Same.upd rfl ?_; refine Same.upd rfl ?_; refine Same.upd rfl ?_; refine Same.upd rfl ?_; refine Same.upd rfl ?_; refine Same.upd rfl ?_; refine Same.upd rfl ?_; refine Same.upd rfl ?_; refine Same.upd rfl ?_; refine Same.upd rfl ?_; refine Same.upd rfl ?_; refine Same.upd rfl ?_; refine Same.upd rfl ?_; refine Same.upd rfl ?_; refine Same.upd rfl ?_; refine Same.upd rfl ?_; refine Same.upd rfl ?_; refine Same.upd rfl ?_; refine Same.upd rfl ?_; refine Same.upd rfl ?_; refine Same.upd rfl ?_; refine Same.upd rfl ?_; exact Same.ovN)), V.length - (k + 1), by omega, inferInstance, k + 1, true, congrArg (Value.int .i64) (by omega), rfl, rfl, by omega, fun _ => rfl, hnext true (fun _ => rfl) fun _ => rfl⟩
        · (apply jI; exact eU rfl; refine ju rfl rfl ?_; refine ju rfl rfl ?_; apply jJ; exact eS rfl; apply jJ; exact eI rfl; refine jz ?_; refine jjB ?_; refine jjB ?_; refine jjC ?_; apply jI; exact eI rfl; refine jjk rfl rfl (by omega) ?_; refine jz ?_; refine jjK rfl ?_; refine jjG ?_; refine jjB ?_; refine jjC ?_; apply jI; exact eB rfl; apply jI; exact eB rfl; refine jT rfl rfl rfl ?_; apply jI; exact eS rfl; refine jT rfl rfl rfl ?_; refine jh rfl ?_; refine jT rfl rfl rfl ?_; refine jY rfl rfl (by omega) ?_; refine jT rfl rfl rfl ?_; refine jje rfl rfl (by omega) ?_; apply jL rfl; exact eB rfl; apply jJ; exact eB rfl; refine jz ?_; refine jjB ?_; refine jjC ?_; apply jI; exact eI rfl; refine jji rfl rfl (by omega) ?_; apply jI; exact eB rfl; refine jU rfl rfl rfl rfl ?_; refine jU rfl rfl rfl rfl ?_; refine jU rfl rfl rfl rfl ?_; refine jU rfl rfl rfl rfl ?_; refine jU rfl rfl rfl rfl ?_; refine jU rfl rfl rfl rfl ?_; refine jV rfl rfl ?_; refine jV rfl rfl ?_; refine jV rfl rfl ?_; refine jV rfl rfl ?_; refine jV rfl rfl ?_; refine jV rfl rfl ?_; refine jV rfl rfl ?_; refine jV rfl rfl ?_; refine jV rfl rfl ?_; refine jV rfl rfl ?_; refine jV rfl rfl ?_; refine jU rfl rfl rfl rfl ?_; apply jL rfl; exact eB rfl; refine jz ?_; refine jjK rfl ?_; refine jjG ?_; refine jjC ?_; refine jY rfl rfl (by omega) ?_; apply jI; exact eI rfl; refine jz ?_)
          exact ⟨rfl, by ((refine Same.upd rfl ?_; refine Same.upd rfl ?_; refine Same.upd rfl ?_; refine Same.upd rfl ?_; refine Same.upd rfl ?_; refine Same.upd rfl ?_; refine Same.upd rfl ?_; refine Same.upd rfl ?_; refine Same.upd rfl ?_; refine Same.upd rfl ?_; refine Same.upd rfl ?_; refine Same.upd rfl ?_; refine Same.upd rfl ?_; refine Same.upd rfl ?_; refine Same.upd rfl ?_; refine Same.upd rfl ?_; refine Same.upd rfl ?_; refine Same.upd rfl ?_; refine Same.upd rfl ?_; refine Same.upd rfl ?_; refine Same.upd rfl ?_; refine Same.upd rfl ?_; refine Same.upd rfl ?_; refine Same.upd rfl ?_; refine Same.upd rfl ?_; refine Same.upd rfl ?_; refine Same.upd rfl ?_; refine Same.upd rfl ?_; refine Same.upd rfl ?_; refine Same.upd rfl ?_; refine Same.upd rfl ?_; refine Same.upd rfl ?_; refine Same.upd rfl ?_; refine Same.upd rfl ?_; refine Same.upd rfl ?_; refine Same.upd rfl ?_; refine Same.upd rfl ?_; refine Same.upd rfl ?_; refine Same.upd rfl ?_; refine Same.upd rfl ?_; refine Same.upd rfl ?_; refine Same.upd rfl ?_; refine Same.upd rfl ?_; refine Same.upd rfl ?_; refine Same.upd rfl ?_; refine Same.upd rfl ?_; refine Same.upd rfl ?_; refine Same.upd rfl ?_; refine Same.upd rfl ?_; refine Same.upd rfl ?_; exact Same.ovN)), V.length - (k + 1), by omega, inferInstance, k + 1, false, congrArg (Value.int .i64) (by omega), rfl, rfl, by omega, hMa, hnext false (fun h => h) fun h => absurd h hp⟩
    obtain rfl : k = V.length := by omega
    obtain rfl : M = true := by
      rcases hM1 with h1 | ⟨j, hj, h1⟩
      · exact hMa h1
      · exact hMb j hj hj h1
    (refine jjB ?_; refine jjC ?_; refine jja rfl rfl (by omega) ?_; refine jz ?_; refine jjB ?_; refine jjK rfl ?_; refine jjE ?_; refine jjB ?_; refine jjB ?_; refine jjC ?_; apply jI; exact eI rfl; refine jjj rfl rfl (by omega) ?_; refine jz ?_; refine jjJ rfl ?_; refine jjB ?_; refine jjC ?_; apply jI; exact eB rfl; apply jI; exact eB rfl; refine jT rfl rfl rfl ?_; apply jI; exact eB rfl; apply jK rfl; exact eB rfl; apply jI; exact eB rfl; refine jT rfl rfl rfl ?_; apply jI; exact eI rfl; refine jT rfl rfl rfl ?_; refine jjh rfl rfl (by omega) ?_; apply jK rfl; exact eB rfl; apply jI; exact eB rfl; refine jT rfl rfl rfl ?_; refine jm ?_; refine jn rfl ?_; refine jT rfl rfl rfl ?_; refine jN rfl rfl rfl ?_; refine jT rfl rfl rfl ?_; refine jh rfl ?_; refine jT rfl rfl rfl ?_; refine jjh rfl rfl (by omega) ?_; apply jK rfl; exact eB rfl; apply jJ; exact eB rfl; refine jz ?_; refine jjF ?_; refine jB rfl rfl ⟨inferInstance, ?_⟩)
    exact rfl
end
end Go.Proofs.YtfebegbjggoijaaGreatDoor
