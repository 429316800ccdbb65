/- Texts of the proof, part 4: Rb3, Rb4, Lf3, Eng26, KeyP, Tr3, Lf4, Lf5, Rc1, ShC, Eng33, Eng27, Rk1, PkG, Eng37, Eng39, Eng41, Rk2, Rk3, ShT, ShU, Rk4, RkC, RkM, RkN, PkA, PkB, Lib4, RkK, PkC, PkD, PkE, Eng28, Gk1, PkX, Rb10, Rk5. -/
import Derived.Shelf.Small.Strs
import Derived.Sort.Grow
import Derived.Shelf.SlSortCmp.WholeK
import Derived.Shelf.Small.Bits
import Derived.Test.YtpijeomnplmakaaDoorRF3
/- The reference of rack: Order, runs, Runs, power, passes, Passes, Check. -/
namespace Go.Proofs.YtpijeomnplmakaaDoor
open Go.RowKit

theorem upN_take {n i : Nat} (h : i ≤ n) : (upN n).take i = upN i := by
  rw [upN, ← List.map_take, List.take_range, Nat.min_eq_left h]; rfl
theorem upN_get {n i : Nat} (h : i < (upN n).length) : (upN n)[i] = (i : Int) := by simp [upN]

section
variable (a : Option Addr) (c : Nat) (d : List Int) (w : World) [hrow : RowI w (.slice a d.length c) false 1 (d.map intV)]
set_option maxHeartbeats 4000000 in
theorem Order_ref (hl : d.length ≤ 1000) : Ct Tryd.prog 25 [.slice a d.length c] w fun v w' => ∃ a' c', v = .slice a' d.length c' ∧ OwnL w' w.heap.size 3 false 1 (.slice a' d.length c') ((ordF d).map intV) := by
  refine Ct.ofW (by simp) ?_
  (refine jjB ?_; refine jjC ?_; apply jJ; exact eS rfl; refine jz ?_; refine jjB ?_; refine jjC ?_; apply jJ; exact eS rfl; refine jz ?_; refine jjB ?_; refine jjB ?_; refine jjC ?_; apply jJ; exact eI rfl; refine jz ?_; refine jjD ?_)
  refine W.keep0 [(0, .slice a d.length c), (3, .slice none 0 0), (4, .int .i64 ((0 : Nat) : Int))] ⟨eS rfl, eS rfl, eI rfl, trivial⟩ fun s0 => ?_
  refine W.loop (7 :: 8 :: 9 :: 10 :: 13 :: 14 :: 5 :: 15 :: 16 :: 17 :: 18 :: 3 :: 19 :: 20 :: 21 :: 22 :: 23 :: 24 :: 25 :: 26 :: 27 :: 28 :: 29 :: 30 :: 31 :: 32 :: 33 :: 34 :: 35 :: 36 :: 37 :: 38 :: 39 :: 40 :: 41 :: 42 :: 6 :: 43 :: 44 :: 45 :: 46 :: 47 :: 48 :: 49 :: 50 :: 51 :: 52 :: 53 :: 54 :: 55 :: 56 :: 57 :: 11 :: 12 :: 4 :: []) (fun g s' V => ∃ (i : Nat) (v : Value), s' 4 = .int .i64 ((i : Nat) : Int) ∧ s' 3 = v ∧ g = d.length - i ∧ i ≤ d.length ∧ OwnL V w.heap.size 3 false 1 v ((ssort (keyD d) (upN i)).map intV)) d.length ⟨0, _, rfl, rfl, rfl, Nat.zero_le _, OwnL.nil _ _ _ _ _⟩ ?_
  rintro _ sd w1 hS1 ⟨i, v, h4, h3, rfl, hi, hO1⟩
  refine W.fix h4 (W.fix (d := 3) h3 ?_)
  clear h4 h3
  have z1 := hS1.size
  have hTl : (ssort (keyD d) (upN i)).length = i := by rw [ssort_len, upN_len]
  obtain ⟨a1, c1, ev⟩ := hO1.slice
  rw [List.length_map, hTl] at ev
  subst ev
  by_cases hid : i < d.length
  · (refine jjB ?_; refine jjB ?_; refine jjC ?_; apply jI; exact eI rfl; apply jI; exact eS rfl; refine jh rfl ?_; refine jjZ rfl rfl (by omega) ?_; refine jz ?_; refine jjJ rfl ?_; refine jjG ?_; refine jjB ?_; refine jjD ?_; refine jjB ?_; refine jjC ?_; apply jI; exact eS rfl; refine jh rfl ?_; apply jJ; exact eI rfl; refine jz ?_; refine jjB ?_; refine jjC ?_; apply jI; exact eS rfl; apply jI; exact eI rfl)
    (refine jjP (v := .int _ _) rfl (by exact rfl) (by exact rfl) (by exact rfl) (by exact rfl) ?_; intro b5 w_b5 hb_b5 hs_b5 hS_b5 hk_b5; have hR_b5 := RowV.one (agg := false) (k := 1) rfl hk_b5)
    have z5 := hS_b5.size
    refine Ops.appendL (hO1.ext hS_b5.ext) (by omega) hR_b5 rfl rfl rfl rfl (one_int _) ?_ ?_ ?_
    · rw [List.length_map, hTl]; simp only [List.length_cons, List.length_nil]; omega
    · rw [List.length_map, hTl]; simp only [List.length_cons, List.length_nil]; omega
    intro v6 w6 hA6 hO6 _ _
    have hE6 : Ext w w6 := hA6.ext inferInstance (Nat.le_refl _)
    have z6 := hE6.size
    obtain ⟨a6, c6, ev⟩ := hO6.slice
    rw [List.length_append, List.length_map, hTl] at ev
    subst ev
    obtain ⟨g, rfl, hg, hOg⟩ := hO6.self (by simp)
    have hS1d : (upN d.length).take i = upN i := upN_take hi
    have hul : i < (upN d.length).length := by rw [upN_len]; exact hid
    have hSi : (upN d.length)[i] = (i : Int) := upN_get hul
    have hfin0 : ∀ q, q ≤ i → (∀ y ∈ (ssort (keyD d) (upN i)).drop q, keyD d (i : Int) < keyD d y) → (∀ y, q ≠ 0 → (ssort (keyD d) (upN i))[q - 1]? = some y → keyD d y ≤ keyD d (i : Int)) → ssort (keyD d) (upN (i + 1)) = insL [] (ssort (keyD d) (upN i)) [] (i : Int) q := by
      intro q hq hb ha
      have h := insL_sorted (k := keyD d) (S := upN d.length) (m := i) (q := q) hul hq (by rw [hS1d, hSi]; exact hb) (by rw [hS1d, hSi]; exact ha)
      rw [upN_take (by omega : i + 1 ≤ d.length), hS1d, hSi] at h
      rw [h, insL]
      simp
    have hTm : ∀ y ∈ ssort (keyD d) (upN i), 0 ≤ y ∧ y < i := fun y hy => by rw [ssort_mem, upN_mem] at hy; exact hy
    generalize ssort (keyD d) (upN i) = T at *
    have hD6 : SD 3 w6 g (i + 1) c6 (insL [] T [] (i : Int) i) := ⟨by rw [insL]; simp; omega, by
      have : insL [] T [] (i : Int) i = T ++ [(i : Int)] := by rw [← hTl, insL_end]; simp
      rw [this, List.map_append]; exact hOg⟩
    (apply jJ; exact eS rfl; refine jz ?_; refine jjD ?_)
    have hrow6 : RowI w6 (.slice a d.length c) false 1 (d.map intV) := ⟨hrow.h.ext hE6⟩
    refine W.keep [(0, .slice a d.length c), (3, .slice (some ⟨g, 0, none⟩) (i + 1) c6), (4, .int .i64 ((i : Nat) : Int)), (5, .int .i64 ((i : Nat) : Int))] (D := (7 :: 8 :: 9 :: 10 :: 13 :: 14 :: 5 :: 15 :: 16 :: 17 :: 18 :: 3 :: 19 :: 20 :: 21 :: 22 :: 23 :: 24 :: 25 :: 26 :: 27 :: 28 :: 29 :: 30 :: 31 :: 32 :: 33 :: 34 :: 35 :: 36 :: 37 :: 38 :: 39 :: 40 :: 41 :: 42 :: 6 :: 43 :: 44 :: 45 :: 46 :: 47 :: 48 :: 49 :: 50 :: 51 :: 52 :: 53 :: 54 :: 55 :: 56 :: 57 :: 11 :: 12 :: 4 :: [])) (sO := upds s0 _) (by ((refine Same.upd rfl ?_; refine Same.upd rfl ?_; refine Same.upd rfl ?_; refine Same.upd rfl ?_; refine Same.upd rfl ?_; refine Same.upd rfl ?_; refine Same.upd rfl ?_; refine Same.upd rfl ?_; refine Same.upd rfl ?_; refine Same.upd rfl ?_; refine Same.upd rfl ?_; refine Same.upd rfl ?_; refine Same.upd rfl ?_; refine Same.upd rfl ?_; exact Same.ovN))) ⟨eS rfl, eS rfl, eI rfl, eI rfl, trivial⟩ fun s1 hs1 => ?_
    refine W.loopG (19 :: 20 :: 21 :: 22 :: 23 :: 24 :: 25 :: 26 :: 27 :: 28 :: 29 :: 30 :: 31 :: 32 :: 33 :: 34 :: 35 :: 36 :: 37 :: 38 :: 39 :: 40 :: 41 :: 42 :: 6 :: 43 :: 44 :: 45 :: 46 :: 47 :: 48 :: 49 :: 50 :: 51 :: 52 :: 53 :: 54 :: 55 :: 56 :: 57 :: 5 :: []) (fun g' s' V => ∃ q : Nat, s' 5 = .int .i64 ((q : Nat) : Int) ∧ g' = q + 1 ∧ q ≤ i ∧ (∀ y ∈ T.drop q, keyD d (i : Int) < keyD d y) ∧ Only g w6 V ∧ SD 3 V g (i + 1) c6 (insL [] T [] (i : Int) q)) (i + 1) ⟨i, rfl, rfl, Nat.le_refl _, by rw [List.drop_of_length_le (by omega)]; simp, .ofExt (.refl w6), hD6⟩ ?_
    clear hD6
    rintro _ sd2 w2 ⟨q, h5, rfl, hqi, hdr, hO2, hD2⟩
    refine W.fix h5 ?_
    clear h5
    have hE2 : Ext w w2 := hO2.ext hE6 hg
    have hr2 : RowV w2 false 1 (.slice a d.length c) (d.map intV) := hrow.h.ext hE2
    have z2 := hO2.size
    have hfin : ∀ w5, Ext w2 w5 → (∀ y, q ≠ 0 → T[q - 1]? = some y → keyD d y ≤ keyD d (i : Int)) → OwnL w5 w.heap.size 3 false 1 (.slice (some ⟨g, 0, none⟩) (i + 1) c6) ((ssort (keyD d) (upN (i + 1))).map intV) := by
      intro w5 h5 hlast
      rw [hfin0 q hqi hdr hlast]
      exact (hD2.ext h5).2.mono hg
    rcases q with _ | q
    · (refine jjB ?_; refine jjB ?_)
      refine W.draw (fun w' => Ext w2 w') ?_
      intro w3 hS3
      refine jjV [0, 1, 2, 3, 4, 5, 6, 7, 8, 9, 10, 11, 12, 13, 14, 15, 16, 17, 18, 19] (by decide +kernel) hS3.ext ?_
      (((apply jjT; exact rfl; rintro w' hq; apply jI; exact eI rfl; refine jz ?_; exact ⟨rfl, rfl⟩; apply jjT; exact rfl; rintro w' hq; refine jje rfl rfl (by omega) ?_; refine jz ?_; exact ⟨rfl, rfl⟩; apply jjT; exact rfl; rintro w' hq; apply jI; exact eB rfl; refine jz ?_; exact ⟨rfl, rfl⟩; apply jjT; exact rfl; rintro w' hq; refine jU rfl rfl rfl rfl ?_; refine jz ?_; exact ⟨rfl, rfl⟩; apply jjT; exact rfl; rintro w' hq; refine jU rfl rfl rfl rfl ?_; refine jz ?_; exact ⟨rfl, rfl⟩; apply jjT; exact rfl; rintro w' hq; refine jU rfl rfl rfl rfl ?_; refine jz ?_; exact ⟨rfl, rfl⟩; apply jjT; exact rfl; rintro w' hq; refine jU rfl rfl rfl rfl ?_; refine jz ?_; exact ⟨rfl, rfl⟩; apply jjT; exact rfl; rintro w' hq; refine jU rfl rfl rfl rfl ?_; refine jz ?_; exact ⟨rfl, rfl⟩; apply jjT; exact rfl; rintro w' hq; refine jU rfl rfl rfl rfl ?_; refine jz ?_; exact ⟨rfl, rfl⟩; apply jjT; exact rfl; rintro w' hq; refine jU rfl rfl rfl rfl ?_; refine jz ?_; exact ⟨rfl, rfl⟩; apply jjT; exact rfl; rintro w' hq; refine jU rfl rfl rfl rfl ?_; refine jz ?_; exact ⟨rfl, rfl⟩; apply jjT; exact rfl; rintro w' hq; refine jU rfl rfl rfl rfl ?_; refine jz ?_; exact ⟨rfl, rfl⟩; apply jjT; exact rfl; rintro w' hq; refine jU rfl rfl rfl rfl ?_; refine jz ?_; exact ⟨rfl, rfl⟩; apply jjT; exact rfl; rintro w' hq; refine jU rfl rfl rfl rfl ?_; refine jz ?_; exact ⟨rfl, rfl⟩; apply jjT; exact rfl; rintro w' hq; refine jU rfl rfl rfl rfl ?_; refine jz ?_; exact ⟨rfl, rfl⟩; apply jjT; exact rfl; rintro w' hq; refine jU rfl rfl rfl rfl ?_; refine jz ?_; exact ⟨rfl, rfl⟩; apply jjT; exact rfl; rintro w' hq; refine jU rfl rfl rfl rfl ?_; refine jz ?_; exact ⟨rfl, rfl⟩; apply jjT; exact rfl; rintro w' hq; refine jU rfl rfl rfl rfl ?_; refine jz ?_; exact ⟨rfl, rfl⟩; apply jjT; exact rfl; rintro w' hq; refine jU rfl rfl rfl rfl ?_; refine jz ?_; exact ⟨rfl, rfl⟩; apply jjT; exact rfl; rintro w' hq; apply jL rfl; exact eB rfl; refine jz ?_; exact ⟨rfl, rfl⟩; refine jjU ?_)))
      refine jjX (by decide +kernel) hS3.ext ?_
      (refine jjK rfl ?_; refine jjE ?_; refine jjC ?_; apply jI; exact eI rfl; refine jY rfl rfl (by omega) ?_; apply jJ; exact eI rfl; refine jz ?_)
      exact ⟨rfl, by ((refine Same.upd rfl ?_; refine Same.upd rfl ?_; refine Same.upd rfl ?_; refine Same.upd rfl ?_; refine Same.upd rfl ?_; refine Same.upd rfl ?_; refine Same.upd rfl ?_; refine Same.upd rfl ?_; refine Same.upd rfl ?_; refine Same.upd rfl ?_; refine Same.upd rfl ?_; refine Same.upd rfl ?_; refine Same.upd rfl ?_; refine Same.upd rfl ?_; refine Same.upd rfl ?_; refine Same.upd rfl ?_; refine Same.upd rfl ?_; refine Same.upd rfl ?_; refine Same.upd rfl ?_; refine Same.upd rfl ?_; refine Same.upd rfl ?_; refine Same.upd rfl ?_; refine Same.upd rfl ?_; refine Same.upd rfl ?_; refine Same.ovN' rfl ?_; assumption)), d.length - (i + 1), by omega, hE2.trans hS3.ext, i + 1, _, congrArg (Value.int .i64) (by omega), rfl, rfl, by omega, hfin _ hS3.ext (by intro y h0; exact absurd rfl h0)⟩
    · obtain ⟨y, hTy, hy, hx, hs⟩ := insL_step (X := []) (R := []) (x := (i : Int)) (q := q) (T := T) (by omega)
      have hym := hTm y (List.mem_of_getElem? hTy)
      have hz := Int.eq_ofNat_of_zero_le hym.1
      obtain ⟨yn, rfl⟩ := hz
      simp only [List.length_nil, Nat.zero_add] at hy hx hs
      have hx2 := hD2.get hx
      have hy2 := hD2.get hy
      have hq1 : ((q + 1 : Nat) : Int) - 1 = ((q : Nat) : Int) := by omega
      have hyd : yn < d.length := by omega
      (refine jjB ?_; refine jjB ?_)
      refine W.draw (fun w' => Ext w2 w') ?_
      intro w3 hS3
      have hz := hr2.place' (map_get hyd)
      obtain ⟨p1, o1, rfl, hA1⟩ := hz
      have hz := hr2.place' (map_get hid)
      obtain ⟨p2, o2, e2, hA2⟩ := hz
      cases e2
      rw [Nat.mul_one] at hA1 hA2
      refine jjV [0, 1, 2, 3, 4, 5, 6, 7, 8, 9, 10, 11, 12, 13, 14, 15, 16, 17, 18, 19] (by decide +kernel) hS3.ext ?_
      (((apply jjT; exact rfl; rintro w' hq; have := hq.toStep; have g1 := hq.cell hx2; have g2 := hq.cell hy2; apply jI; exact eI rfl; refine jz ?_; exact ⟨rfl, rfl⟩; apply jjT; exact rfl; rintro w' hq; have := hq.toStep; have g1 := hq.cell hx2; have g2 := hq.cell hy2; refine jjd rfl rfl (by omega) ?_; refine jz ?_; exact ⟨rfl, rfl⟩; apply jjT; exact rfl; rintro w' hq; have := hq.toStep; have g1 := hq.cell hx2; have g2 := hq.cell hy2; apply jI; exact eB rfl; refine jz ?_; exact ⟨rfl, rfl⟩; apply jjT; exact rfl; rintro w' hq; have := hq.toStep; have g1 := hq.cell hx2; have g2 := hq.cell hy2; refine jT rfl rfl rfl ?_; apply jI; exact eS rfl; refine jz ?_; exact ⟨rfl, rfl⟩; apply jjT; exact rfl; rintro w' hq; have := hq.toStep; have g1 := hq.cell hx2; have g2 := hq.cell hy2; refine jT rfl rfl rfl ?_; apply jI; exact eS rfl; refine jz ?_; exact ⟨rfl, rfl⟩; apply jjT; exact rfl; rintro w' hq; have := hq.toStep; have g1 := hq.cell hx2; have g2 := hq.cell hy2; refine jT rfl rfl rfl ?_; apply jI; exact eI rfl; refine jz ?_; exact ⟨rfl, rfl⟩; apply jjT; exact rfl; rintro w' hq; have := hq.toStep; have g1 := hq.cell hx2; have g2 := hq.cell hy2; refine jT rfl rfl rfl ?_; refine jZ rfl rfl (by omega) ?_; refine jz ?_; exact ⟨rfl, rfl⟩; apply jjT; exact rfl; rintro w' hq; have := hq.toStep; have g1 := hq.cell hx2; have g2 := hq.cell hy2; refine jT rfl rfl rfl ?_; refine jG rfl rfl (by assumption) (by omega) ?_; refine jz ?_; exact ⟨rfl, rfl⟩; apply jjT; exact rfl; rintro w' hq; have := hq.toStep; have g1 := hq.cell hx2; have g2 := hq.cell hy2; refine jT rfl rfl rfl ?_; refine jR (by assumption) rfl rfl ?_; refine jz ?_; exact ⟨rfl, rfl⟩; apply jjT; exact rfl; rintro w' hq; have := hq.toStep; have g1 := hq.cell hx2; have g2 := hq.cell hy2; refine jT rfl rfl rfl ?_; refine jG rfl rfl rfl (by omega) ?_; refine jz ?_; exact ⟨rfl, rfl⟩; apply jjT; exact rfl; rintro w' hq; have := hq.toStep; have g1 := hq.cell hx2; have g2 := hq.cell hy2; refine jT rfl rfl rfl ?_; refine jQ rfl rfl ?_; refine jz ?_; exact ⟨rfl, rfl⟩; apply jjT; exact rfl; rintro w' hq; have := hq.toStep; have g1 := hq.cell hx2; have g2 := hq.cell hy2; refine jT rfl rfl rfl ?_; apply jI; exact eS rfl; refine jz ?_; exact ⟨rfl, rfl⟩; apply jjT; exact rfl; rintro w' hq; have := hq.toStep; have g1 := hq.cell hx2; have g2 := hq.cell hy2; refine jT rfl rfl rfl ?_; apply jI; exact eS rfl; refine jz ?_; exact ⟨rfl, rfl⟩; apply jjT; exact rfl; rintro w' hq; have := hq.toStep; have g1 := hq.cell hx2; have g2 := hq.cell hy2; refine jT rfl rfl rfl ?_; apply jI; exact eI rfl; refine jz ?_; exact ⟨rfl, rfl⟩; apply jjT; exact rfl; rintro w' hq; have := hq.toStep; have g1 := hq.cell hx2; have g2 := hq.cell hy2; refine jT rfl rfl rfl ?_; refine jG rfl rfl rfl (by omega) ?_; refine jz ?_; exact ⟨rfl, rfl⟩; apply jjT; exact rfl; rintro w' hq; have := hq.toStep; have g1 := hq.cell hx2; have g2 := hq.cell hy2; refine jT rfl rfl rfl ?_; refine jR (by assumption) rfl rfl ?_; refine jz ?_; exact ⟨rfl, rfl⟩; apply jjT; exact rfl; rintro w' hq; have := hq.toStep; have g1 := hq.cell hx2; have g2 := hq.cell hy2; refine jT rfl rfl rfl ?_; refine jG rfl rfl rfl (by omega) ?_; refine jz ?_; exact ⟨rfl, rfl⟩; apply jjT; exact rfl; rintro w' hq; have := hq.toStep; have g1 := hq.cell hx2; have g2 := hq.cell hy2; refine jT rfl rfl rfl ?_; refine jQ rfl rfl ?_; refine jz ?_; exact ⟨rfl, rfl⟩; apply jjT; exact rfl; rintro w' hq; have := hq.toStep; have g1 := hq.cell hx2; have g2 := hq.cell hy2; refine jT rfl rfl rfl ?_; refine je rfl rfl ?_; refine jz ?_; exact ⟨rfl, rfl⟩; apply jjT; exact rfl; rintro w' hq; have := hq.toStep; have g1 := hq.cell hx2; have g2 := hq.cell hy2; apply jK rfl; exact eB rfl; refine jz ?_; exact ⟨rfl, rfl⟩; refine jjU ?_)))
      refine jjX (by decide +kernel) hS3.ext ?_
      have hk1 := keyD_nat hyd
      have hk2 := keyD_nat hid
      have hD3 : SD 3 w3 g (i + 1) c6 _ := hD2.ext hS3.ext
      have hx3 := hD3.get hx
      have hy3 := hD3.get hy
      have hO3 : Only g w6 w3 := hO2.trans (.ofExt hS3.ext)
      have hlt1 : q + 1 < i + 1 := by omega
      have hlt2 : q < i + 1 := by omega
      repeat' (first|((first|apply jI|apply jJ); (first|exact eI rfl|exact eS rfl))|(refine jM ?_; refine jR (by assumption) rfl rfl ?_)|(refine jW ?_; (first|refine jY rfl rfl (by omega) ?_|refine jZ rfl rfl (by omega) ?_))|(refine jE ?_; refine jG rfl rfl rfl (by omega) ?_)|refine jz ?_|(refine jjA ?_; (first|refine jjB ?_|refine jjC ?_|refine jjD ?_|refine jjE ?_|refine jjG ?_))|(refine jjA ?_; (refine jjN rfl ?_ ?_ <;> intro _)))
      · have hlt : keyD d (i : Int) < keyD d (yn : Int) := by rw [hk1, hk2]; assumption
        refine jG rfl rfl hq1 (by omega) ?_
        (refine jR (by assumption) rfl rfl ?_; refine jG rfl rfl rfl (by omega) ?_)
        refine OpsD.store (i := q + 1) hD3 hlt1 rfl (eI rfl) ?_
        intro w4 hO4 hD4
        (refine jz ?_; refine jjB ?_; refine jjC ?_; apply jI; exact eS rfl; apply jI; exact eI rfl; refine jZ rfl rfl (by omega) ?_; apply jI; exact eI rfl)
        refine jG rfl rfl hq1 (by omega) ?_
        skip
        refine OpsD.store (i := q) hD4 hlt2 rfl (eI rfl) ?_
        intro w5 hO5 hD5
        rw [hs] at hD5
        (refine jz ?_; refine jjC ?_; apply jI; exact eI rfl; refine jZ rfl rfl (by omega) ?_; apply jJ; exact eI rfl; refine jz ?_)
        refine ⟨rfl, by ((refine Same.upd rfl ?_; refine Same.upd rfl ?_; refine Same.upd rfl ?_; refine Same.upd rfl ?_; refine Same.upd rfl ?_; refine Same.upd rfl ?_; refine Same.upd rfl ?_; refine Same.upd rfl ?_; refine Same.upd rfl ?_; refine Same.upd rfl ?_; refine Same.upd rfl ?_; refine Same.upd rfl ?_; refine Same.upd rfl ?_; refine Same.upd rfl ?_; refine Same.upd rfl ?_; refine Same.upd rfl ?_; refine Same.upd rfl ?_; refine Same.upd rfl ?_; refine Same.upd rfl ?_; refine Same.upd rfl ?_; refine Same.upd rfl ?_; refine Same.upd rfl ?_; refine Same.upd rfl ?_; refine Same.upd rfl ?_; refine Same.upd rfl ?_; refine Same.upd rfl ?_; refine Same.upd rfl ?_; refine Same.upd rfl ?_; refine Same.upd rfl ?_; refine Same.upd rfl ?_; refine Same.upd rfl ?_; refine Same.upd rfl ?_; refine Same.upd rfl ?_; refine Same.upd rfl ?_; refine Same.upd rfl ?_; refine Same.upd rfl ?_; refine Same.upd rfl ?_; refine Same.upd rfl ?_; refine Same.upd rfl ?_; refine Same.upd rfl ?_; refine Same.upd rfl ?_; refine Same.upd rfl ?_; exact Same.ovN)), q + 1, by omega, q, congrArg (Value.int .i64) (by omega), rfl, by omega, ?_, hO3.trans (hO4.trans hO5), hD5⟩
        have hdq : T.drop q = (yn : Int) :: T.drop (q + 1) := by
          rw [List.drop_eq_getElem_cons (by omega)]
          congr 1
          rw [List.getElem?_eq_getElem (by omega)] at hTy; exact Option.some.inj hTy
        rw [hdq]; intro z hz; rcases List.mem_cons.1 hz with rfl | hz; exact hlt; exact hdr z hz
      · have hge : keyD d (yn : Int) ≤ keyD d (i : Int) := by
          rw [hk1, hk2]
          have : ¬ d[yn] > d[i] := by assumption
          omega
        exact ⟨rfl, by ((refine Same.upd rfl ?_; refine Same.upd rfl ?_; refine Same.upd rfl ?_; refine Same.upd rfl ?_; refine Same.upd rfl ?_; refine Same.upd rfl ?_; refine Same.upd rfl ?_; refine Same.upd rfl ?_; refine Same.upd rfl ?_; refine Same.upd rfl ?_; refine Same.upd rfl ?_; refine Same.upd rfl ?_; refine Same.upd rfl ?_; refine Same.upd rfl ?_; refine Same.upd rfl ?_; refine Same.upd rfl ?_; refine Same.upd rfl ?_; refine Same.upd rfl ?_; refine Same.upd rfl ?_; refine Same.upd rfl ?_; refine Same.upd rfl ?_; refine Same.upd rfl ?_; refine Same.upd rfl ?_; refine Same.upd rfl ?_; refine Same.ovN' rfl ?_; assumption)), d.length - (i + 1), by omega, hE2.trans hS3.ext, i + 1, _, congrArg (Value.int .i64) (by omega), rfl, rfl, by omega, hfin _ hS3.ext (by intro z _ hz; rw [Nat.add_sub_cancel, hTy] at hz; cases hz; exact hge)⟩
  · obtain rfl : i = d.length := by omega
    (refine jjB ?_; refine jjB ?_; refine jjC ?_; apply jI; exact eI rfl; apply jI; exact eS rfl; refine jh rfl ?_; refine jja rfl rfl (by omega) ?_; refine jz ?_; refine jjK rfl ?_; refine jjE ?_; refine jjB ?_; refine jjC ?_; apply jI; exact eS rfl; apply jJ; exact eS rfl; refine jz ?_; refine jjF ?_; refine jB rfl rfl ⟨inferInstance, ?_⟩)
    exact ⟨a1, c1, rfl, hO1⟩

theorem ordF_mem {d : List Int} {x : Int} : x ∈ ordF d ↔ 0 ≤ x ∧ x < d.length := by rw [ordF, ssort_mem, upN_mem]

set_option maxHeartbeats 4000000 in
theorem runs_ref (hl : d.length ≤ 1000) : Ct Tryd.prog 44 [.slice a d.length c] w fun v w' => ∃ a' c', v = .tuple #[.slice a' d.length c', .int .i64 (((endF d).length : Int) + 1)] ∧ RowV w' false 1 (.slice a' d.length c') ((numF d).map intV) := by
  refine Ct.ofW (by simp) ?_
  (refine jjB ?_; refine jjC ?_; apply jJ; exact eS rfl; apply jJ; exact eI rfl; refine jz ?_; refine jjB ?_; refine jjC ?_; apply jI; exact eS rfl; refine jh rfl ?_)
  refine Ops.makeS (m := d.length) rfl rfl rfl rfl (by omega) (by omega) ?_
  intro bn w1 hbn hs1 hS1 hB1
  (apply jJ; exact eS rfl; refine jz ?_; refine jjB ?_; refine jjC ?_; apply jI; exact eS rfl)
  refine jjQ (Order_ref a c d _ hl) rfl rfl ?_
  rintro _ w2 hS2 ⟨a2, c2, rfl, hO2⟩
  have z2 := hS2.size
  have hE2 : Ext w w2 := inferInstance
  have hB2 : Bk w2 bn (List.replicate d.length (.int .i64 0)) 3 := hB1.ext hS2.ext
  (apply jJ; exact eS rfl; refine jz ?_; refine jjB ?_; refine jjC ?_; apply jJ; exact eI rfl; refine jz ?_; refine jjB ?_; refine jjB ?_; refine jjC ?_; apply jJ; exact eI rfl; refine jz ?_; refine jjD ?_)
  have hrep : List.replicate d.length (Value.int .i64 0) = (List.replicate d.length (0 : Int)).map intV := by simp
  rw [hrep] at hB2
  have hLl := ordF_len d
  refine W.keep0 [(4, .slice (some ⟨bn, 0, none⟩) d.length d.length), (5, .slice a2 d.length c2), (6, .int .i64 ((0 : Nat) : Int)), (7, .int .i64 ((0 : Nat) : Int))] ⟨eS rfl, eS rfl, eI rfl, eI rfl, trivial⟩ fun s0 => ?_
  refine W.loopG (13 :: 14 :: 15 :: 16 :: 19 :: 20 :: 21 :: 22 :: 23 :: 24 :: 25 :: 26 :: 27 :: 28 :: 29 :: 30 :: 31 :: 32 :: 33 :: 34 :: 6 :: 35 :: 36 :: 37 :: 38 :: 39 :: 40 :: 41 :: 17 :: 18 :: 7 :: []) (fun g s' V => ∃ i : Nat, s' 7 = .int .i64 ((i : Nat) : Int) ∧ s' 6 = .int .i64 (((opF d.length ((ordF d).take i)).2.1.length : Nat) : Int) ∧ g = d.length - i ∧ i ≤ d.length ∧ Only bn w2 V ∧ Bk V bn ((opF d.length ((ordF d).take i)).2.2.map intV) 3) d.length ⟨0, rfl, rfl, rfl, Nat.zero_le _, .ofExt (.refl w2), hB2⟩ ?_
  rintro _ sd V ⟨i, h7, h6, rfl, hi, hOn, hB⟩
  refine W.fix h7 (W.fix (d := 6) h6 ?_)
  clear h7 h6
  have zV := hOn.size
  have hOL := hOn.own hO2 (by omega)
  have hRL := hOL.row
  have hEV : Ext w V := hOn.ext hE2 (by omega)
  obtain ⟨st, hst⟩ : ∃ st, st = opF d.length ((ordF d).take i) := ⟨_, rfl⟩
  have hlen := opF_len d.length ((ordF d).take i)
  rw [List.length_take, ← hst] at hlen
  rw [← hst] at hB
  rw [← hst]
  by_cases hid : i < d.length
  · have hiL : i < (ordF d).length := by omega
    have hgi := List.getElem?_eq_getElem hiL
    have hLi := ordF_mem.1 (List.getElem_mem hiL)
    have hz := Int.eq_ofNat_of_zero_le hLi.1
    obtain ⟨xi, hxi⟩ := hz
    rw [hxi] at hgi hLi
    have hst1 : opF d.length ((ordF d).take (i + 1)) = opS st (xi : Int) := by rw [take_snoc_get hgi, opF_snoc, hst]
    have hxn : xi < d.length := by omega
    have hz := hRL.place' (map_get hiL)
    obtain ⟨p1, o1, rfl, hA1⟩ := hz
    rw [hxi, Nat.mul_one] at hA1
    rcases i with _ | j
    · have hno : (opS st (xi : Int)).2.1 = st.2.1 := by
        have : st.1 = -1 := by rw [hst]; rfl
        simp only [opS, this]
        rw [if_neg (by omega)]
      have hno2 : (opS st (xi : Int)).2.2 = st.2.2.set xi (st.2.1.length : Int) := by
        show st.2.2.set _ ((opS st (xi : Int)).2.1.length : Int) = _
        rw [hno]; rfl
      (refine jjB ?_; refine jjB ?_; refine jjC ?_; apply jI; exact eI rfl; apply jI; exact eS rfl; refine jh rfl ?_; refine jjZ rfl rfl (by omega) ?_; refine jz ?_; refine jjJ rfl ?_; refine jjG ?_; refine jjB ?_; refine jjD ?_; refine jjB ?_; refine jjB ?_)
      refine W.draw (fun w' => Ext V w') ?_
      intro V2 hS3
      refine jjV [0, 1, 2, 3, 4, 5, 6, 7, 8, 9, 10, 11, 12, 13] (by decide +kernel) hS3.ext ?_
      (((apply jjT; exact rfl; rintro w' hq; apply jI; exact eI rfl; refine jz ?_; exact ⟨rfl, rfl⟩; apply jjT; exact rfl; rintro w' hq; refine jje rfl rfl (by omega) ?_; refine jz ?_; exact ⟨rfl, rfl⟩; apply jjT; exact rfl; rintro w' hq; apply jI; exact eB rfl; refine jz ?_; exact ⟨rfl, rfl⟩; apply jjT; exact rfl; rintro w' hq; refine jU rfl rfl rfl rfl ?_; refine jz ?_; exact ⟨rfl, rfl⟩; apply jjT; exact rfl; rintro w' hq; refine jU rfl rfl rfl rfl ?_; refine jz ?_; exact ⟨rfl, rfl⟩; apply jjT; exact rfl; rintro w' hq; refine jU rfl rfl rfl rfl ?_; refine jz ?_; exact ⟨rfl, rfl⟩; apply jjT; exact rfl; rintro w' hq; refine jU rfl rfl rfl rfl ?_; refine jz ?_; exact ⟨rfl, rfl⟩; apply jjT; exact rfl; rintro w' hq; refine jU rfl rfl rfl rfl ?_; refine jz ?_; exact ⟨rfl, rfl⟩; apply jjT; exact rfl; rintro w' hq; refine jU rfl rfl rfl rfl ?_; refine jz ?_; exact ⟨rfl, rfl⟩; apply jjT; exact rfl; rintro w' hq; refine jU rfl rfl rfl rfl ?_; refine jz ?_; exact ⟨rfl, rfl⟩; apply jjT; exact rfl; rintro w' hq; refine jU rfl rfl rfl rfl ?_; refine jz ?_; exact ⟨rfl, rfl⟩; apply jjT; exact rfl; rintro w' hq; refine jU rfl rfl rfl rfl ?_; refine jz ?_; exact ⟨rfl, rfl⟩; apply jjT; exact rfl; rintro w' hq; refine jU rfl rfl rfl rfl ?_; refine jz ?_; exact ⟨rfl, rfl⟩; apply jjT; exact rfl; rintro w' hq; apply jL rfl; exact eB rfl; refine jz ?_; exact ⟨rfl, rfl⟩; refine jjU ?_)))
      refine jjX (by decide +kernel) hS3.ext ?_
      have hB2' : Bk V2 bn _ _ := hB.ext hS3.ext
      (refine jjK rfl ?_; refine jjG ?_; refine jjC ?_; apply jI; exact eS rfl; apply jI; exact eS rfl; apply jI; exact eI rfl; refine jG rfl rfl rfl (by omega) ?_; refine jP rfl rfl rfl ?_; apply jI; exact eI rfl; refine jG rfl rfl rfl (by omega) ?_)
      refine Ops.storeC (b := bn) (j := xi) rfl (eI rfl) rfl rfl (by rw [List.length_map]; omega) ?_
      (intro V3 hp3; have hB3 : Bk V3 bn ((st.2.2.set xi (st.2.1.length)).map intV) 3 := Bk.setI (by omega) ⟨hp3.new⟩; ((refine jz ?_; refine jjC ?_; apply jI; exact eI rfl; refine jY rfl rfl (by omega) ?_; apply jJ; exact eI rfl; refine jz ?_)); refine ⟨rfl, by ((refine Same.upd rfl ?_; refine Same.upd rfl ?_; refine Same.upd rfl ?_; refine Same.upd rfl ?_; refine Same.upd rfl ?_; refine Same.upd rfl ?_; refine Same.upd rfl ?_; refine Same.upd rfl ?_; refine Same.upd rfl ?_; refine Same.upd rfl ?_; refine Same.upd rfl ?_; refine Same.upd rfl ?_; refine Same.upd rfl ?_; refine Same.upd rfl ?_; refine Same.upd rfl ?_; refine Same.upd rfl ?_; refine Same.upd rfl ?_; refine Same.upd rfl ?_; refine Same.upd rfl ?_; refine Same.upd rfl ?_; refine Same.upd rfl ?_; refine Same.upd rfl ?_; refine Same.upd rfl ?_; refine Same.upd rfl ?_; refine Same.upd rfl ?_; refine Same.upd rfl ?_; refine Same.upd rfl ?_; refine Same.upd rfl ?_; refine Same.upd rfl ?_; refine Same.upd rfl ?_; exact Same.ovN)), d.length - (0 + 1), by omega, 0 + 1, congrArg (Value.int .i64) (by omega), by rw [hst1]; rw [hno]; exact rfl, rfl, by omega, (hOn.trans (.ofExt hS3.ext)).trans (.ofPut hp3), by rw [hst1]; rw [hno2]; exact hB3⟩)
    · have hjL : j < (ordF d).length := by omega
      have hgj := List.getElem?_eq_getElem hjL
      have hst0 : st.1 = (ordF d)[j] := by rw [hst]; exact opF_first _ _ j _ hgj
      have hz := hRL.place' (map_get hjL)
      obtain ⟨p2, o2, e2, hA2⟩ := hz
      cases e2
      rw [← hst0, Nat.mul_one] at hA2
      have hq1 : ((j + 1 : Nat) : Int) - 1 = ((j : Nat) : Int) := by omega
      (refine jjB ?_; refine jjB ?_; refine jjC ?_; apply jI; exact eI rfl; apply jI; exact eS rfl; refine jh rfl ?_; refine jjZ rfl rfl (by omega) ?_; refine jz ?_; refine jjJ rfl ?_; refine jjG ?_; refine jjB ?_; refine jjD ?_; refine jjB ?_; refine jjB ?_)
      refine W.draw (fun w' => Ext V w') ?_
      intro V2 hS3
      refine jjV [0, 1, 2, 3, 4, 5, 6, 7, 8, 9, 10, 11, 12, 13] (by decide +kernel) hS3.ext ?_
      (((apply jjT; exact rfl; rintro w' hq; have := hq.toStep; apply jI; exact eI rfl; refine jz ?_; exact ⟨rfl, rfl⟩; apply jjT; exact rfl; rintro w' hq; have := hq.toStep; refine jjd rfl rfl (by omega) ?_; refine jz ?_; exact ⟨rfl, rfl⟩; apply jjT; exact rfl; rintro w' hq; have := hq.toStep; apply jI; exact eB rfl; refine jz ?_; exact ⟨rfl, rfl⟩; apply jjT; exact rfl; rintro w' hq; have := hq.toStep; refine jT rfl rfl rfl ?_; apply jI; exact eS rfl; refine jz ?_; exact ⟨rfl, rfl⟩; apply jjT; exact rfl; rintro w' hq; have := hq.toStep; refine jT rfl rfl rfl ?_; apply jI; exact eI rfl; refine jz ?_; exact ⟨rfl, rfl⟩; apply jjT; exact rfl; rintro w' hq; have := hq.toStep; refine jT rfl rfl rfl ?_; refine jG rfl rfl rfl (by omega) ?_; refine jz ?_; exact ⟨rfl, rfl⟩; apply jjT; exact rfl; rintro w' hq; have := hq.toStep; refine jT rfl rfl rfl ?_; refine jQ rfl rfl ?_; refine jz ?_; exact ⟨rfl, rfl⟩; apply jjT; exact rfl; rintro w' hq; have := hq.toStep; refine jT rfl rfl rfl ?_; apply jI; exact eS rfl; refine jz ?_; exact ⟨rfl, rfl⟩; apply jjT; exact rfl; rintro w' hq; have := hq.toStep; refine jT rfl rfl rfl ?_; apply jI; exact eI rfl; refine jz ?_; exact ⟨rfl, rfl⟩; apply jjT; exact rfl; rintro w' hq; have := hq.toStep; refine jT rfl rfl rfl ?_; refine jZ rfl rfl (by omega) ?_; refine jz ?_; exact ⟨rfl, rfl⟩; apply jjT; exact rfl; rintro w' hq; have := hq.toStep; refine jT rfl rfl rfl ?_; refine jG rfl rfl (by assumption) (by omega) ?_; refine jz ?_; exact ⟨rfl, rfl⟩; apply jjT; exact rfl; rintro w' hq; have := hq.toStep; refine jT rfl rfl rfl ?_; refine jQ rfl rfl ?_; refine jz ?_; exact ⟨rfl, rfl⟩; apply jjT; exact rfl; rintro w' hq; have := hq.toStep; refine jT rfl rfl rfl ?_; refine jX rfl rfl ?_; refine jz ?_; exact ⟨rfl, rfl⟩; apply jjT; exact rfl; rintro w' hq; have := hq.toStep; apply jK rfl; exact eB rfl; refine jz ?_; exact ⟨rfl, rfl⟩; refine jjU ?_)))
      refine jjX (by decide +kernel) hS3.ext ?_
      have hB2' : Bk V2 bn _ _ := hB.ext hS3.ext
      repeat' (first|((first|apply jI|apply jJ); (first|exact eI rfl|exact eS rfl))|(refine jM ?_; refine jQ rfl rfl ?_)|(refine jW ?_; refine jY rfl rfl (by omega) ?_)|(refine jE ?_; refine jG rfl rfl rfl (by omega) ?_)|refine jz ?_|(refine jjA ?_; (first|refine jjC ?_|refine jjG ?_))|(refine jjA ?_; (refine jjN rfl ?_ ?_ <;> intro _)))
      · have hlt : (xi : Int) < st.1 := by assumption
        have hyes : (opS st (xi : Int)).2.1 = st.2.1 ++ [(st.1, (xi : Int))] := by simp only [opS]; rw [if_pos hlt]
        have hyes2 : (opS st (xi : Int)).2.2 = st.2.2.set xi ((st.2.1.length : Int) + 1) := by
          show st.2.2.set _ ((opS st (xi : Int)).2.1.length : Int) = _
          rw [hyes, List.length_append]; rfl
        refine Ops.storeC (b := bn) (j := xi) rfl (eI rfl) rfl rfl (by rw [List.length_map]; omega) ?_
        (intro V3 hp3; have hB3 : Bk V3 bn ((st.2.2.set xi ((st.2.1.length : Int) + 1)).map intV) 3 := Bk.setI (by omega) ⟨hp3.new⟩; ((refine jz ?_; refine jjC ?_; apply jI; exact eI rfl; refine jY rfl rfl (by omega) ?_; apply jJ; exact eI rfl; refine jz ?_)); refine ⟨rfl, by ((refine Same.upd rfl ?_; refine Same.upd rfl ?_; refine Same.upd rfl ?_; refine Same.upd rfl ?_; refine Same.upd rfl ?_; refine Same.upd rfl ?_; refine Same.upd rfl ?_; refine Same.upd rfl ?_; refine Same.upd rfl ?_; refine Same.upd rfl ?_; refine Same.upd rfl ?_; refine Same.upd rfl ?_; refine Same.upd rfl ?_; refine Same.upd rfl ?_; refine Same.upd rfl ?_; refine Same.upd rfl ?_; refine Same.upd rfl ?_; refine Same.upd rfl ?_; refine Same.upd rfl ?_; refine Same.upd rfl ?_; refine Same.upd rfl ?_; refine Same.upd rfl ?_; refine Same.upd rfl ?_; refine Same.upd rfl ?_; refine Same.upd rfl ?_; refine Same.upd rfl ?_; refine Same.upd rfl ?_; refine Same.upd rfl ?_; refine Same.upd rfl ?_; refine Same.upd rfl ?_; refine Same.upd rfl ?_; refine Same.upd rfl ?_; refine Same.upd rfl ?_; exact Same.ovN)), d.length - ((j + 1) + 1), by omega, (j + 1) + 1, congrArg (Value.int .i64) (by omega), by rw [hst1]; rw [hyes, List.length_append]; exact rfl, rfl, by omega, (hOn.trans (.ofExt hS3.ext)).trans (.ofPut hp3), by rw [hst1]; rw [hyes2]; exact hB3⟩)
      · have hlt : ¬ (xi : Int) < st.1 := by assumption
        have hno : (opS st (xi : Int)).2.1 = st.2.1 := by simp only [opS]; rw [if_neg hlt]
        have hno2 : (opS st (xi : Int)).2.2 = st.2.2.set xi (st.2.1.length : Int) := by
          show st.2.2.set _ ((opS st (xi : Int)).2.1.length : Int) = _
          rw [hno]; rfl
        refine Ops.storeC (b := bn) (j := xi) rfl (eI rfl) rfl rfl (by rw [List.length_map]; omega) ?_
        (intro V3 hp3; have hB3 : Bk V3 bn ((st.2.2.set xi (st.2.1.length)).map intV) 3 := Bk.setI (by omega) ⟨hp3.new⟩; ((refine jz ?_; refine jjC ?_; apply jI; exact eI rfl; refine jY rfl rfl (by omega) ?_; apply jJ; exact eI rfl; refine jz ?_)); refine ⟨rfl, by ((refine Same.upd rfl ?_; refine Same.upd rfl ?_; refine Same.upd rfl ?_; refine Same.upd rfl ?_; refine Same.upd rfl ?_; refine Same.upd rfl ?_; refine Same.upd rfl ?_; refine Same.upd rfl ?_; refine Same.upd rfl ?_; refine Same.upd rfl ?_; refine Same.upd rfl ?_; refine Same.upd rfl ?_; refine Same.upd rfl ?_; refine Same.upd rfl ?_; refine Same.upd rfl ?_; refine Same.upd rfl ?_; refine Same.upd rfl ?_; refine Same.upd rfl ?_; refine Same.upd rfl ?_; refine Same.upd rfl ?_; refine Same.upd rfl ?_; refine Same.upd rfl ?_; refine Same.upd rfl ?_; refine Same.upd rfl ?_; refine Same.upd rfl ?_; refine Same.upd rfl ?_; refine Same.upd rfl ?_; refine Same.upd rfl ?_; refine Same.upd rfl ?_; refine Same.upd rfl ?_; exact Same.ovN)), d.length - ((j + 1) + 1), by omega, (j + 1) + 1, congrArg (Value.int .i64) (by omega), by rw [hst1]; rw [hno]; exact rfl, rfl, by omega, (hOn.trans (.ofExt hS3.ext)).trans (.ofPut hp3), by rw [hst1]; rw [hno2]; exact hB3⟩)
  · obtain rfl : i = d.length := by omega
    have ht : (ordF d).take d.length = ordF d := List.take_of_length_le (by omega)
    rw [ht] at hst
    have hRN := Bk.row hB (by intro y hy; obtain ⟨z, _, rfl⟩ := List.mem_map.1 hy; rfl) (by rw [List.length_map]; omega)
    rw [List.length_map, hlen.1, hst] at hRN
    rw [hst] at hlen ⊢
    (refine jjB ?_; refine jjB ?_; refine jjC ?_; apply jI; exact eI rfl; apply jI; exact eS rfl; refine jh rfl ?_; refine jja rfl rfl (by omega) ?_; refine jz ?_; refine jjK rfl ?_; refine jjE ?_; refine jjB ?_; refine jjC ?_; apply jI; exact eS rfl; apply jI; exact eI rfl; refine jY rfl rfl (by omega) ?_; apply jJ; exact eS rfl; apply jJ; exact eI rfl; refine jz ?_; refine jjF ?_; refine jC rfl rfl rfl ⟨inferInstance, ?_⟩)
    exact ⟨some ⟨bn, 0, none⟩, d.length, rfl, hRN⟩
end
end Go.Proofs.YtpijeomnplmakaaDoor

/- The reference of rack: Runs, power, passes, Passes, SamePairs. -/
namespace Go.Proofs.YtpijeomnplmakaaDoor
open Go.RowKit

instance eqPair : EqT Tryd.prog 85 encII := eqT_arr2 Tryd.underlying85 inferInstance (inferInstance : TS Tryd.prog 3 _ 1 _) (by kernel_rfl)

theorem power_ref (b n : Nat) (w : World) (hb : 1 ≤ b) (hn : n ≤ 1000000) (h : b ^ n ≤ 1000000) : Ct Tryd.prog 45 [.int .i64 (b : Int), .int .i64 (n : Int)] w fun v _ => v = .int .i64 ((b ^ n : Nat) : Int) := by
  refine Ct.ofW (by simp) ?_
  (refine jjB ?_; refine jjC ?_; apply jJ; exact eI rfl; refine jz ?_; refine jjB ?_; refine jjC ?_; apply jJ; exact eI rfl; refine jz ?_; refine jjB ?_; refine jjB ?_; refine jjC ?_; apply jJ; exact eI rfl; refine jz ?_; refine jjD ?_)
  refine W.loop (7 :: 8 :: 9 :: 12 :: 13 :: 14 :: 5 :: 10 :: 11 :: 6 :: []) (fun g s' _ => ∃ i : Nat, s' 6 = .int .i64 ((i : Nat) : Int) ∧ s' 5 = .int .i64 ((b ^ i : Nat) : Int) ∧ g = n - i ∧ i ≤ n) n ⟨0, rfl, by simp only [Nat.pow_zero]; exact rfl, rfl, Nat.zero_le _⟩ ?_
  rintro _ sd w1 hS1 ⟨i, h6, h5, rfl, hi⟩
  refine W.fix h6 (W.fix (d := 5) h5 ?_)
  clear h6 h5
  by_cases hin : i < n
  · have h1 : b ^ (i + 1) ≤ b ^ n := Nat.pow_le_pow_right hb hin
    have hm : ((b ^ i : Nat) : Int) * (b : Int) = ((b ^ (i + 1) : Nat) : Int) := by rw [Nat.pow_succ]; push_cast; rfl
    obtain ⟨p, hp⟩ : ∃ p, p = b ^ i := ⟨_, rfl⟩
    obtain ⟨q, hq⟩ : ∃ q, q = b ^ (i + 1) := ⟨_, rfl⟩
    obtain ⟨r, hr⟩ : ∃ r, r = b ^ n := ⟨_, rfl⟩
    rw [← hp, ← hq] at hm
    rw [← hq, ← hr] at h1
    rw [← hr] at h
    rw [← hp]
    (refine jjB ?_; refine jjB ?_; refine jjC ?_; apply jI; exact eI rfl; apply jI; exact eI rfl; refine jjZ rfl rfl (by omega) ?_; refine jz ?_; refine jjJ rfl ?_; refine jjG ?_; refine jjB ?_; refine jjD ?_; refine jjC ?_; apply jI; exact eI rfl; apply jI; exact eI rfl)
    refine Ops.mul rfl rfl (by rw [hm]; omega) ?_
    rw [hm]
    (apply jJ; exact eI rfl; refine jz ?_; refine jjC ?_; apply jI; exact eI rfl; refine jY rfl rfl (by omega) ?_; apply jJ; exact eI rfl; refine jz ?_)
    exact ⟨rfl, by ((refine Same.upd rfl ?_; refine Same.upd rfl ?_; refine Same.upd rfl ?_; refine Same.upd rfl ?_; refine Same.upd rfl ?_; refine Same.upd rfl ?_; refine Same.upd rfl ?_; refine Same.upd rfl ?_; refine Same.upd rfl ?_; refine Same.upd rfl ?_; refine Same.upd rfl ?_; refine Same.upd rfl ?_; exact Same.ovN)), n - (i + 1), by omega, inferInstance, i + 1, congrArg (Value.int .i64) (by omega), by rw [← hq]; exact rfl, rfl, by omega⟩
  · obtain rfl : i = n := by omega
    (refine jjB ?_; refine jjB ?_; refine jjC ?_; apply jI; exact eI rfl; apply jI; exact eI rfl; refine jja rfl rfl (by omega) ?_; refine jz ?_; refine jjK rfl ?_; refine jjE ?_; refine jjB ?_; refine jjC ?_; apply jI; exact eI rfl; apply jJ; exact eI rfl; refine jz ?_; refine jjF ?_; refine jB rfl rfl ⟨inferInstance, ?_⟩)
    exact rfl

section
variable (a : Option Addr) (c : Nat) (d : List Int) (w : World) [hrow : RowI w (.slice a d.length c) false 1 (d.map intV)]
theorem passes_ref (b : Nat) (hl : d.length ≤ 60) (hb : 2 ≤ b ∧ b ≤ 20) : Ct Tryd.prog 26 [.slice a d.length c, .int .i64 (b : Int)] w fun v _ => ∃ p : Nat, PassR b (endF d).length p ∧ v = .int .i64 (p : Int) := by
  have hel := endF_len d
  refine Ct.ofW (by simp) ?_
  (refine jjB ?_; refine jjC ?_; apply jJ; exact eI rfl; refine jz ?_; refine jjB ?_; refine jjC ?_; apply jI; exact eS rfl)
  refine jjQ (runs_ref a c d _ (by omega)) rfl rfl ?_
  rintro _ w3 hS3 ⟨a3, c3, rfl, hR3⟩
  (apply jI; exact eU rfl; refine ju rfl rfl ?_; refine ju rfl rfl ?_; apply jJ; exact eS rfl; apply jJ; exact eI rfl; refine jz ?_; refine jjB ?_; refine jjC ?_; apply jJ; exact eI rfl; refine jz ?_; refine jjB ?_; refine jjD ?_)
  generalize (endF d).length = m at *
  refine W.loop (13 :: 14 :: 15 :: 16 :: 17 :: 18 :: 19 :: 7 :: []) (fun g s' _ => ∃ p : Nat, s' 7 = .int .i64 ((p : Nat) : Int) ∧ g = 61 - p ∧ ∀ q, q < p → b ^ q ≤ m) 61 ⟨0, rfl, rfl, by omega⟩ ?_
  rintro _ sd w4 hS4 ⟨p, h7, rfl, hpre⟩
  refine W.fix h7 ?_
  clear h7
  have hp60 := p_le_60 hb.1 (by omega) hpre
  have hpw := pow_le_60 hb.2 (by omega) hpre
  (refine jjB ?_; refine jjB ?_; refine jjC ?_; apply jI; exact eI rfl; apply jI; exact eI rfl)
  refine jjQ (power_ref b p _ (by omega) (by omega) (by omega)) rfl rfl ?_
  rintro _ w5 hS5 rfl
  repeat' (first|((first|apply jI|apply jJ); exact eI rfl)|(refine jW ?_; (first|refine jX rfl rfl ?_|refine jY rfl rfl (by omega) ?_))|refine jz ?_|(refine jjA ?_; (first|refine jjB ?_|refine jjC ?_|refine jjD ?_|refine jjE ?_|refine jjF ?_|refine jjG ?_))|(refine jjA ?_; (refine jjN rfl ?_ ?_ <;> intro _))|refine jB rfl rfl ⟨inferInstance, ?_⟩)
  · refine ⟨rfl, by ((refine Same.upd rfl ?_; refine Same.upd rfl ?_; refine Same.upd rfl ?_; refine Same.upd rfl ?_; refine Same.upd rfl ?_; refine Same.upd rfl ?_; refine Same.upd rfl ?_; refine Same.upd rfl ?_; refine Same.upd rfl ?_; exact Same.ovN)), 61 - (p + 1), by omega, inferInstance, p + 1, congrArg (Value.int .i64) (by omega), rfl, ?_⟩
    have : ((b ^ p : Nat) : Int) < (m : Int) + 1 := by assumption
    intro q hq
    by_cases e : q = p
    · subst e; omega
    · exact hpre q (by omega)
  · have : ¬ ((b ^ p : Nat) : Int) < (m : Int) + 1 := by assumption
    exact ⟨p, ⟨by omega, hpre⟩, rfl⟩

end

end Go.Proofs.YtpijeomnplmakaaDoor

/- slices.DeleteFunc of texts that are empty. -/
namespace Go.Proofs.YtpijeomnplmakaaDoor
open Go.RowKit

end Go.Proofs.YtpijeomnplmakaaDoor

/- The proof engine, part 26: entries of maps, what is read of them. -/
namespace Go.Proofs.YtpijeomnplmakaaDoor
open Go.RowKit

theorem MapN.app {κ : Type} [DecidableEq κ] {encK : κ → Value} {w w' : World} {b B st : Nat} {m : List (κ × Value)} {k : κ} {v : Value} (h : MapN encK w b m k st) (a : App B w w' v) (hne : v.ownBlock ≠ some b) : MapN encK w' b m k st := by
  obtain ⟨es, cl, i, h1, h2⟩ := h.h
  exact ⟨es, cl, i, a.other h1 hne, h2⟩
section rules
variable {P : Program} {ro : Option Nat} {n : Nat} {all rest : List Oper} {K : Sl → World → Prop} {s : Sl} {w : World} {d : Nat} {ty : Nat} {pos : String} {af : Array Edge}
variable {x y : Operand} {t : Nat}
end rules
end Go.Proofs.YtpijeomnplmakaaDoor

/- Places and slips as keys of maps. -/
namespace Go.Proofs.YtpijeomnplmakaaDoor
open Go.RowKit

section
variable {P : Program} {κ : Type} [DecidableEq κ] {enc : κ → Value} {kt : Nat}
theorem findAsking_of [he : EqT P kt enc] (w : World) (k : κ) : ∀ (es : List MapEntry) (ks : List κ) (i : Nat), es.map (·.key) = ks.map enc →
    (Instr.findAsking kt (enc k) es i).run P w = .ok ((ks.findIdx? (fun x => decide (k = x))).map fun j => (i + j, ((es[j]?).map (·.val)).getD undef)) w
  | [], [], i, _ => rfl
  | [], _ :: _, i, h => by simp at h
  | _ :: _, [], i, h => by simp at h
  | e :: es, x :: ks, i, h => by
    simp only [List.map_cons, List.cons.injEq] at h
    have ih := findAsking_of w k es ks (i + 1) h.2
    have hq := he.eq w k x
    simp only [Instr.findAsking, Sem.run_bind, h.1, hq, Result.andThen]
    by_cases hk : k = x
    · simp [hk, List.findIdx?_cons]
    · simp only [hk, decide_false, ih, List.findIdx?_cons, Bool.false_eq_true, if_false, Option.map_map]
      congr 2
      funext j
      simp; omega
theorem keyL_struct {fs : Array Field} (hu : P.underlying kt = some (.struct fs)) [he : EqT P kt enc] (hag : ∀ k, ∃ cs, enc k = .agg cs) (hc : ∀ (em : Bool) (w : World) (k : κ), (Instr.checkKey em 10000 kt (enc k)).run P w = .ok () w) (hb : ∀ k, Instr.sameBits 10000 (enc k) (enc k) = true) : KeyL P kt enc where
  chk := hc
  find w k es ks hk := by
    have h1 := findAsking_of (P := P) (enc := enc) (kt := kt) w k es ks 0 hk
    simp only [Instr.findKey, Sem.run_bind, run_underlying hu, Result.andThen]
    cases es with
    | nil =>
      cases ks with
      | nil => rfl
      | cons x ks => simp at hk
    | cons e es =>
      have : Instr.findNow (.struct fs) (enc k) (e :: es) 0 = none := by
        obtain ⟨cs, h⟩ := hag k
        simp [Instr.findNow, Instr.sameNow]
      rw [this]
      simpa using h1
  bits := hb
end
theorem chk_place (em : Bool) (w : World) (n : Nat) (p : Pl) : (Instr.checkKey em (n + 2) 37 (encPl p)).run Tryd.prog w = .ok () w := by
  have h := Tryd.underlying37
  have hi := Tryd.underlying3
  simp [Instr.checkKey, run_underlying h, run_underlying hi, part, run_isAgg w tu3, TypeDesc.isAgg]
instance : KeyL Tryd.prog 37 encPl := keyL_struct Tryd.underlying37 (fun k => ⟨_, rfl⟩) (fun em w k => chk_place em w 9998 k) (fun k => by simp [Instr.sameBits])
theorem chk_slip (em : Bool) (w : World) (n : Nat) (x : Slp) : (Instr.checkKey em (n + 3) 39 (encSl x)).run Tryd.prog w = .ok () w := by
  have h := Tryd.underlying39
  have hs := Tryd.underlying9
  have hp := chk_place em w n x.1
  have e1 : (part 37 #[.int .i64 x.1.1, .int .i64 x.1.2.1, .int .i64 x.1.2.2, .string x.2.1, .string x.2.2.1, .string x.2.2.2] 0).run Tryd.prog w = .ok (encPl x.1) w := part_agg tu37 rfl ts37 rfl
  rw [Instr.checkKey]
  simp [run_underlying h, e1, hp, part, run_isAgg w tu9, TypeDesc.isAgg, Instr.checkKey, run_underlying hs]
instance : KeyL Tryd.prog 39 encSl := keyL_struct Tryd.underlying39 (fun k => ⟨_, rfl⟩) (fun em w k => chk_slip em w 9997 k) (fun k => by simp [Instr.sameBits, byteArray_beq])
end Go.Proofs.YtpijeomnplmakaaDoor

/- The reference: Twin. -/
namespace Go.Proofs.YtpijeomnplmakaaDoor
open Go.RowKit

/-- Lines of the call's own. -/
structure OwnLn (w : World) (B : Nat) (v : Value) (ys : List Ln) : Prop where
  out : OwnL w B 74 false 1 v (ys.map encLn)
  ins : ∀ y ∈ ys, OwnL w B 9 false 1 (encLn y) (y.2.2.map strV)
theorem OwnLn.ext {w w' : World} {B : Nat} {v : Value} {ys : List Ln} (h : OwnLn w B v ys) (hs : Ext w w') : OwnLn w' B v ys := ⟨h.out.ext hs, fun y hy => (h.ins y hy).ext hs⟩
theorem OwnLn.put {w w' : World} {B b : Nat} {o : Obj} {v : Value} {ys : List Ln} (h : OwnLn w B v ys) (p : PutO w w' b o) (hb : b < B) : OwnLn w' B v ys :=
  ⟨h.out.put p fun e => by have := (h.out.block _ e).1; omega, fun y hy => (h.ins y hy).put p fun e => by have := ((h.ins y hy).block _ e).1; omega⟩
theorem OwnLn.mono {w : World} {B B' : Nat} {v : Value} {ys : List Ln} (h : OwnLn w B v ys) (hB : B' ≤ B) : OwnLn w B' v ys := ⟨h.out.mono hB, fun y hy => (h.ins y hy).mono hB⟩
theorem OwnLn.only {kb : Nat} {w w' : World} {B : Nat} {v : Value} {ys : List Ln} (h : OwnLn w B v ys) (o : Only kb w w') (hB : kb < B) : OwnLn w' B v ys := ⟨o.own h.out hB, fun y hy => o.own (h.ins y hy) hB⟩
section
variable (a : Option Addr) (c : Nat) (cs : List Ch) (w : World) [hrow : RowI w (.slice a cs.length c) true 2 (cs.map encCh)] [hT : TextI w cs]
end
end Go.Proofs.YtpijeomnplmakaaDoor

/- leaf: the text of a copy. -/
namespace Go.Proofs.YtpijeomnplmakaaDoor
open Go.RowKit

end Go.Proofs.YtpijeomnplmakaaDoor

/- leaf: copies that are right. -/
namespace Go.Proofs.YtpijeomnplmakaaDoor
open Go.RowKit

end Go.Proofs.YtpijeomnplmakaaDoor

/- The reference: copies that are great, their twins, comparisons; a reading. -/
namespace Go.Proofs.YtpijeomnplmakaaDoor
open Go.RowKit

def greatS (x : Slp) : Bool := decide (40 < x.2.1.size) || (decide (120 < x.2.2.1.size) || decide (120 < x.2.2.2.size))
theorem Great_ref3 (x : Slp) (w : World) : Ct Tryd.prog 11 [encSl x] w fun v _ => v = .bool (greatS x) := by
  refine Ct.ofW (by simp) ?_
  (refine jjB ?_; refine jjC ?_)
  (refine jy rfl ?_; intro b1 w_b1 hb_b1 hs_b1 hS_b1 hk_b1; have hA_b1 := At.ofBlock hk_b1)
  by_cases h1 : 40 < x.2.1.size
  · (apply jJ; exact eB rfl; refine jz ?_; refine jjB ?_; refine jjC ?_; refine jm ?_; refine jn rfl ?_; refine jN rfl rfl rfl ?_; refine ji rfl ?_; refine jjd rfl rfl (by omega) ?_; apply jI; exact eB rfl; refine jU rfl rfl rfl rfl ?_; refine jU rfl rfl rfl rfl ?_; refine jU rfl rfl rfl rfl ?_; refine jU rfl rfl rfl rfl ?_; apply jK rfl; exact eB rfl; apply jI; exact eB rfl; refine jU rfl rfl rfl rfl ?_; refine jU rfl rfl rfl rfl ?_; refine jU rfl rfl rfl rfl ?_; refine jU rfl rfl rfl rfl ?_; apply jK rfl; exact eB rfl; apply jJ; exact eB rfl; refine jz ?_; refine jjF ?_; refine jB rfl rfl ⟨inferInstance, ?_⟩)
    rw [greatS, decide_eq_true h1]; exact rfl
  by_cases h2 : 120 < x.2.2.1.size
  · (apply jJ; exact eB rfl; refine jz ?_; refine jjB ?_; refine jjC ?_; refine jm ?_; refine jn rfl ?_; refine jN rfl rfl rfl ?_; refine ji rfl ?_; refine jje rfl rfl (by omega) ?_; apply jI; exact eB rfl; refine jT rfl rfl rfl ?_; refine jm ?_; refine jn rfl ?_; refine jT rfl rfl rfl ?_; refine jN rfl rfl rfl ?_; refine jT rfl rfl rfl ?_; refine ji rfl ?_; refine jT rfl rfl rfl ?_; refine jjd rfl rfl (by omega) ?_; apply jL rfl; exact eB rfl; apply jI; exact eB rfl; refine jU rfl rfl rfl rfl ?_; refine jU rfl rfl rfl rfl ?_; refine jU rfl rfl rfl rfl ?_; refine jU rfl rfl rfl rfl ?_; apply jK rfl; exact eB rfl; apply jJ; exact eB rfl; refine jz ?_; refine jjF ?_; refine jB rfl rfl ⟨inferInstance, ?_⟩)
    rw [greatS, decide_eq_false h1, decide_eq_true h2]; exact rfl
  by_cases h3 : 120 < x.2.2.2.size
  · (apply jJ; exact eB rfl; refine jz ?_; refine jjB ?_; refine jjC ?_; refine jm ?_; refine jn rfl ?_; refine jN rfl rfl rfl ?_; refine ji rfl ?_; refine jje rfl rfl (by omega) ?_; apply jI; exact eB rfl; refine jT rfl rfl rfl ?_; refine jm ?_; refine jn rfl ?_; refine jT rfl rfl rfl ?_; refine jN rfl rfl rfl ?_; refine jT rfl rfl rfl ?_; refine ji rfl ?_; refine jT rfl rfl rfl ?_; refine jje rfl rfl (by omega) ?_; apply jL rfl; exact eB rfl; apply jI; exact eB rfl; refine jT rfl rfl rfl ?_; refine jm ?_; refine jn rfl ?_; refine jT rfl rfl rfl ?_; refine jN rfl rfl rfl ?_; refine jT rfl rfl rfl ?_; refine ji rfl ?_; refine jT rfl rfl rfl ?_; refine jjd rfl rfl (by omega) ?_; apply jL rfl; exact eB rfl; apply jJ; exact eB rfl; refine jz ?_; refine jjF ?_; refine jB rfl rfl ⟨inferInstance, ?_⟩)
    rw [greatS, decide_eq_false h1, decide_eq_false h2, decide_eq_true h3]; exact rfl
  · (apply jJ; exact eB rfl; refine jz ?_; refine jjB ?_; refine jjC ?_; refine jm ?_; refine jn rfl ?_; refine jN rfl rfl rfl ?_; refine ji rfl ?_; refine jje rfl rfl (by omega) ?_; apply jI; exact eB rfl; refine jT rfl rfl rfl ?_; refine jm ?_; refine jn rfl ?_; refine jT rfl rfl rfl ?_; refine jN rfl rfl rfl ?_; refine jT rfl rfl rfl ?_; refine ji rfl ?_; refine jT rfl rfl rfl ?_; refine jje rfl rfl (by omega) ?_; apply jL rfl; exact eB rfl; apply jI; exact eB rfl; refine jT rfl rfl rfl ?_; refine jm ?_; refine jn rfl ?_; refine jT rfl rfl rfl ?_; refine jN rfl rfl rfl ?_; refine jT rfl rfl rfl ?_; refine ji rfl ?_; refine jT rfl rfl rfl ?_; refine jje rfl rfl (by omega) ?_; apply jL rfl; exact eB rfl; apply jJ; exact eB rfl; refine jz ?_; refine jjF ?_; refine jB rfl rfl ⟨inferInstance, ?_⟩)
    rw [greatS, decide_eq_false h1, decide_eq_false h2, decide_eq_false h3]; exact rfl
end Go.Proofs.YtpijeomnplmakaaDoor

/- The comparators that slips are ranked by. -/
namespace Go.Proofs.YtpijeomnplmakaaDoor
open Go.Shelf Go.RowKit Go.Lib Go.Sort
def sh_lays106_ren : Go.Shelf.Ren := ⟨fun | 106 => 115 | 213 => 118 | 265 => 119 | n => n, fun | 9 => 9 | 3 => 3 | n => n, fun | n => n⟩

theorem sh_lays106 : Go.Proofs.Lays.n106 Tryd.prog sh_lays106_ren := {
  mixed := by kernel_rfl
  f106 := Tryd.func115.trans (congrArg some (by kernel_rfl))
  f213 := Tryd.func118.trans (congrArg some (by kernel_rfl))
  f265 := Tryd.func119.trans (congrArg some (by kernel_rfl))
  t3 := Tryd.underlying3
  a3 := Tryd.isAgg3
  z3 := Tryd.sizeOf3
  v3 := Tryd.zeroValue3
  t9 := Tryd.underlying9
  a9 := Tryd.isAgg9
  z9 := Tryd.sizeOf9
  v9 := Tryd.zeroValue9 }

theorem sh_strings_Compare (a b : ByteArray) (w : World) :
    Calls Tryd.prog 115 #[.string a, .string b] w fun e w' => e = .returned (.int .i64 (Lib.compareBytes a.data.toList b.data.toList)) ∧ w' = w := Any.strings_Compare sh_lays106 a b w

theorem compareBytes_if : ∀ a b : List UInt8, Lib.compareBytes a b = if Op.bytesLess a b then -1 else if a = b then 0 else 1
  | [], [] => rfl
  | [], _ :: _ => rfl
  | _ :: _, [] => rfl
  | x :: a, y :: b => by
    have ih := compareBytes_if a b
    rw [Lib.compareBytes, Op.bytesLess]
    by_cases h1 : x < y
    · have h1' : x.toNat < y.toNat := UInt8.lt_iff_toNat_lt.1 h1
      rw [if_pos h1]
      simp [h1]
    · rw [if_neg h1]
      by_cases h2 : y < x
      · have h2' : y.toNat < x.toNat := UInt8.lt_iff_toNat_lt.1 h2
        have hne : x ≠ y := by rintro rfl; omega
        rw [if_pos h2]
        simp [h1, hne]
      · have h1' := mt UInt8.lt_iff_toNat_lt.2 h1
        have h2' := mt UInt8.lt_iff_toNat_lt.2 h2
        obtain rfl : x = y := UInt8.toNat_inj.1 (by omega)
        rw [if_neg h2, ih]
        simp
theorem Ops.boxE {P : Program} {ro : Option Nat} {n : Nat} {all rest : List Oper} {K : Sl → World → Prop} {s : Sl} {w : World} {d : Nat} {ty : Nat} {pos : String} {af : Array Edge} {x : Operand} {t : Nat} {v : Value} (hx : ev n s x = v)
    (h : ∀ b w', w' = w.alloc (.cells v.cells t) → b = w.heap.size → w'.heap.size = w.heap.size + 1 → Step w w' → w'.heap[b]? = some (.cells v.cells t (0, 0)) → Ops P ro n all rest K (upd s d (.pointer (some ⟨b, 0, none⟩))) w') :
    Ops P ro n all (⟨some d, .box t x, ty, pos, af, none⟩ :: rest) K s w := by
  refine Ops.ofRun (w' := w.alloc (.cells v.cells t)) rfl (by simp [execOp, hx, Instr.box, newVar, newRow]) (h w.heap.size _ rfl rfl (by simp) ⟨(Below.refl _ w).alloc (Nat.le_refl _) _⟩ (World.alloc_heap_new w _))
theorem strings_cmp (a b : ByteArray) (w : World) : Calls Tryd.prog 115 [Value.string a, Value.string b].toArray w fun e w' => e = .returned (.int .i64 (cmpS a b)) ∧ w' = w := by
  have h := sh_strings_Compare a b w
  refine Calls.mono h fun e w' ⟨h1, h2⟩ => ⟨?_, h2⟩
  rw [h1, compareBytes_if, cmpS, ← ByteArray.toList_eq, ← ByteArray.toList_eq]
  have e : (a.toList = b.toList) = (a = b) := propext ⟨toList_inj, fun h => by rw [h]⟩
  simp only [e]
/-- A slip that may be ordered. -/
def GdS (x : Slp) : Prop := slipB x = true ∧ SmallS x
/-- A comparator of slips. -/
def CmpQ (q : Nat) (cf : Slp → Slp → Int) : Prop := ∀ (x y : Slp) (w : World), MxI w → GdS x → GdS y → Calls Tryd.prog q [encSl x, encSl y].toArray w fun e w' => e = .returned (.int .i64 (cf x y)) ∧ Ext w w' ∧ w.drawn ≤ w'.drawn
theorem by2_slip : CmpQ 114 (cmpBy 2) := fun x y w _ _ _ => by
  refine Calls.ofW (by simp) ?_
  (refine jjB ?_; refine jjC ?_)
  refine Ops.boxE rfl ?_
  intro b1 w1 hw1 hb1 hs1 hS1 hk1
  have hA1 := At.ofBlock hk1
  refine Ops.boxE rfl ?_
  intro b2 w2 hw2 hb2 hs2 hS2 hk2
  have hA2 := At.ofBlock hk2
  (apply jJ; exact eI rfl; refine jz ?_; refine jjB ?_; refine jjC ?_; refine jm ?_; refine jn rfl ?_; refine jN rfl rfl rfl ?_; refine jm ?_; refine jn rfl ?_; refine jN rfl rfl rfl ?_)
  refine Ops.callR rfl (Enters.h (P := Tryd.prog) (g := 115)) rfl (strings_cmp _ _ _) ?_
  rintro e w3 ⟨rfl, rfl⟩
  refine ⟨_, rfl, ?_⟩
  (apply jJ; exact eI rfl; refine jz ?_; refine jjF ?_)
  exact jB rfl rfl ⟨rfl, inferInstance, by rw [hw2, hw1]; exact Nat.le_refl _⟩
theorem by3_slip : CmpQ 116 (cmpBy 3) := fun x y w _ _ _ => by
  refine Calls.ofW (by simp) ?_
  (refine jjB ?_; refine jjC ?_)
  refine Ops.boxE rfl ?_
  intro b1 w1 hw1 hb1 hs1 hS1 hk1
  have hA1 := At.ofBlock hk1
  refine Ops.boxE rfl ?_
  intro b2 w2 hw2 hb2 hs2 hS2 hk2
  have hA2 := At.ofBlock hk2
  (apply jJ; exact eI rfl; refine jz ?_; refine jjB ?_; refine jjC ?_; refine jm ?_; refine jn rfl ?_; refine jN rfl rfl rfl ?_; refine jm ?_; refine jn rfl ?_; refine jN rfl rfl rfl ?_)
  refine Ops.callR rfl (Enters.h (P := Tryd.prog) (g := 115)) rfl (strings_cmp _ _ _) ?_
  rintro e w3 ⟨rfl, rfl⟩
  refine ⟨_, rfl, ?_⟩
  (apply jJ; exact eI rfl; refine jz ?_; refine jjF ?_)
  exact jB rfl rfl ⟨rfl, inferInstance, by rw [hw2, hw1]; exact Nat.le_refl _⟩
theorem by4_slip : CmpQ 117 (cmpBy 4) := fun x y w _ _ _ => by
  refine Calls.ofW (by simp) ?_
  (refine jjB ?_; refine jjC ?_)
  refine Ops.boxE rfl ?_
  intro b1 w1 hw1 hb1 hs1 hS1 hk1
  have hA1 := At.ofBlock hk1
  refine Ops.boxE rfl ?_
  intro b2 w2 hw2 hb2 hs2 hS2 hk2
  have hA2 := At.ofBlock hk2
  (apply jJ; exact eI rfl; refine jz ?_; refine jjB ?_; refine jjC ?_; refine jm ?_; refine jn rfl ?_; refine jN rfl rfl rfl ?_; refine jm ?_; refine jn rfl ?_; refine jN rfl rfl rfl ?_)
  refine Ops.callR rfl (Enters.h (P := Tryd.prog) (g := 115)) rfl (strings_cmp _ _ _) ?_
  rintro e w3 ⟨rfl, rfl⟩
  refine ⟨_, rfl, ?_⟩
  (apply jJ; exact eI rfl; refine jz ?_; refine jjF ?_)
  exact jB rfl rfl ⟨rfl, inferInstance, by rw [hw2, hw1]; exact Nat.le_refl _⟩
end Go.Proofs.YtpijeomnplmakaaDoor

/- The proof engine, part 33: ends of slices, told outright; rows beside what is appended. -/
namespace Go.Proofs.YtpijeomnplmakaaDoor
open Go.RowKit

theorem App.row {B : Nat} {w w' : World} {u v : Value} {agg : Bool} {k : Nat} {xs : List Value} (a : App B w w' u) (h : RowV w agg k v xs) (hne : ∀ g, u.ownBlock = some g → v.ownBlock ≠ some g) : RowV w' agg k v xs :=
  ⟨h.len, h.fit, h.at_.imp id fun ⟨b, o, c, hv, hl, hc⟩ => ⟨b, o, c, hv, hl, fun j x hx => a.at_ (hc j x hx) (fun e => hne b e (by rw [hv]; rfl))⟩⟩
section rules
variable {P : Program} {ro : Option Nat} {n : Nat} {all rest : List Oper} {K : Sl → World → Prop} {s : Sl} {w : World} {d t e ty : Nat} {pos : String} {af : Array Edge} {x : Operand}
theorem Ops.sliceXLv {k bytes l c lo : Nat} {z : Value} {a : Option Addr} {i : Int} {k1 : IntKind} {xl : Operand} (hx : ev n s x = .slice a l c) (hl : ev n s xl = .int k1 i)
    (hi' : i = (lo : Int)) (h1 : lo ≤ l) [ht : TSl P t e] [hz : TS P e z k bytes]
    (h : Ops P ro n all rest K (upd s d (cutV a c k lo l)) w) : Ops P ro n all (⟨some d, .slice t x (some xl) none none, ty, pos, af, none⟩ :: rest) K s w := by
  subst hi'
  refine Ops.ofRun (v := cutV a c k lo l) (w' := w) rfl ?_ h
  simp [cutV, execOp, Instr.sliceAt, Instr.slice, Instr.sliceBounds, Instr.sliceBound, hx, hl, run_underlying ht.h, asIntOf, h1, run_sizeOf' w hz]
end rules
end Go.Proofs.YtpijeomnplmakaaDoor

/- The proof engine, part 27: a struct that lies within a struct of a known place. -/
namespace Go.Proofs.YtpijeomnplmakaaDoor
open Go.RowKit
section rules
variable {P : Program} {ro : Option Nat} {n : Nat} {all rest : List Oper} {K : Sl → World → Prop} {s : Sl} {w : World} {d : Nat} {ty : Nat} {pos : String} {af : Array Edge}
variable {x : Operand} {t : Nat}
theorem Ops.loadOA {b o off : Nat} {cs cs' : List Value} {dd : TypeDesc} {z : Value} {size bytes : Nat} (hc : At w b o cs) (hx : ev n s x = .pointer (some ⟨b, o + off, none⟩)) [ht : TU P t dd] (hs : TypeDesc.isAgg dd = true) [hz : TS P t z size bytes]
    (hl : (cs.drop off).take size = cs') (hn : cs'.length = size) (h : Ops P ro n all rest K (upd s d (.agg cs'.toArray)) w) : Ops P ro n all (⟨some d, .load t x, ty, pos, af, none⟩ :: rest) K s w :=
  Ops.loadA (cs := cs') ⟨fun i v hv => by
    refine (hc.drop off).h i v ?_
    rw [← hl, List.getElem?_take] at hv
    split at hv
    · exact hv
    · cases hv⟩ hx hs hn h
end rules
end Go.Proofs.YtpijeomnplmakaaDoor

/- slices at slips: Clone, BinarySearchFunc. -/
namespace Go.Proofs.YtpijeomnplmakaaDoor
open Go.RowKit Go.Sort

theorem all_encSl (l : List Slp) : (l.map encSl).all (fun v => v.cells.toList.all (·.oneCell')) = true := by
  rw [List.all_eq_true]
  intro x hx
  obtain ⟨b, _, rfl⟩ := List.mem_map.1 hx
  rfl
theorem Clone_Slip (a : Option Addr) (c : Nat) (l : List Slp) (w : World) (hl : l.length ≤ 1000000) [hrow : RowI w (.slice a l.length c) true 6 (l.map encSl)] :
    Ct Tryd.prog 14 [.slice a l.length c] w fun v w' => ∃ a' c', v = .slice a' l.length c' ∧ OwnL w' w.heap.size 39 true 6 (.slice a' l.length c') (l.map encSl) := by
  refine Ct.ofW (by simp) ?_
  (refine jjB ?_; refine jjC ?_; apply jJ; exact eS rfl; refine jz ?_; refine jjB ?_; refine jjB ?_; refine jjC ?_; apply jI; exact eS rfl)
  refine Ops.eqlNil rfl rfl ?_
  repeat' (first|(apply jJ; exact eS rfl)|refine jz ?_|(refine jjA ?_; (first|refine jjB ?_|refine jjC ?_|refine jjF ?_|refine jjG ?_))|(refine jjA ?_; (refine jjO rfl ?_ ?_ <;> intro _))|refine jB rfl rfl ⟨inferInstance, ?_⟩)
  · obtain rfl : a = none := by cases a with
      | none => rfl
      | some x => cases ‹(some x).isNone = true›
    have e : l = [] := by have := row_none hrow.h; simpa using this
    subst e
    exact ⟨none, 0, rfl, OwnL.nil _ _ _ _ _⟩
  · refine Ops.buildSlice0 ?_
    intro b3 w4 hb3 hs4 hS4 hk4
    have hO4 := OwnL.empty (agg := true) (k := 6) (B := w.heap.size) (by omega) hk4
    (apply jI; exact eS rfl)
    refine Ops.appendL hO4 (by omega) (hrow.h.ext inferInstance) rfl rfl rfl rfl (all_encSl l) ?_ ?_ ?_
    · simp only [List.length_map, List.length_nil]; omega
    · simp only [List.length_map, List.length_nil]; omega
    intro v5 w5 hA hO5 _ _
    rw [List.nil_append] at hO5
    obtain ⟨a5, c5, rfl⟩ := hO5.slice
    rw [List.length_map] at hO5 ⊢
    have hE5 : Ext w w5 := hA.ext inferInstance (Nat.le_refl _)
    have hS5 := hE5.toStep
    (apply jJ; exact eS rfl; refine jz ?_; refine jjF ?_; refine jB rfl rfl ⟨inferInstance, ?_⟩)
    exact ⟨a5, c5, rfl, hO5⟩
theorem place_k {w : World} {agg : Bool} {k l c j b o : Nat} {xs : List Value} {x : Value} (h : RowV w agg k (.slice (some ⟨b, o, none⟩) l c) xs) (hj : xs[j]? = some x) : At w b (o + j * k) x.cells.toList := by
  obtain ⟨b', o', e, hA⟩ := h.place' hj
  cases e
  exact hA
set_option maxHeartbeats 4000000 in
theorem Search_slip (q : Nat) [he : Enters Tryd.prog q] (cf : Slp → Slp → Int) (hf : Pre3 cf) (hc : CmpQ q cf)
    (a : Option Addr) (c : Nat) (C : List Slp) (x : Slp) (hgd : ∀ y ∈ C, GdS y) (hgx : GdS x) (w : World) (hl : C.length ≤ 1000000) (hC : C.Pairwise (fun a b => cf a b = -1)) [hmx : MxI w] [hrow : RowI w (.slice a C.length c) true 6 (C.map encSl)] :
    Ct Tryd.prog 18 [.slice a C.length c, encSl x, .func (.func q) #[] #[]] w fun v w' => ∃ b : Bool, v = .tuple #[.int .i64 (((C.filter fun y => decide (cf y x < 0)).length : Nat) : Int), .bool b] := by
  refine Ct.ofW (by simp) ?_
  (refine jjB ?_; refine jjC ?_)
  (refine jy rfl ?_; intro b4 w_b4 hb_b4 hs_b4 hS_b4 hk_b4; have hA_b4 := At.ofBlock hk_b4)
  (apply jJ; exact eI rfl; apply jJ; exact eB rfl; refine jz ?_; refine jjB ?_; refine jjC ?_; apply jI; exact eS rfl; refine jh rfl ?_; apply jJ; exact eI rfl; refine jz ?_; refine jjB ?_; refine jjC ?_; apply jI; exact eI rfl; apply jJ; exact eI rfl; apply jJ; exact eI rfl; refine jz ?_; refine jjB ?_; refine jjD ?_)
  refine W.keep0 [(0, .slice a C.length c), (2, .func (.func q) #[] #[]), (4, .pointer (some ⟨b4, 0, none⟩)), (8, .int .i64 (C.length : Int)), (9, .int .i64 ((0 : Nat) : Int)), (10, .int .i64 ((C.length : Nat) : Int))] ⟨eS rfl, rfl, eP rfl, eI rfl, eI rfl, eI rfl, trivial⟩ fun s0 => ?_
  refine W.loop (15 :: 16 :: 17 :: 18 :: 19 :: 20 :: 21 :: 22 :: 23 :: 11 :: 24 :: 25 :: 26 :: 27 :: 28 :: 29 :: 30 :: 31 :: 32 :: 33 :: 9 :: 34 :: 10 :: []) (fun g s' V => ∃ i j : Nat, s' 9 = .int .i64 (i : Int) ∧ s' 10 = .int .i64 (j : Int) ∧ g = j - i ∧ i ≤ j ∧ j ≤ C.length ∧ (∀ t (h : t < C.length), t < i → cf C[t] x < 0) ∧ (∀ t (h : t < C.length), j ≤ t → ¬ cf C[t] x < 0)) C.length ⟨0, C.length, rfl, rfl, rfl, Nat.zero_le _, Nat.le_refl _, fun t h1 h2 => absurd h2 (Nat.not_lt_zero _), fun t h1 h2 => by omega⟩ ?_
  rintro _ sd V hSV ⟨i, j, h9, h10, rfl, hij, hj, hlo, hhi⟩
  refine W.fix (d := 9) h9 (W.fix (d := 10) h10 ?_)
  clear h9 h10
  by_cases hlt : i < j
  rotate_left
  · obtain rfl : i = j := by omega
    have hcnt := filt_upto (fun y => decide (cf y x < 0)) C i hj (fun t h1 h2 => decide_eq_true (hlo t h1 h2)) (fun t h1 h2 => decide_eq_false (hhi t h1 h2))
    rw [hcnt]
    (refine jjB ?_; refine jjB ?_; refine jjC ?_; apply jI; exact eI rfl; apply jI; exact eI rfl; refine jja rfl rfl (by omega) ?_; refine jz ?_; refine jjK rfl ?_; refine jjE ?_; refine jjB ?_)
    refine W.draw (fun w' => Ext V w') ?_
    intro w5 hS5
    rcases Nat.lt_or_ge i C.length with hi | hi
    · have hg : (C.map encSl)[i]? = some (encSl C[i]) := by rw [List.getElem?_map, List.getElem?_eq_getElem hi]; rfl
      obtain ⟨pb, po, rfl, -⟩ := hrow.h.place' hg
      have hAi : At V pb (po + i * 6) (encSl C[i]).cells.toList := place_k (hrow.h.ext inferInstance) hg
      refine jjV [0, 1, 2, 3, 4, 5, 6, 7] (by decide +kernel) hS5.ext ?_
      (((apply jjT; exact rfl; rintro w' hq; have := hq.toStep; apply jI; exact eI rfl; refine jz ?_; exact ⟨rfl, rfl⟩; apply jjT; exact rfl; rintro w' hq; have := hq.toStep; apply jI; exact eI rfl; refine jz ?_; exact ⟨rfl, rfl⟩; apply jjT; exact rfl; rintro w' hq; have := hq.toStep; apply jI; exact eI rfl; refine jz ?_; exact ⟨rfl, rfl⟩; apply jjT; exact rfl; rintro w' hq; have := hq.toStep; refine jjZ rfl rfl (by omega) ?_; refine jz ?_; exact ⟨rfl, rfl⟩; apply jjT; exact rfl; rintro w' hq; have := hq.toStep; apply jI; exact eB rfl; refine jz ?_; exact ⟨rfl, rfl⟩; apply jjT; exact rfl; rintro w' hq; have := hq.toStep; refine jT rfl rfl rfl ?_; apply jI; exact eF rfl; refine jz ?_; exact ⟨rfl, rfl⟩; apply jjT; exact rfl; rintro w' hq; have := hq.toStep; refine jT rfl rfl rfl ?_; apply jI; exact eS rfl; refine jz ?_; exact ⟨rfl, rfl⟩; apply jjT; exact rfl; rintro w' hq; have := hq.toStep; refine jT rfl rfl rfl ?_; apply jI; exact eI rfl; refine jz ?_; exact ⟨rfl, rfl⟩; refine jjU ?_)))
      refine jjV [8] (by decide +kernel) hS5.ext (jjT (v := .pointer (some ⟨pb, po + i * 6, none⟩)) rfl (fun w' q1 => ?_) (jjU ?_)); (refine jT rfl rfl rfl ?_; refine jH i rfl rfl rfl (by omega) ?_; refine jz ?_; exact ⟨rfl, rfl⟩)
      refine jjV [9] (by decide +kernel) hS5.ext (jjT (v := encSl C[i]) rfl (fun w' q1 => ?_) (jjU ?_)); (refine jT rfl rfl rfl ?_; refine Ops.loadOA (off := 0) (hAi.ext q1) rfl rfl rfl rfl ?_; refine jz ?_; exact ⟨rfl, rfl⟩)
      refine jjV [10] (by decide +kernel) hS5.ext (jjT (v := encSl x) rfl (fun w' q1 => ?_) (jjU ?_)); (have := q1.toStep; refine jT rfl rfl rfl ?_; refine jO rfl rfl rfl rfl ?_; refine jz ?_; exact ⟨rfl, rfl⟩)
      (apply jjW 11; (decide +kernel); exact rfl; (exact inferInstance))
      (refine jT rfl rfl rfl ?_)
      refine Ops.callR rfl (Enters.h (P := Tryd.prog) (g := q)) rfl (hc C[i] x _ inferInstance (hgd _ (List.getElem_mem _)) hgx) ?_
      rintro e w6 ⟨rfl, x6, -⟩
      refine ⟨_, rfl, ?_⟩
      have s6 := x6.toStep
      refine jz ?_
      generalize cf C[i] x = z at *
      refine jjV [12, 13, 14, 15] (by decide +kernel) inferInstance ?_
      (((apply jjT; exact rfl; rintro w' hq; have := hq.toStep; refine jT rfl rfl rfl ?_; refine jb rfl rfl ?_; refine jz ?_; exact ⟨rfl, rfl⟩; apply jjT; exact rfl; rintro w' hq; have := hq.toStep; apply jK rfl; exact eB rfl; refine jz ?_; exact ⟨rfl, rfl⟩; apply jjT; exact rfl; rintro w' hq; have := hq.toStep; apply jJ; exact eI rfl; refine jz ?_; exact ⟨rfl, rfl⟩; apply jjT; exact rfl; rintro w' hq; have := hq.toStep; apply jJ; exact eB rfl; refine jz ?_; exact ⟨rfl, rfl⟩; refine jjU ?_)))
      refine jjX (by decide +kernel) inferInstance ?_
      (refine jjF ?_; refine jC rfl rfl rfl ⟨inferInstance, ?_⟩)
      exact ⟨_, rfl⟩
    · refine jjV [0, 1, 2, 3, 4, 5, 6, 7, 8, 9, 10, 11, 12, 13, 14, 15] (by decide +kernel) hS5.ext ?_
      (((apply jjT; exact rfl; rintro w' hq; have := hq.toStep; apply jI; exact eI rfl; refine jz ?_; exact ⟨rfl, rfl⟩; apply jjT; exact rfl; rintro w' hq; have := hq.toStep; apply jI; exact eI rfl; refine jz ?_; exact ⟨rfl, rfl⟩; apply jjT; exact rfl; rintro w' hq; have := hq.toStep; apply jI; exact eI rfl; refine jz ?_; exact ⟨rfl, rfl⟩; apply jjT; exact rfl; rintro w' hq; have := hq.toStep; refine jja rfl rfl (by omega) ?_; refine jz ?_; exact ⟨rfl, rfl⟩; apply jjT; exact rfl; rintro w' hq; have := hq.toStep; apply jI; exact eB rfl; refine jz ?_; exact ⟨rfl, rfl⟩; apply jjT; exact rfl; rintro w' hq; have := hq.toStep; refine jU rfl rfl rfl rfl ?_; refine jz ?_; exact ⟨rfl, rfl⟩; apply jjT; exact rfl; rintro w' hq; have := hq.toStep; refine jU rfl rfl rfl rfl ?_; refine jz ?_; exact ⟨rfl, rfl⟩; apply jjT; exact rfl; rintro w' hq; have := hq.toStep; refine jU rfl rfl rfl rfl ?_; refine jz ?_; exact ⟨rfl, rfl⟩; apply jjT; exact rfl; rintro w' hq; have := hq.toStep; refine jU rfl rfl rfl rfl ?_; refine jz ?_; exact ⟨rfl, rfl⟩; apply jjT; exact rfl; rintro w' hq; have := hq.toStep; refine jU rfl rfl rfl rfl ?_; refine jz ?_; exact ⟨rfl, rfl⟩; apply jjT; exact rfl; rintro w' hq; have := hq.toStep; refine jU rfl rfl rfl rfl ?_; refine jz ?_; exact ⟨rfl, rfl⟩; apply jjT; exact rfl; rintro w' hq; have := hq.toStep; refine jU rfl rfl rfl rfl ?_; refine jz ?_; exact ⟨rfl, rfl⟩; apply jjT; exact rfl; rintro w' hq; have := hq.toStep; refine jU rfl rfl rfl rfl ?_; refine jz ?_; exact ⟨rfl, rfl⟩; apply jjT; exact rfl; rintro w' hq; have := hq.toStep; apply jL rfl; exact eB rfl; refine jz ?_; exact ⟨rfl, rfl⟩; apply jjT; exact rfl; rintro w' hq; have := hq.toStep; apply jJ; exact eI rfl; refine jz ?_; exact ⟨rfl, rfl⟩; apply jjT; exact rfl; rintro w' hq; have := hq.toStep; apply jJ; exact eB rfl; refine jz ?_; exact ⟨rfl, rfl⟩; refine jjU ?_)))
      refine jjX (by decide +kernel) inferInstance ?_
      (refine jjF ?_; refine jC rfl rfl rfl ⟨inferInstance, ?_⟩)
      exact ⟨_, rfl⟩
  obtain ⟨h, hh⟩ : ∃ h, h = (i + j) / 2 := ⟨_, rfl⟩
  have hhl : h < C.length := by omega
  (refine jjB ?_; refine jjB ?_; refine jjC ?_; apply jI; exact eI rfl; apply jI; exact eI rfl; refine jjZ rfl rfl (by omega) ?_; refine jz ?_; refine jjJ rfl ?_; refine jjG ?_; refine jjD ?_; refine jjB ?_; refine jjC ?_; apply jI; exact eI rfl; apply jI; exact eI rfl; refine jY rfl rfl (by omega) ?_)
  refine Ops.convI rfl rfl (wrap64 (by omega) (by omega)) ?_
  skip
  refine Ops.half (a := i + j) rfl (by omega) rfl ?_
  skip
  refine Ops.convI rfl rfl (wrapi (by omega) (by omega)) ?_
  (apply jJ; exact eI rfl; refine jz ?_; refine jjB ?_)
  rw [← hh]
  have hg : (C.map encSl)[h]? = some (encSl C[h]) := by rw [List.getElem?_map, List.getElem?_eq_getElem hhl]; rfl
  obtain ⟨pb, po, rfl, -⟩ := hrow.h.place' hg
  have hAh : At V pb (po + h * 6) (encSl C[h]).cells.toList := place_k (hrow.h.ext inferInstance) hg
  refine W.draw (fun w' => Ext V w') ?_
  intro w5 hS5
  refine jjV [0, 1, 2] (by decide +kernel) hS5.ext ?_
  (((apply jjT; exact rfl; rintro w' hq; have := hq.toStep; apply jI; exact eF rfl; refine jz ?_; exact ⟨rfl, rfl⟩; apply jjT; exact rfl; rintro w' hq; have := hq.toStep; apply jI; exact eS rfl; refine jz ?_; exact ⟨rfl, rfl⟩; apply jjT; exact rfl; rintro w' hq; have := hq.toStep; apply jI; exact eI rfl; refine jz ?_; exact ⟨rfl, rfl⟩; refine jjU ?_)))
  refine jjV [3] (by decide +kernel) hS5.ext (jjT (v := .pointer (some ⟨pb, po + h * 6, none⟩)) rfl (fun w' q1 => ?_) (jjU ?_)); (refine jH h rfl rfl rfl (by omega) ?_; refine jz ?_; exact ⟨rfl, rfl⟩)
  refine jjV [4] (by decide +kernel) hS5.ext (jjT (v := encSl C[h]) rfl (fun w' q1 => ?_) (jjU ?_)); (refine Ops.loadOA (off := 0) (hAh.ext q1) rfl rfl rfl rfl ?_; refine jz ?_; exact ⟨rfl, rfl⟩)
  refine jjV [5] (by decide +kernel) hS5.ext (jjT (v := encSl x) rfl (fun w' q1 => ?_) (jjU ?_)); (have := q1.toStep; refine jO rfl rfl rfl rfl ?_; refine jz ?_; exact ⟨rfl, rfl⟩)
  (apply jjW 6; (decide +kernel); exact rfl; (exact inferInstance))
  refine Ops.callR rfl (Enters.h (P := Tryd.prog) (g := q)) rfl (hc C[h] x _ inferInstance (hgd _ (List.getElem_mem _)) hgx) ?_
  rintro e w6 ⟨rfl, x6, -⟩
  refine ⟨_, rfl, ?_⟩
  have s6 := x6.toStep
  refine jz ?_
  have hmn := fun t (ht : t < h) => less_mono hf hC (s := x) ht hhl
  have hup := fun t (ht : t < C.length) (hht : h < t) => less_mono hf hC (s := x) hht ht
  generalize hz : cf C[h] x = z at *
  by_cases hz0 : z < 0
  · refine jjV [7] (by decide +kernel) inferInstance ?_
    (((apply jjT; exact rfl; rintro w' hq; have := hq.toStep; refine jjZ rfl rfl (by omega) ?_; refine jz ?_; exact ⟨rfl, rfl⟩; refine jjU ?_)))
    refine jjX (by decide +kernel) inferInstance ?_
    (refine jjJ rfl ?_; refine jjC ?_; apply jI; exact eI rfl; refine jY rfl rfl (by omega) ?_; apply jJ; exact eI rfl; refine jz ?_)
    refine ⟨rfl, by ((refine Same.upd rfl ?_; refine Same.upd rfl ?_; refine Same.upd rfl ?_; refine Same.upd rfl ?_; refine Same.upd rfl ?_; refine Same.upd rfl ?_; refine Same.upd rfl ?_; refine Same.upd rfl ?_; refine Same.upd rfl ?_; refine Same.upd rfl ?_; refine Same.upd rfl ?_; refine Same.upd rfl ?_; refine Same.upd rfl ?_; refine Same.upd rfl ?_; refine Same.upd rfl ?_; refine Same.upd rfl ?_; refine Same.upd rfl ?_; refine Same.upd rfl ?_; refine Same.upd rfl ?_; refine Same.upd rfl ?_; refine Same.upd rfl ?_; refine Same.upd rfl ?_; refine Same.upd rfl ?_; exact Same.ovN)), j - (h + 1), by omega, inferInstance, h + 1, j, congrArg (Value.int .i64) (by omega), rfl, rfl, by omega, hj, fun t h1 h2 => ?_, hhi⟩
    rcases Nat.lt_or_ge t h with c1 | c1
    · exact hmn t c1 hz0
    · obtain rfl : t = h := by omega
      rw [hz]; exact hz0
  · refine jjV [7] (by decide +kernel) inferInstance ?_
    (((apply jjT; exact rfl; rintro w' hq; have := hq.toStep; refine jja rfl rfl (by omega) ?_; refine jz ?_; exact ⟨rfl, rfl⟩; refine jjU ?_)))
    refine jjX (by decide +kernel) inferInstance ?_
    (refine jjK rfl ?_; refine jjC ?_; apply jI; exact eI rfl; apply jJ; exact eI rfl; refine jz ?_)
    refine ⟨rfl, by ((refine Same.upd rfl ?_; refine Same.upd rfl ?_; refine Same.upd rfl ?_; refine Same.upd rfl ?_; refine Same.upd rfl ?_; refine Same.upd rfl ?_; refine Same.upd rfl ?_; refine Same.upd rfl ?_; refine Same.upd rfl ?_; refine Same.upd rfl ?_; refine Same.upd rfl ?_; refine Same.upd rfl ?_; refine Same.upd rfl ?_; refine Same.upd rfl ?_; refine Same.upd rfl ?_; refine Same.upd rfl ?_; refine Same.upd rfl ?_; refine Same.upd rfl ?_; refine Same.upd rfl ?_; refine Same.upd rfl ?_; refine Same.upd rfl ?_; refine Same.upd rfl ?_; exact Same.ovN)), h - i, by omega, inferInstance, i, h, rfl, rfl, rfl, by omega, by omega, hlo, fun t h1 h2 h3 => ?_⟩
    rcases Nat.lt_or_ge h t with c1 | c1
    · exact hz0 (hz ▸ hup t h1 c1 h3)
    · obtain rfl : t = h := by omega
      exact hz0 (hz ▸ h3)
end Go.Proofs.YtpijeomnplmakaaDoor

/- Plain law: what CompactFunc leaves, step by step. -/
namespace Go.Proofs.YtpijeomnplmakaaDoor
open Go.RowKit

theorem cptGo_snoc {α : Type} {f : α → α → Int} : ∀ (r : List α) (p y : α), cptGo f p (r ++ [y]) = cptGo f p r ++ if f y (r.getLastD p) = 0 then [] else [y]
  | [], p, y => by
    show (if f y p = 0 then cptGo f y [] else y :: cptGo f y []) = [] ++ if f y p = 0 then [] else [y]
    rw [List.nil_append]
    rfl
  | z :: r, p, y => by
    have ih := cptGo_snoc (f := f) r z y
    rw [List.cons_append, List.getLastD_cons]
    show (if f z p = 0 then cptGo f z (r ++ [y]) else z :: cptGo f z (r ++ [y])) = (if f z p = 0 then cptGo f z r else z :: cptGo f z r) ++ _
    by_cases e : f z p = 0
    · rw [if_pos e, if_pos e, ih]
    · rw [if_neg e, if_neg e, ih, List.cons_append]
theorem cpt_step {α : Type} {f : α → α → Int} {l : List α} {i : Nat} (hi : i + 1 < l.length) : cptL f (l.take (i + 2)) = cptL f (l.take (i + 1)) ++ if f l[i + 1] l[i] = 0 then [] else [l[i + 1]] := by
  cases l with
  | nil => simp at hi
  | cons x r =>
    have hi' : i < r.length := by simpa using hi
    have e1 : (x :: r).take (i + 2) = x :: (r.take i ++ [r[i]]) := by
      rw [List.take_succ_cons, List.take_succ_eq_append_getElem hi']
    have e2 : (x :: r).take (i + 1) = x :: r.take i := List.take_succ_cons
    rw [e1, e2, cptL, cptL, cptGo_snoc, List.cons_append, List.getElem_cons_succ]
    have e3 : (r.take i).getLastD x = (x :: r)[i]'(by omega) := by
      cases i with
      | zero => rfl
      | succ i =>
        rw [List.getElem_cons_succ, List.take_succ_eq_append_getElem (by omega), List.getLastD_concat]
    rw [e3]
theorem cpt_all {α : Type} {f : α → α → Int} {l : List α} : ∀ {k : Nat}, 1 ≤ k → k ≤ l.length → (∀ t (h : t + 1 < l.length), t + 1 < k → f l[t + 1] l[t] ≠ 0) → cptL f (l.take k) = l.take k
  | 0, h, _, _ => absurd h (by omega)
  | 1, _, h1, _ => by
    cases l with
    | nil => simp at h1
    | cons x r => rfl
  | k + 2, _, h1, h => by
    have ih := cpt_all (f := f) (l := l) (k := k + 1) (by omega) (by omega) fun t h2 h3 => h t h2 (by omega)
    rw [cpt_step (by omega), ih, if_neg (h k (by omega) (by omega))]
    exact (List.take_succ_eq_append_getElem (by omega)).symm
end Go.Proofs.YtpijeomnplmakaaDoor

/- The proof engine, part 37: a whole element stored into a slice of the call's own. -/
namespace Go.Proofs.YtpijeomnplmakaaDoor
open Go.RowKit

theorem flat_put {k : Nat} {x' : Value} (hx' : x'.cells.size = k) : ∀ {xs : List Value} {j : Nat}, (∀ x ∈ xs, x.cells.size = k) → j < xs.length →
    ((xs.set j x').flatMap (·.cells.toList)) = (xs.flatMap (·.cells.toList)).take (j * k) ++ x'.cells.toList ++ (xs.flatMap (·.cells.toList)).drop (j * k + k)
  | [], j, _, hj => absurd hj (Nat.not_lt_zero _)
  | y :: xs, j, hk, hj => by
    have hy : y.cells.toList.length = k := by simpa using hk y List.mem_cons_self
    cases j with
    | zero =>
      rw [List.set_cons_zero, List.flatMap_cons, List.flatMap_cons, Nat.zero_mul, List.take_zero, List.nil_append, Nat.zero_add, List.drop_append_of_le_length (by omega), List.drop_of_length_le (by omega), List.nil_append]
    | succ j =>
      have := flat_put hx' (xs := xs) (j := j) (fun z hz => hk z (List.mem_cons_of_mem _ hz)) (by simpa using hj)
      have e1 : (j + 1) * k = y.cells.toList.length + j * k := by rw [hy, Nat.add_mul]; omega
      have ht : ∀ F : List Value, (y.cells.toList ++ F).take (y.cells.toList.length + j * k) = y.cells.toList ++ F.take (j * k) := fun F => List.take_length_add_append _
      have hd : ∀ F : List Value, (y.cells.toList ++ F).drop (y.cells.toList.length + (j * k + k)) = F.drop (j * k + k) := fun F => List.drop_length_add_append _
      rw [List.set_cons_succ, List.flatMap_cons, List.flatMap_cons, this, e1, Nat.add_assoc, ht, hd]
      simp only [List.append_assoc]
section rules
variable {P : Program} {ro : Option Nat} {n : Nat} {all rest : List Oper} {K : Sl → World → Prop} {s : Sl} {w : World} {d : Nat} {ty : Nat} {pos : String} {af : Array Edge}
variable {x y : Operand}
theorem Ops.storeW {B e k g j bytes t : Nat} {agg : Bool} {v z : Value} {xs : List Value} {X' : Value} (hown : OwnL w B e agg k v xs) (hg : v.ownBlock = some g) (hj : j < xs.length) (hX' : fitsV agg k X' = true)
    (hx : ev n s x = .pointer (some ⟨g, j * k, none⟩)) (hy : ev n s y = X') (hu1 : X'.cells.toList.all (·.oneCell') = true) [hz : TS P t z k bytes]
    (h : ∀ w' o, PutO w w' g o → OwnL w' B e agg k v (xs.set j X') → Ops P ro n all rest K s w') : Ops P ro n all (⟨none, .store t x y, ty, pos, af, none⟩ :: rest) K s w := by
  have hxk : X'.cells.size = k := fitsV_cells hX'
  rcases hown.own.2 with ⟨rfl, _⟩ | ⟨g', cap, cur, rfl, hB, hh, hn, hm, hs, ht⟩
  · simp [Value.ownBlock] at hg
  · have hgg : g' = g := by simpa [Value.ownBlock] using hg
    subst hgg
    have hfl := flat_len (k := k) (xs := xs) fun y hy => fitsV_cells (hown.fit y hy)
    have hjk : j * k + k ≤ xs.length * k := by
      have : (j + 1) * k ≤ xs.length * k := Nat.mul_le_mul_right k hj
      rw [Nat.add_mul] at this; omega
    have hcl : xs.length * k ≤ cap * k := Nat.mul_le_mul_right k hn
    have hbk : Bk w g' cur.toList e := ⟨by simpa using hh⟩
    have hcs : cur.toList.length = cap * k := by simpa using hs
    have hput := flat_put (x' := X') hxk (xs := xs) (j := j) (fun y hy => fitsV_cells (hown.fit y hy)) hj
    have hfl' := flat_len (k := k) (xs := xs.set j X') fun y hy => by
      rcases List.mem_or_eq_of_mem_set hy with h1 | h1
      · exact fitsV_cells (hown.fit y h1)
      · subst h1; exact hxk
    rw [List.length_set] at hfl'
    have e0 : cur.toList = xs.flatMap (·.cells.toList) ++ cur.toList.drop (xs.length * k) := by rw [← ht, List.take_append_drop]
    refine Ops.store hx hy hxk (Nat.ble_eq_true_of_le (by omega)) hu1 ?_
    intro w' hp
    have e1 : cur.toList.take (j * k) ++ X'.cells.toList ++ cur.toList.drop (j * k + k) = (xs.set j X').flatMap (·.cells.toList) ++ cur.toList.drop (xs.length * k) := by
      rw [hput]
      conv => lhs; rw [e0]
      rw [List.take_append_of_le_length (by omega), List.drop_append_of_le_length (by omega)]
      simp only [List.append_assoc]
    rw [e1] at hp
    refine h w' _ hp ⟨⟨?_, .inr ⟨g', cap, ((xs.set j X').flatMap (·.cells.toList) ++ cur.toList.drop (xs.length * k)).toArray, by rw [List.length_set], hB, hp.new, by rw [List.length_set]; exact hn, hm, ?_, ?_⟩⟩, ?_, by rw [List.length_set]; exact hown.len⟩
    · rw [List.length_set]; exact hfl'
    · simp only [List.size_toArray, List.length_append, List.length_drop]
      omega
    · rw [List.length_set]
      show List.take (xs.length * k) (_ ++ _) = _
      rw [List.take_append_of_le_length (by omega), List.take_of_length_le (by omega)]
    · intro y hy
      rcases List.mem_or_eq_of_mem_set hy with h1 | h1
      · exact hown.fit y h1
      · subst h1; exact hX'
end rules
theorem own_addr {w : World} {B e : Nat} {agg : Bool} {k n c : Nat} {a : Option Addr} {xs : List Value} (h : OwnL w B e agg k (.slice a n c) xs) (hn : 0 < n) : ∃ g, a = some ⟨g, 0, none⟩ := by
  rcases h.own.2 with ⟨e, _⟩ | ⟨g, cap, cur, e, _⟩
  · simp only [Value.slice.injEq] at e; omega
  · simp only [Value.slice.injEq] at e; exact ⟨g, e.1⟩
end Go.Proofs.YtpijeomnplmakaaDoor

/- Operations: clear of elements of several cells. -/
namespace Go.Proofs.YtpijeomnplmakaaDoor
open Go.RowKit
section rules
variable {P : Program} {ro : Option Nat} {n : Nat} {all rest : List Oper} {K : Sl → World → Prop} {s : Sl} {w : World} {t e ty : Nat} {pos : String} {af : Array Edge} {x : Operand} {g o l c bytes k : Nat} {cs : List Value} {z : Value}
/-- Clear within a block that is known whole: what lies there then is told by its length alone. -/
theorem Ops.clearK (hB : Bk w g cs e) (hx : ev n s x = .slice (some ⟨g, o, none⟩) l c) (hl0 : 0 < l) (hfit : o + l * k ≤ cs.length) [ht : TSl P t e] [hz : TS P e z k bytes] (hzz : z.cells.size = k) (hk : Nat.blt 0 k = true) (h1 : z.cells.toList.all (·.oneCell') = true)
    (h : ∀ (w' : World) (Z : List Value), Z.length = l * k → (∀ v ∈ Z, v.oneCell' = true) → PutO w w' g (.cells (cs.take o ++ Z ++ cs.drop (o + l * k)).toArray e (0, 0)) → Ops P ro n all rest K s w') :
    Ops P ro n all (⟨none, .call { callee := .builtin .clear, args := #[x], argTypes := #[t] }, ty, pos, af, none⟩ :: rest) K s w := by
  obtain ⟨inf, hi1, hiz, his, _⟩ := hz.info
  have hzv : (zeroValue e).run P w = .ok z w := by simp [zeroValue, typeInfo, hi1, hiz]
  have hk0 : 0 < k := by simpa using hk
  obtain ⟨Z, hZ⟩ : ∃ Z, (Builtin.zeroCells z.cells l).toList = Z := ⟨_, rfl⟩
  have hZl : Z.length = l * k := by rw [← hZ]; simp [Builtin.zeroCells, hzz]
  have hZ1 : ∀ v ∈ Z, v.oneCell' = true := by
    intro v hv
    rw [← hZ] at hv
    simp only [Builtin.zeroCells, Array.toList_map, List.mem_map] at hv
    obtain ⟨i, _, rfl⟩ := hv
    have hi : i % z.cells.size < z.cells.size := Nat.mod_lt _ (by omega)
    rw [getElem!_pos z.cells _ hi]
    exact List.all_eq_true.1 h1 _ (by simp)
  have hst := run_storeCells_at P g o e Z 0 cs.toArray w hB.h (by simpa [hZl] using hfit) hZ1
  simp only [Nat.add_zero, hZl] at hst
  have hr : (Builtin.clear_ #[t] ty #[.slice (some ⟨g, o, none⟩) l c]).run P w = .ok (.tuple #[]) (w.setRow g (cs.take o ++ Z ++ cs.drop (o + l * k)).toArray) := by
    obtain ⟨m, rfl⟩ : ∃ m, l = m + 1 := ⟨l - 1, by omega⟩
    simp [Builtin.clear_, run_underlying ht.h, hzv, hZ, hst]
  exact Ops.step rfl (OpW.ofRun (v := .tuple #[]) (w' := w.setRow g (cs.take o ++ Z ++ cs.drop (o + l * k)).toArray) rfl (by simp [execOp, resolve, invoke, builtin, hx, hr]) (h _ Z hZl hZ1 (putO_setRow hB)))
end rules
end Go.Proofs.YtpijeomnplmakaaDoor

/- The proof engine, part 41: slices of the call's own as a block of cells, elements of several cells. -/
namespace Go.Proofs.YtpijeomnplmakaaDoor
open Go.RowKit

theorem OwnL.cellsK {w : World} {B e k n c g : Nat} {agg : Bool} {l : List Value} (h : OwnL w B e agg k (.slice (some ⟨g, 0, none⟩) n c) l) : ∃ cs, Bk w g cs e ∧ cs.length = c * k ∧ n ≤ c ∧ c ≤ maxLen ∧ l.length = n ∧ cs.take (n * k) = l.flatMap (·.cells.toList) ∧ B ≤ g := by
  rcases h.own.2 with ⟨e0, _⟩ | ⟨g', cap, cur, e0, hB, hg, hn, hm, hs, ht⟩
  · simp at e0
  · simp only [Value.slice.injEq, Option.some.injEq, Addr.mk.injEq] at e0
    obtain ⟨⟨rfl, _⟩, rfl, rfl⟩ := e0
    exact ⟨cur.toList, ⟨by simpa using hg⟩, by simpa using hs, hn, hm, rfl, ht, hB⟩
theorem OwnL.ofCellsK {w : World} {B e k n c g : Nat} {agg : Bool} {l cs : List Value} (hB : Bk w g cs e) (hc : cs.length = c * k) (hn : n ≤ c) (hm : c ≤ maxLen) (hl : l.length = n) (ht : cs.take (n * k) = l.flatMap (·.cells.toList)) (hn' : n ≤ 140737488355328) (hg : B ≤ g) (hf : ∀ x ∈ l, fitsV agg k x = true) : OwnL w B e agg k (.slice (some ⟨g, 0, none⟩) n c) l := by
  have hfl := flat_len (k := k) (xs := l) fun y hy => fitsV_cells (hf y hy)
  refine ⟨⟨hfl, .inr ⟨g, c, cs.toArray, by rw [hl], hg, hB.h, by omega, hm, by simp [hc], ?_⟩⟩, hf, by rw [hl]; exact hn'⟩
  rw [hl]; exact ht
end Go.Proofs.YtpijeomnplmakaaDoor

/- rack: two slips that rank alike; slices.CompactFunc at slips. -/
namespace Go.Proofs.YtpijeomnplmakaaDoor
open Go.RowKit Go.Sort

theorem same_slip (q : Nat) [he : Enters Tryd.prog q] (cf : Slp → Slp → Int) (hc : CmpQ q cf)
    (x y : Slp) (hx : GdS x) (hy : GdS y) (b : Nat) (w : World) [hmx : MxI w] [hA : At w b 0 [.func (.func q) #[] #[]]] : Ct Tryd.prog 17 [encSl x, encSl y, .pointer (some ⟨b, 0, none⟩)] w fun v _ => v = .bool (decide (cf x y = 0)) := by
  refine Ct.ofW (by simp) ?_
  (refine jjB ?_; refine jjC ?_)
  (refine jy rfl ?_; intro b3 w_b3 hb_b3 hs_b3 hS_b3 hk_b3; have hA_b3 := At.ofBlock hk_b3)
  (refine jy rfl ?_; intro b4 w_b4 hb_b4 hs_b4 hS_b4 hk_b4; have hA_b4 := At.ofBlock hk_b4)
  (apply jJ; exact eB rfl; refine jz ?_; refine jjB ?_; refine jjC ?_; refine jN rfl rfl rfl ?_; refine jO rfl rfl rfl rfl ?_; refine jO rfl rfl rfl rfl ?_)
  refine Ops.callR rfl (Enters.h (P := Tryd.prog) (g := q)) rfl (hc x y _ inferInstance hx hy) ?_
  rintro e w6 ⟨rfl, x6, -⟩
  refine ⟨_, rfl, ?_⟩
  have s6 := x6.toStep
  (refine jb rfl rfl ?_; apply jJ; exact eB rfl; refine jz ?_; refine jjF ?_; refine jB rfl rfl ⟨inferInstance, ?_⟩)
  exact rfl
end Go.Proofs.YtpijeomnplmakaaDoor

/- slices.CompactFunc at slips: writes in the caller's slice. -/
namespace Go.Proofs.YtpijeomnplmakaaDoor
open Go.RowKit Go.Sort

section
variable (q : Nat) [he : Enters Tryd.prog q] (cf : Slp → Slp → Int) (hc : CmpQ q cf)
include hc in
set_option maxHeartbeats 4000000 in
theorem Compact_slip (bk g n c : Nat) (l : List Slp) (hg : ∀ x ∈ l, GdS x) (w : World) (hA : At w bk 0 [.func (.func q) #[] #[]]) (hne : bk ≠ g) (hbk : bk < w.heap.size) {B : Nat} (hO : OwnL w B 39 true 6 (.slice (some ⟨g, 0, none⟩) n c) (l.map encSl)) (hn : n ≤ 1000000) (hmx : ∀ V, Only g w V → MxI V) :
    Calls Tryd.prog 16 [.slice (some ⟨g, 0, none⟩) n c, .func (.func 17) #[] #[.pointer (some ⟨bk, 0, none⟩)]].toArray w fun e w' => e = .returned (.slice (some ⟨g, 0, none⟩) (cptL cf l).length c) ∧ Only g w w' ∧ OwnL w' B 39 true 6 (.slice (some ⟨g, 0, none⟩) (cptL cf l).length c) ((cptL cf l).map encSl) := by
  have hln : l.length = n := by obtain ⟨cs, _, _, _, _, h, _⟩ := hO.cellsK; rw [List.length_map] at h; exact h
  subst hln
  refine Calls.ofW (by simp) ?_
  by_cases h2 : l.length < 2
  · have e : cptL cf l = l := by
      match l, h2 with
      | [], _ => rfl
      | [x], _ => rfl
      | x :: y :: r, h => simp at h; omega
    rw [e]
    (refine jjB ?_; refine jjC ?_; apply jJ; exact eS rfl; refine jz ?_; refine jjB ?_; refine jjB ?_; refine jjC ?_; apply jI; exact eS rfl; refine jh rfl ?_; refine jjZ rfl rfl (by omega) ?_; refine jz ?_; refine jjJ rfl ?_; refine jjB ?_; refine jjC ?_; apply jI; exact eS rfl; apply jJ; exact eS rfl; refine jz ?_; refine jjF ?_)
    exact jB rfl rfl ⟨rfl, .ofExt (Ext.refl w), hO⟩
  (refine jjB ?_; refine jjC ?_; apply jJ; exact eS rfl; refine jz ?_; refine jjB ?_; refine jjB ?_; refine jjC ?_; apply jI; exact eS rfl; refine jh rfl ?_; refine jja rfl rfl (by omega) ?_; refine jz ?_; refine jjK rfl ?_; refine jjG ?_; refine jjB ?_; refine jjB ?_; refine jjC ?_; apply jJ; exact eI rfl; refine jz ?_; refine jjD ?_)
  refine W.keep0 [(0, .slice (some ⟨g, 0, none⟩) l.length c), (1, .func (.func 17) #[] #[.pointer (some ⟨bk, 0, none⟩)]), (5, .int .i64 ((1 : Nat) : Int))] ⟨eS rfl, rfl, eI rfl, trivial⟩ fun s0 => ?_
  refine W.loopG (12 :: 13 :: 14 :: 15 :: 18 :: 19 :: 20 :: 21 :: 22 :: 23 :: 24 :: 25 :: 26 :: 27 :: 28 :: 29 :: 30 :: 31 :: 6 :: 7 :: 32 :: 33 :: 34 :: 35 :: 38 :: 39 :: 40 :: 41 :: 42 :: 43 :: 44 :: 45 :: 46 :: 47 :: 48 :: 49 :: 50 :: 51 :: 52 :: 53 :: 54 :: 55 :: 56 :: 57 :: 58 :: 5 :: 36 :: 37 :: 59 :: 60 :: 61 :: 62 :: 63 :: 64 :: 4 :: 16 :: 17 :: []) (fun g' s' V => ∃ k : Nat, s' 5 = .int .i64 (k : Int) ∧ g' = l.length - k ∧ 1 ≤ k ∧ k ≤ l.length ∧ (∀ t (h : t + 1 < l.length), t + 1 < k → cf l[t + 1] l[t] ≠ 0) ∧ Only g w V ∧ OwnL V B 39 true 6 (.slice (some ⟨g, 0, none⟩) l.length c) (l.map encSl)) (l.length - 1) ⟨1, rfl, by omega, by omega, by omega, fun t h h' => by omega, .ofExt (Ext.refl w), hO⟩ ?_
  rintro _ sd V ⟨k, h5, rfl, hk1, hk2, hdf, hOn, hOV⟩
  refine W.fix (d := 5) h5 ?_
  clear h5
  by_cases hk3 : k < l.length
  rotate_left
  · obtain rfl : k = l.length := by omega
    have e : cptL cf l = l := by
      have := cpt_all (f := cf) (l := l) (k := l.length) (by omega) (Nat.le_refl _) hdf
      rwa [List.take_length] at this
    rw [e]
    (refine jjB ?_; refine jjB ?_; refine jjC ?_; apply jI; exact eI rfl; apply jI; exact eS rfl; refine jh rfl ?_; refine jja rfl rfl (by omega) ?_; refine jz ?_; refine jjK rfl ?_; refine jjE ?_; refine jjB ?_; refine jjC ?_; apply jI; exact eS rfl; apply jJ; exact eS rfl; refine jz ?_; refine jjF ?_)
    exact jB rfl rfl ⟨rfl, hOn, hOV⟩
  obtain ⟨i, rfl⟩ : ∃ i, k = i + 1 := ⟨k - 1, by omega⟩
  have hi1 : i + 1 < l.length := by omega
  have hmV := hmx V hOn
  have hAb : At V bk 0 [.func (.func q) #[] #[]] := hOn.at_ hA hne
  have hR : RowV V true 6 (.slice (some ⟨g, 0, none⟩) l.length c) (l.map encSl) := hOV.row
  have hA1 : At V g (0 + (i + 1) * 6) (encSl l[i + 1]).cells.toList := place_k hR (by rw [List.getElem?_map, List.getElem?_eq_getElem hi1]; rfl)
  have hA0 : At V g (0 + i * 6) (encSl l[i]).cells.toList := place_k hR (by rw [List.getElem?_map, List.getElem?_eq_getElem (by omega)]; rfl)
  (refine jjB ?_; refine jjB ?_; refine jjC ?_; apply jI; exact eI rfl; apply jI; exact eS rfl; refine jh rfl ?_; refine jjZ rfl rfl (by omega) ?_; refine jz ?_; refine jjJ rfl ?_; refine jjG ?_; refine jjB ?_; refine jjD ?_; refine jjB ?_)
  refine W.draw (fun w' => Ext V w') ?_
  intro w5 hS5
  refine jjV [0, 1, 2] (by decide +kernel) hS5.ext ?_
  (((apply jjT; exact rfl; rintro w' hq; have := hq.toStep; apply jI; exact eF rfl; refine jz ?_; exact ⟨rfl, rfl⟩; apply jjT; exact rfl; rintro w' hq; have := hq.toStep; apply jI; exact eS rfl; refine jz ?_; exact ⟨rfl, rfl⟩; apply jjT; exact rfl; rintro w' hq; have := hq.toStep; apply jI; exact eI rfl; refine jz ?_; exact ⟨rfl, rfl⟩; refine jjU ?_)))
  refine jjV [3] (by decide +kernel) hS5.ext (jjT (v := .pointer (some ⟨g, 0 + (i + 1) * 6, none⟩)) rfl (fun w' q1 => ?_) (jjU ?_)); (refine jH (i + 1) rfl rfl rfl (by omega) ?_; refine jz ?_; exact ⟨rfl, rfl⟩)
  refine jjV [4] (by decide +kernel) hS5.ext (jjT (v := encSl l[i + 1]) rfl (fun w' q1 => ?_) (jjU ?_)); (refine Ops.loadOA (off := 0) (hA1.ext q1) rfl rfl rfl rfl ?_; refine jz ?_; exact ⟨rfl, rfl⟩)
  refine jjV [5, 6, 7] (by decide +kernel) hS5.ext ?_
  (((apply jjT; exact rfl; rintro w' hq; have := hq.toStep; apply jI; exact eS rfl; refine jz ?_; exact ⟨rfl, rfl⟩; apply jjT; exact rfl; rintro w' hq; have := hq.toStep; apply jI; exact eI rfl; refine jz ?_; exact ⟨rfl, rfl⟩; apply jjT; exact rfl; rintro w' hq; have := hq.toStep; refine jZ rfl rfl (by omega) ?_; refine jz ?_; exact ⟨rfl, rfl⟩; refine jjU ?_)))
  refine jjV [8] (by decide +kernel) hS5.ext (jjT (v := .pointer (some ⟨g, 0 + i * 6, none⟩)) rfl (fun w' q1 => ?_) (jjU ?_)); (refine jH i rfl rfl (by omega) (by omega) ?_; refine jz ?_; exact ⟨rfl, rfl⟩)
  refine jjV [9] (by decide +kernel) hS5.ext (jjT (v := encSl (l[i]'(by omega))) rfl (fun w' q1 => ?_) (jjU ?_)); (refine Ops.loadOA (off := 0) (hA0.ext q1) rfl rfl rfl rfl ?_; refine jz ?_; exact ⟨rfl, rfl⟩)
  (apply jjW 10; (decide +kernel); exact rfl; (exact inferInstance))
  refine jjQ (same_slip q cf hc l[i + 1] l[i] (hg _ (List.getElem_mem _)) (hg _ (List.getElem_mem _)) bk _) rfl rfl ?_
  rintro _ w6 hS6 rfl
  refine jz ?_
  refine jjX (by decide +kernel) inferInstance ?_
  have hO6 := (hOV.ext hS5.ext).ext hS6.ext
  have hOn6 : Only g w w6 := hOn.trans (.ofExt inferInstance)
  by_cases hz : cf l[i + 1] l[i] = 0
  rotate_left
  · rw [decide_eq_false hz]
    (refine jjK rfl ?_; refine jjG ?_; refine jjC ?_; apply jI; exact eI rfl; refine jY rfl rfl (by omega) ?_; apply jJ; exact eI rfl; refine jz ?_)
    refine ⟨rfl, by ((refine Same.upd rfl ?_; refine Same.upd rfl ?_; refine Same.upd rfl ?_; refine Same.upd rfl ?_; refine Same.upd rfl ?_; refine Same.upd rfl ?_; refine Same.upd rfl ?_; refine Same.upd rfl ?_; refine Same.upd rfl ?_; refine Same.upd rfl ?_; refine Same.upd rfl ?_; refine Same.upd rfl ?_; refine Same.upd rfl ?_; refine Same.upd rfl ?_; refine Same.upd rfl ?_; refine Same.upd rfl ?_; refine Same.upd rfl ?_; refine Same.upd rfl ?_; refine Same.upd rfl ?_; exact Same.ovN)), l.length - (i + 2), by omega, i + 2, congrArg (Value.int .i64) (by omega), rfl, by omega, by omega, fun t h h' => ?_, hOn6, hO6⟩
    rcases Nat.lt_or_ge t i with c1 | c1
    · exact hdf t h (by omega)
    · obtain rfl : t = i := by omega
      exact hz
  rw [decide_eq_true hz]
  obtain ⟨hlc, hcm⟩ : l.length ≤ c ∧ c ≤ maxLen := by obtain ⟨cs, _, _, h1, h2, _⟩ := hOV.cellsK; exact ⟨h1, h2⟩
  have hcut : cutV (some ⟨g, 0, none⟩) c 6 (i + 1) l.length = .slice (some ⟨g, 0 + (i + 1) * 6, none⟩) (l.length - (i + 1)) (c - (i + 1)) := by
    show Value.slice (if c = i + 1 then _ else _) _ _ = _
    rw [if_neg (by omega)]; rfl
  (refine jjJ rfl ?_; refine jjB ?_; refine jjC ?_; apply jI; exact eS rfl; apply jI; exact eI rfl)
  refine Ops.sliceXLv (k := 6) (lo := i + 1) rfl rfl rfl (by omega) ?_
  rw [hcut]
  (apply jJ; exact eS rfl; refine jz ?_; refine jjB ?_; refine jjB ?_; refine jjC ?_; apply jJ; exact eI rfl; refine jz ?_; refine jjD ?_)
  have hP0 : cptL cf (l.take (i + 2)) = l.take (i + 1) := by
    rw [cpt_step hi1, if_pos hz, List.append_nil]
    exact cpt_all (by omega) (by omega) hdf
  refine W.keep [(0, .slice (some ⟨g, 0, none⟩) l.length c), (1, .func (.func 17) #[] #[.pointer (some ⟨bk, 0, none⟩)]), (5, .int .i64 ((i + 1 : Nat) : Int)), (6, .slice (some ⟨g, 0 + (i + 1) * 6, none⟩) (l.length - (i + 1)) (c - (i + 1))), (7, .int .i64 ((1 : Nat) : Int))] (D := (12 :: 13 :: 14 :: 15 :: 18 :: 19 :: 20 :: 21 :: 22 :: 23 :: 24 :: 25 :: 26 :: 27 :: 28 :: 29 :: 30 :: 31 :: 6 :: 7 :: 32 :: 33 :: 34 :: 35 :: 38 :: 39 :: 40 :: 41 :: 42 :: 43 :: 44 :: 45 :: 46 :: 47 :: 48 :: 49 :: 50 :: 51 :: 52 :: 53 :: 54 :: 55 :: 56 :: 57 :: 58 :: 5 :: 36 :: 37 :: 59 :: 60 :: 61 :: 62 :: 63 :: 64 :: 4 :: 16 :: 17 :: [])) (sO := upds s0 _) (by ((refine Same.upd rfl ?_; refine Same.upd rfl ?_; refine Same.upd rfl ?_; refine Same.upd rfl ?_; refine Same.upd rfl ?_; refine Same.upd rfl ?_; refine Same.upd rfl ?_; refine Same.upd rfl ?_; refine Same.upd rfl ?_; refine Same.upd rfl ?_; refine Same.upd rfl ?_; refine Same.upd rfl ?_; refine Same.upd rfl ?_; refine Same.upd rfl ?_; refine Same.upd rfl ?_; refine Same.upd rfl ?_; refine Same.upd rfl ?_; refine Same.upd rfl ?_; refine Same.upd rfl ?_; refine Same.upd rfl ?_; refine Same.upd rfl ?_; exact Same.ovN))) ⟨eS rfl, rfl, eI rfl, eS rfl, eI rfl, trivial⟩ fun s1 hs1' => ?_
  refine W.loopG (32 :: 33 :: 34 :: 35 :: 38 :: 39 :: 40 :: 41 :: 42 :: 43 :: 44 :: 45 :: 46 :: 47 :: 48 :: 49 :: 50 :: 51 :: 52 :: 53 :: 54 :: 55 :: 56 :: 57 :: 58 :: 5 :: 36 :: 37 :: 7 :: []) (fun g' s' V => ∃ (k2 kk : Nat) (P : List Slp), s' 7 = .int .i64 (k2 : Int) ∧ s' 5 = .int .i64 (kk : Int) ∧ g' = l.length - (i + 1) - k2 ∧ 1 ≤ k2 ∧ i + 1 + k2 ≤ l.length ∧ P = cptL cf (l.take (i + k2 + 1)) ∧ P.length = kk ∧ kk ≤ i + k2 ∧ 1 ≤ kk ∧ Only g w V ∧ OwnL V B 39 true 6 (.slice (some ⟨g, 0, none⟩) l.length c) ((P ++ l.drop kk).map encSl)) (l.length - (i + 1) - 1) ⟨1, i + 1, l.take (i + 1), rfl, rfl, rfl, by omega, by omega, hP0.symm, by rw [List.length_take]; omega, by omega, by omega, hOn6, by rw [List.take_append_drop]; exact hO6⟩ ?_
  rintro _ sd2 V2 ⟨k2, kk, P, h7, h5, rfl, hk21, hk22, hP, hPl, hkk, hkk1, hOn2, hO2⟩
  refine W.fix (d := 7) h7 (W.fix (d := 5) h5 ?_)
  clear h7 h5
  by_cases hk23 : k2 < l.length - (i + 1)
  rotate_left
  · have hPe : P = cptL cf l := by rw [hP, List.take_of_length_le (by omega)]
    subst hPe
    subst hPl
    obtain ⟨cs, hB, hcl, _, _, _, htk, hBg⟩ := hO2.cellsK
    have hkc : (cptL cf l).length * 6 ≤ cs.length := by rw [hcl]; omega
    have hcutk : cutV (some ⟨g, 0, none⟩) c 6 (cptL cf l).length l.length = .slice (some ⟨g, 0 + (cptL cf l).length * 6, none⟩) (l.length - (cptL cf l).length) (c - (cptL cf l).length) := by
      show Value.slice (if c = (cptL cf l).length then _ else _) _ _ = _
      rw [if_neg (by omega)]
      simp [Addr.add]
      omega
    have hflat : cs.take ((cptL cf l).length * 6) = ((cptL cf l).map encSl).flatMap (·.cells.toList) := by
      have h1 : cs.take ((cptL cf l).length * 6) = (cs.take (l.length * 6)).take ((cptL cf l).length * 6) := by rw [List.take_take, Nat.min_eq_left (by omega)]
      have hl := flat_len (k := 6) (xs := (cptL cf l).map encSl) fun x hx => by obtain ⟨y, _, rfl⟩ := List.mem_map.1 hx; rfl
      rw [List.length_map] at hl
      rw [h1, htk, List.map_append, List.flatMap_append, List.take_append_of_le_length (by omega), List.take_of_length_le (by omega)]
    (refine jjB ?_; refine jjB ?_; refine jjC ?_; apply jI; exact eI rfl; apply jI; exact eS rfl; refine jh rfl ?_; refine jja rfl rfl (by omega) ?_; refine jz ?_; refine jjK rfl ?_; refine jjE ?_; refine jjB ?_; refine jjC ?_; apply jI; exact eS rfl; apply jI; exact eI rfl)
    refine Ops.sliceXLv (k := 6) (lo := (cptL cf l).length) rfl rfl rfl (by omega) ?_
    rw [hcutk]
    skip
    refine Ops.clearK (k := 6) hB rfl (by omega) (by rw [hcl]; omega) rfl rfl rfl ?_
    intro w9 Z hZ hZ1 hp9
    have hOn9 : Only g w w9 := hOn2.trans (.ofPut hp9)
    have hO9 : OwnL w9 B 39 true 6 (.slice (some ⟨g, 0, none⟩) (cptL cf l).length c) ((cptL cf l).map encSl) := by
      refine OwnL.ofCellsK (cs := cs.take (0 + (cptL cf l).length * 6) ++ Z ++ cs.drop (0 + (cptL cf l).length * 6 + (l.length - (cptL cf l).length) * 6)) ⟨hp9.new⟩ ?_ (by omega) hcm (by rw [List.length_map]) ?_ (by omega) hBg fun x hx => by obtain ⟨y, _, rfl⟩ := List.mem_map.1 hx; rfl
      · rw [List.length_append, List.length_append, List.length_take, List.length_drop, hZ, hcl]; omega
      · rw [List.append_assoc, List.take_append_of_le_length (by rw [List.length_take]; omega), List.take_take, Nat.zero_add, Nat.min_self]
        exact hflat
    (refine jz ?_; refine jjB ?_; refine jjC ?_; apply jI; exact eS rfl; apply jI; exact eI rfl)
    refine Ops.sliceXHv (k := 6) (hi := (cptL cf l).length) rfl rfl rfl (by omega) (by omega) ?_
    (apply jJ; exact eS rfl; refine jz ?_; refine jjF ?_)
    exact jB rfl rfl ⟨rfl, hOn9, hO9⟩
  obtain ⟨m, hm⟩ : ∃ m, i + k2 = m := ⟨_, rfl⟩
  have hm1 : m + 1 < l.length := by omega
  have hXl : (P ++ l.drop kk).length = l.length := by rw [List.length_append, List.length_drop]; omega
  have hX : ∀ t (h : t < l.length), kk ≤ t → ((P ++ l.drop kk).map encSl)[t]? = some (encSl l[t]) := fun t h h' => by
    rw [List.getElem?_map, List.getElem?_append_right (by omega), List.getElem?_drop, show kk + (t - P.length) = t by omega, List.getElem?_eq_getElem h]; rfl
  have hmV2 := hmx V2 hOn2
  have hAb2 : At V2 bk 0 [.func (.func q) #[] #[]] := hOn2.at_ hA hne
  have hA1' : At V2 g (0 + (i + 1) * 6 + k2 * 6) (encSl l[m + 1]).cells.toList := by
    have := place_k hO2.row (hX (m + 1) hm1 (by omega))
    rwa [show 0 + (m + 1) * 6 = 0 + (i + 1) * 6 + k2 * 6 by omega] at this
  have hA0' : At V2 g (0 + (i + 1) * 6 + (k2 - 1) * 6) (encSl l[m]).cells.toList := by
    have := place_k hO2.row (hX m (by omega) (by omega))
    rwa [show 0 + m * 6 = 0 + (i + 1) * 6 + (k2 - 1) * 6 by omega] at this
  have hst := cpt_step (f := cf) hm1
  (refine jjB ?_; refine jjB ?_; refine jjC ?_; apply jI; exact eI rfl; apply jI; exact eS rfl; refine jh rfl ?_; refine jjZ rfl rfl (by omega) ?_; refine jz ?_; refine jjJ rfl ?_; refine jjG ?_; refine jjB ?_; refine jjD ?_; refine jjB ?_)
  refine W.draw (fun w' => Ext V2 w') ?_
  intro w7 hS7
  refine jjV [0, 1, 2] (by decide +kernel) hS7.ext ?_
  (((apply jjT; exact rfl; rintro w' hq; have := hq.toStep; apply jI; exact eF rfl; refine jz ?_; exact ⟨rfl, rfl⟩; apply jjT; exact rfl; rintro w' hq; have := hq.toStep; apply jI; exact eS rfl; refine jz ?_; exact ⟨rfl, rfl⟩; apply jjT; exact rfl; rintro w' hq; have := hq.toStep; apply jI; exact eI rfl; refine jz ?_; exact ⟨rfl, rfl⟩; refine jjU ?_)))
  refine jjV [3] (by decide +kernel) hS7.ext (jjT (v := .pointer (some ⟨g, 0 + (i + 1) * 6 + k2 * 6, none⟩)) rfl (fun w' q1 => ?_) (jjU ?_)); (refine jH k2 rfl rfl rfl (by omega) ?_; refine jz ?_; exact ⟨rfl, rfl⟩)
  refine jjV [4] (by decide +kernel) hS7.ext (jjT (v := encSl l[m + 1]) rfl (fun w' q1 => ?_) (jjU ?_)); (refine Ops.loadOA (off := 0) (hA1'.ext q1) rfl rfl rfl rfl ?_; refine jz ?_; exact ⟨rfl, rfl⟩)
  refine jjV [5, 6, 7] (by decide +kernel) hS7.ext ?_
  (((apply jjT; exact rfl; rintro w' hq; have := hq.toStep; apply jI; exact eS rfl; refine jz ?_; exact ⟨rfl, rfl⟩; apply jjT; exact rfl; rintro w' hq; have := hq.toStep; apply jI; exact eI rfl; refine jz ?_; exact ⟨rfl, rfl⟩; apply jjT; exact rfl; rintro w' hq; have := hq.toStep; refine jZ rfl rfl (by omega) ?_; refine jz ?_; exact ⟨rfl, rfl⟩; refine jjU ?_)))
  refine jjV [8] (by decide +kernel) hS7.ext (jjT (v := .pointer (some ⟨g, 0 + (i + 1) * 6 + (k2 - 1) * 6, none⟩)) rfl (fun w' q1 => ?_) (jjU ?_)); (refine jH (k2 - 1) rfl rfl (by omega) (by omega) ?_; refine jz ?_; exact ⟨rfl, rfl⟩)
  refine jjV [9] (by decide +kernel) hS7.ext (jjT (v := encSl (l[m]'(by omega))) rfl (fun w' q1 => ?_) (jjU ?_)); (refine Ops.loadOA (off := 0) (hA0'.ext q1) rfl rfl rfl rfl ?_; refine jz ?_; exact ⟨rfl, rfl⟩)
  (apply jjW 10; (decide +kernel); exact rfl; (exact inferInstance))
  refine jjQ (same_slip q cf hc l[m + 1] l[m] (hg _ (List.getElem_mem _)) (hg _ (List.getElem_mem _)) bk _) rfl rfl ?_
  rintro _ w8 hS8 rfl
  refine jz ?_
  have hO8 := (hO2.ext hS7.ext).ext hS8.ext
  have hOn8 : Only g w w8 := hOn2.trans (.ofExt inferInstance)
  by_cases hz2 : cf l[m + 1] l[m] = 0
  · rw [if_pos hz2, List.append_nil] at hst
    rw [decide_eq_true hz2]
    refine jjV [11] (by decide +kernel) inferInstance ?_
    (((apply jjT; exact rfl; rintro w' hq; have := hq.toStep; refine jp rfl ?_; refine jz ?_; exact ⟨rfl, rfl⟩; refine jjU ?_)))
    refine jjX (by decide +kernel) inferInstance ?_
    (refine jjK rfl ?_; refine jjG ?_; refine jjC ?_; apply jI; exact eI rfl; refine jY rfl rfl (by omega) ?_; apply jJ; exact eI rfl; refine jz ?_)
    exact ⟨rfl, by ((refine Same.upd rfl ?_; refine Same.upd rfl ?_; refine Same.upd rfl ?_; refine Same.upd rfl ?_; refine Same.upd rfl ?_; refine Same.upd rfl ?_; refine Same.upd rfl ?_; refine Same.upd rfl ?_; refine Same.upd rfl ?_; refine Same.upd rfl ?_; refine Same.upd rfl ?_; refine Same.upd rfl ?_; refine Same.upd rfl ?_; refine Same.upd rfl ?_; refine Same.upd rfl ?_; refine Same.upd rfl ?_; refine Same.upd rfl ?_; refine Same.upd rfl ?_; refine Same.upd rfl ?_; refine Same.upd rfl ?_; refine Same.upd rfl ?_; exact Same.ovN)), l.length - (i + 1) - (k2 + 1), by omega, k2 + 1, kk, P, congrArg (Value.int .i64) (by omega), rfl, rfl, by omega, by omega, by rw [hP, show i + (k2 + 1) + 1 = m + 2 by omega, hst, hm], hPl, by omega, hkk1, hOn8, hO8⟩
  rw [if_neg hz2] at hst
  rw [decide_eq_false hz2]
  refine jjV [11] (by decide +kernel) inferInstance ?_
  (((apply jjT; exact rfl; rintro w' hq; have := hq.toStep; refine jq rfl ?_; refine jz ?_; exact ⟨rfl, rfl⟩; refine jjU ?_)))
  refine jjX (by decide +kernel) inferInstance ?_
  (refine jjJ rfl ?_; refine jjB ?_; refine jjC ?_; apply jI; exact eS rfl; apply jI; exact eI rfl; apply jI; exact eS rfl; apply jI; exact eI rfl)
  refine jH k2 rfl rfl rfl (by omega) ?_
  refine Ops.loadOA (off := 0) ((hA1'.ext hS7.ext).ext hS8.ext) rfl rfl rfl rfl ?_
  refine jH kk rfl rfl rfl (by omega) ?_
  refine Ops.storeW (g := g) (j := kk) (X' := encSl l[m + 1]) hO8 rfl (by rw [List.length_map]; omega) rfl (show Value.pointer (some ⟨g, 0 + kk * 6, none⟩) = Value.pointer (some ⟨g, kk * 6, none⟩) from by rw [Nat.zero_add]) rfl rfl ?_
  intro w9 o9 hp9 hO9
  have hset : (P ++ l.drop kk).set kk l[m + 1] = (P ++ [l[m + 1]]) ++ l.drop (kk + 1) := by
    rw [List.drop_eq_getElem_cons (show kk < l.length by omega), List.set_append, if_neg (by omega), hPl, Nat.sub_self, List.set_cons_zero, List.append_assoc]
    rfl
  rw [← List.map_set, hset] at hO9
  have hOn9 : Only g w w9 := hOn8.trans (.ofPut hp9)
  (refine jz ?_; refine jjC ?_; apply jI; exact eI rfl; refine jY rfl rfl (by omega) ?_; apply jJ; exact eI rfl; refine jz ?_; refine jjC ?_; apply jI; exact eI rfl; refine jY rfl rfl (by omega) ?_; apply jJ; exact eI rfl; refine jz ?_)
  exact ⟨rfl, by ((refine Same.upd rfl ?_; refine Same.upd rfl ?_; refine Same.upd rfl ?_; refine Same.upd rfl ?_; refine Same.upd rfl ?_; refine Same.upd rfl ?_; refine Same.upd rfl ?_; refine Same.upd rfl ?_; refine Same.upd rfl ?_; refine Same.upd rfl ?_; refine Same.upd rfl ?_; refine Same.upd rfl ?_; refine Same.upd rfl ?_; refine Same.upd rfl ?_; refine Same.upd rfl ?_; refine Same.upd rfl ?_; refine Same.upd rfl ?_; refine Same.upd rfl ?_; refine Same.upd rfl ?_; refine Same.upd rfl ?_; refine Same.upd rfl ?_; refine Same.upd rfl ?_; refine Same.upd rfl ?_; refine Same.upd rfl ?_; refine Same.upd rfl ?_; refine Same.upd rfl ?_; refine Same.upd rfl ?_; refine Same.upd rfl ?_; refine Same.upd rfl ?_; refine Same.upd rfl ?_; refine Same.upd rfl ?_; exact Same.ovN)), l.length - (i + 1) - (k2 + 1), by omega, k2 + 1, kk + 1, P ++ [l[m + 1]], congrArg (Value.int .i64) (by omega), congrArg (Value.int .i64) (by omega), rfl, by omega, by omega, by rw [hP, show i + (k2 + 1) + 1 = m + 2 by omega, hst, hm], by rw [List.length_append, hPl]; rfl, by omega, by omega, hOn9, hO9⟩
end
end Go.Proofs.YtpijeomnplmakaaDoor

/- slices.SortFunc of slips: the contract of the library's shelf at this program. -/
namespace Go.Proofs.YtpijeomnplmakaaDoor
open Go.Shelf Go.RowKit Go.Lib Go.Sort
def sh_laysSlF06_f15_ren : Go.Shelf.Ren := ⟨fun | 6 => 15 | 15 => 34 | 14 => 33 | 28 => 58 | 29 => 59 | 20 => 50 | 21 => 51 | 22 => 52 | 23 => 53 | 24 => 54 | 25 => 55 | 26 => 56 | 27 => 57 | 46 => 69 | 47 => 70 | 48 => 71 | 49 => 72 | 50 => 73 | 57 => 79 | n => n, fun | 22 => 22 | 24 => 39 | 25 => 45 | 3 => 3 | 39 => 73 | 0 => 0 | 53 => 98 | 55 => 100 | 4 => 4 | 46 => 92 | 45 => 91 | 50 => 52 | 5 => 5 | 9 => 9 | 66 => 107 | 70 => 111 | 76 => 117 | 77 => 62 | n => n, fun | n => n⟩

theorem sh_laysSlF06_f15 : Go.Proofs.SlLaysF0.n6 Tryd.prog sh_laysSlF06_f15_ren := {
  mixed := by kernel_rfl
  f6 := ⟨Tryd.f15.name, by decide, Tryd.func15.trans (congrArg some (by kernel_rfl))⟩
  f14 := ⟨Tryd.f33.name, by decide, Tryd.func33.trans (congrArg some (by kernel_rfl))⟩
  f15 := Tryd.func34.trans (congrArg some (by kernel_rfl))
  f20 := ⟨Tryd.f50.name, by decide, Tryd.func50.trans (congrArg some (by kernel_rfl))⟩
  f21 := ⟨Tryd.f51.name, by decide, Tryd.func51.trans (congrArg some (by kernel_rfl))⟩
  f22 := ⟨Tryd.f52.name, by decide, Tryd.func52.trans (congrArg some (by kernel_rfl))⟩
  f23 := ⟨Tryd.f53.name, by decide, Tryd.func53.trans (congrArg some (by kernel_rfl))⟩
  f24 := ⟨Tryd.f54.name, by decide, Tryd.func54.trans (congrArg some (by kernel_rfl))⟩
  f25 := ⟨Tryd.f55.name, by decide, Tryd.func55.trans (congrArg some (by kernel_rfl))⟩
  f26 := ⟨Tryd.f56.name, by decide, Tryd.func56.trans (congrArg some (by kernel_rfl))⟩
  f27 := ⟨Tryd.f57.name, by decide, Tryd.func57.trans (congrArg some (by kernel_rfl))⟩
  f28 := Tryd.func58.trans (congrArg some (by kernel_rfl))
  f29 := Tryd.func59.trans (congrArg some (by kernel_rfl))
  f46 := ⟨Tryd.f69.name, by decide, Tryd.func69.trans (congrArg some (by kernel_rfl))⟩
  f47 := Tryd.func70.trans (congrArg some (by kernel_rfl))
  f48 := Tryd.func71.trans (congrArg some (by kernel_rfl))
  f49 := ⟨Tryd.f72.name, by decide, Tryd.func72.trans (congrArg some (by kernel_rfl))⟩
  f50 := ⟨Tryd.f73.name, by decide, Tryd.func73.trans (congrArg some (by kernel_rfl))⟩
  f57 := ⟨Tryd.f79.name, by decide, Tryd.func79.trans (congrArg some (by kernel_rfl))⟩
  t0 := Tryd.underlying0
  a0 := Tryd.isAgg0
  z0 := Tryd.sizeOf0
  v0 := Tryd.zeroValue0
  t3 := Tryd.underlying3
  a3 := Tryd.isAgg3
  z3 := Tryd.sizeOf3
  v3 := Tryd.zeroValue3
  t4 := Tryd.underlying4
  a4 := Tryd.isAgg4
  z4 := Tryd.sizeOf4
  v4 := Tryd.zeroValue4
  t5 := Tryd.underlying5
  a5 := Tryd.isAgg5
  z5 := Tryd.sizeOf5
  v5 := Tryd.zeroValue5
  t9 := Tryd.underlying9
  a9 := Tryd.isAgg9
  z9 := Tryd.sizeOf9
  v9 := Tryd.zeroValue9
  t22 := Tryd.underlying22
  a22 := Tryd.isAgg22
  z22 := Tryd.sizeOf22
  v22 := Tryd.zeroValue22
  t25 := Tryd.underlying45
  a25 := Tryd.isAgg45
  z25 := Tryd.sizeOf45
  v25 := Tryd.zeroValue45
  t39 := Tryd.underlying73
  a39 := Tryd.isAgg73
  z39 := Tryd.sizeOf73
  v39 := Tryd.zeroValue73
  t45 := Tryd.underlying91
  a45 := Tryd.isAgg91
  z45 := Tryd.sizeOf91
  v45 := Tryd.zeroValue91
  t46 := Tryd.underlying92
  a46 := Tryd.isAgg92
  z46 := Tryd.sizeOf92
  v46 := Tryd.zeroValue92
  t50 := Tryd.underlying52
  a50 := Tryd.isAgg52
  z50 := Tryd.sizeOf52
  v50 := Tryd.zeroValue52
  t53 := Tryd.underlying98
  a53 := Tryd.isAgg98
  z53 := Tryd.sizeOf98
  v53 := Tryd.zeroValue98
  t55 := Tryd.underlying100
  a55 := Tryd.isAgg100
  z55 := Tryd.sizeOf100
  v55 := Tryd.zeroValue100
  t66 := Tryd.underlying107
  a66 := Tryd.isAgg107
  z66 := Tryd.sizeOf107
  v66 := Tryd.zeroValue107
  t70 := Tryd.underlying111
  a70 := Tryd.isAgg111
  z70 := Tryd.sizeOf111
  v70 := Tryd.zeroValue111
  t76 := Tryd.underlying117
  a76 := Tryd.isAgg117
  z76 := Tryd.sizeOf117
  v76 := Tryd.zeroValue117
  t77 := Tryd.underlying62
  a77 := Tryd.isAgg62
  z77 := Tryd.sizeOf62
  v77 := Tryd.zeroValue62 }

theorem sh_slices_SortFunc {α : Type} [Inhabited α] (k : Nat) (aE : ∀ w, (isAgg 39).run Tryd.prog w = .ok true w) (zE : ∀ w, (Go.sizeOf 39).run Tryd.prog w = .ok k w) (enc : α → List Value) (hk : ∀ x, (enc x).length = k) (h1 : ∀ x, ∀ v ∈ enc x, v.oneCell' = true) (cf : α → α → Int) (hO : SWO (ltOf cf)) (g : Nat) (cb : Array Value) (blk off cap : Nat) (d : Array α) (w : World) (eg : ∀ args w, (callFunc g args).run Tryd.prog w = .ok (.enter g args) w) (hcmp : CmpLays Tryd.prog g cb enc k cf blk off d.size w) (hH : HoldsK enc k w blk off d) (hblk : blk < w.heap.size) (hsz : d.size < 4611686018427387904) :
    Calls Tryd.prog 15 #[.slice (some ⟨blk, off, none⟩) d.size cap, .func (.func g) #[] cb] w fun e w' =>
      e = .returned (.tuple #[]) ∧ ∃ d' n os, PermIn 0 d.size d d' ∧ SortedIn (ltOf cf) 0 d.size d' ∧ w' = sortWorldK enc k w blk off n d' os := AnyQ.slices_SortFunc sh_laysSlF06_f15 k aE zE enc hk h1 cf hO g cb blk off cap d w eg hcmp hH hblk hsz

theorem flat_getK {k : Nat} (hk : 0 < k) : ∀ {xs : List Value}, (∀ x ∈ xs, x.cells.size = k) → ∀ t, t < xs.length * k → (xs.flatMap (·.cells.toList))[t]? = (xs[t / k]?).bind fun x => x.cells.toList[t % k]?
  | [], _, t, h => by simp at h
  | y :: xs, hx, t, h => by
    have hy : y.cells.toList.length = k := by simpa using hx y List.mem_cons_self
    rw [List.flatMap_cons]
    rcases Nat.lt_or_ge t k with c | c
    · rw [List.getElem?_append_left (by omega), Nat.div_eq_of_lt c, Nat.mod_eq_of_lt c]
      rfl
    · rw [List.getElem?_append_right (by omega), hy]
      have e1 : t / k = (t - k) / k + 1 := by rw [Nat.div_eq_sub_div hk c]
      have e2 : t % k = (t - k) % k := Nat.mod_eq_sub_mod c
      rw [e1, e2, List.getElem?_cons_succ]
      refine flat_getK hk (fun z hz => hx z (List.mem_cons_of_mem _ hz)) (t - k) ?_
      rw [List.length_cons, Nat.add_mul] at h
      omega
def slC (x : Slp) : List Value := (encSl x).cells.toList
theorem swo_pre {α : Type} {f : α → α → Int} (hf : Pre3 f) : SWO (ltOf f) where
  irrefl x := by rw [ltOf, hf.refl]; rfl
  trans x y z h1 h2 := by
    simp only [ltOf, decide_eq_true_eq] at h1 h2 ⊢
    have r1 := hf.r x y
    have r2 := hf.r y z
    have := hf.tr x y z (by omega) (by omega)
    omega
  ntrans x y z h1 h2 := by
    simp only [ltOf, decide_eq_false_iff_not] at h1 h2 ⊢
    intro h3
    have r1 := hf.r x y
    have r3 := hf.r x z
    have a1 := hf.anti x y
    by_cases e : f x y = 0
    · have := hf.eql x y z e; omega
    · have := hf.tr y x z (by omega) (by omega); omega
theorem Only.sortedK {α : Type} [Inhabited α] {enc : α → List Value} {k : Nat} {w : World} {g m : Nat} {d : Array α} {os : Array Obj} : Only g w (sortWorldK enc k w g 0 m d os) := by
  refine ⟨rfl, rfl, rfl, by simp [sortWorldK, grow, putRowK, putRow, mapBlock, Go.Sort.ahead], fun q hq hn => ?_⟩
  have h1 : q < (putRowK enc k (Go.Sort.ahead w m) g 0 d).heap.size := by simpa [putRowK, putRow, mapBlock, Go.Sort.ahead] using hq
  rw [sortWorldK, heap_grow_old _ _ h1]
  simp only [putRowK, putRow, mapBlock, Go.Sort.ahead, Array.getElem?_modify]
  rw [if_neg (fun e => hn e.symm)]
theorem grown_ext {w w' : World} (h : Ext w w') (hd : w.drawn ≤ w'.drawn) : ∃ (q : Nat) (os : Array Obj), w' = grow (w.drewN q) os := by
  refine ⟨w'.drawn - w.drawn, w'.heap.extract w.heap.size w'.heap.size, ?_⟩
  obtain ⟨h1, h2, h3, h4, h5⟩ := h.b
  have hh : w'.heap = w.heap ++ w'.heap.extract w.heap.size w'.heap.size := by
    apply Array.ext_getElem?
    intro i
    rw [Array.getElem?_append]
    split
    · rename_i hi; exact h5 i hi
    · rename_i hi
      rw [Array.getElem?_extract]
      by_cases hj : i < w'.heap.size
      · rw [if_pos (by omega), show w.heap.size + (i - w.heap.size) = i by omega]
      · rw [if_neg (by omega), Array.getElem?_eq_none (by omega)]
  have hd : w'.drawn = w.drawn + (w'.drawn - w.drawn) := by omega
  clear h4 h5 h
  cases w
  cases w'
  simp only [grow, World.drewN] at *
  subst h1 h2 h3
  rw [← hh, ← hd]
def GSl : Type := {x : Slp // GdS x}
def aSl : Slp := (((0 : Int), (0 : Int), (0 : Int)), ⟨#[97]⟩, ⟨#[]⟩, ⟨#[]⟩)
theorem gd_a : GdS aSl := ⟨by decide +kernel, by unfold SmallS; decide +kernel⟩
instance : Inhabited GSl := ⟨⟨aSl, gd_a⟩⟩
theorem sub_gsl : ∀ {l : List Slp}, (∀ x ∈ l, GdS x) → ∃ m : List GSl, l = m.map fun x => x.1
  | [], _ => ⟨[], rfl⟩
  | x :: l, h => by
    obtain ⟨m, rfl⟩ := sub_gsl (l := l) fun y hy => h y (List.mem_cons_of_mem _ hy)
    exact ⟨⟨x, h x List.mem_cons_self⟩ :: m, rfl⟩
def slG (x : GSl) : List Value := slC x.1
theorem flatG_get (l : List GSl) (t : Nat) (h : t < l.length * 6) : ((l.map fun x => encSl x.1).flatMap (·.cells.toList))[t]? = some ((flatK slG 6 l.toArray)[t]!) := by
  rw [flat_getK (k := 6) (by omega) (fun x hx => by obtain ⟨y, _, rfl⟩ := List.mem_map.1 hx; rfl) t (by rw [List.length_map]; exact h)]
  have h1 : t / 6 < l.length := by omega
  have h2 : t % 6 < 6 := Nat.mod_lt _ (by omega)
  rw [get_flatK slG 6 l.toArray t (by simpa using h), List.getElem?_map, List.getElem?_eq_getElem h1]
  have e : l.toArray[t / 6]! = l[t / 6] := by rw [getElem!_pos _ _ (by simpa using h1)]; rfl
  rw [e]
  show (slG l[t / 6])[t % 6]? = some ((slG l[t / 6])[t % 6]!)
  have h3 : (slG l[t / 6]).length = 6 := rfl
  rw [List.getElem?_eq_getElem (by omega), getElem!_pos _ _ (by omega)]
set_option maxHeartbeats 1000000 in
theorem SortFunc_slip (q : Nat) [he : Enters Tryd.prog q] (cf : Slp → Slp → Int) (hf : Pre3 cf) (hc : CmpQ q cf)
    (g n c : Nat) (l0 : List Slp) (hg : ∀ x ∈ l0, GdS x) (w : World) {B : Nat} (hO : OwnL w B 39 true 6 (.slice (some ⟨g, 0, none⟩) n c) (l0.map encSl)) (hn : n ≤ 1000000) (hmx : ∀ V, Only g w V → MxI V) :
    Calls Tryd.prog 15 [.slice (some ⟨g, 0, none⟩) n c, .func (.func q) #[] #[]].toArray w fun e w' => (∃ v, e = .returned v) ∧ Only g w w' ∧ ∃ r : List Slp, r.Perm l0 ∧ r.Pairwise (fun a b => cf b a ≠ -1) ∧ OwnL w' g 39 true 6 (.slice (some ⟨g, 0, none⟩) n c) (r.map encSl) := by
  obtain ⟨l, hl⟩ := sub_gsl hg
  subst hl
  have emp : ∀ l : List GSl, (l.map fun x => x.1).map encSl = l.map fun x => encSl x.1 := fun l => by rw [List.map_map]; rfl
  rw [emp] at hO
  have hf' : Pre3 fun x y : GSl => cf x.1 y.1 := ⟨fun _ _ => hf.r _ _, fun _ _ => hf.anti _ _, fun _ _ _ => hf.tr _ _ _, fun _ _ _ => hf.eql _ _ _⟩
  obtain ⟨cs, hB, hcl, hnc, hcm, hln, htk, hBg⟩ := hO.cellsK
  rw [List.length_map] at hln
  have hsz : l.toArray.size = n := by simpa using hln
  have hH : HoldsK slG 6 w g 0 l.toArray := fun j hj => by
    rw [size_flatK, hsz] at hj
    have h1 := flatG_get l j (by rw [hln]; exact hj)
    rw [← htk, List.getElem?_take, if_pos hj] at h1
    rw [Nat.zero_add]
    constructor
    · simp only [World.cell?, hB.h]
      simpa using h1
    · simp [World.frozen?, hB.h]
  have hcc := sh_slices_SortFunc (k := 6) (fun w => by kernel_rfl) (fun w => by kernel_rfl) slG (fun _ => rfl) (fun x v hv => List.all_eq_true.1 (show (slG x).all (·.oneCell') = true from rfl) v hv) (fun x y : GSl => cf x.1 y.1) (swo_pre hf') q #[] g 0 c l.toArray w (Enters.h (P := Tryd.prog) (g := q)) (fun m os dk _ x y => by
    refine Calls.mono (hc x.1 y.1 _ (hmx _ Only.sortedK) x.2 y.2) fun e w' ⟨h1, h2, h3⟩ => ⟨h1, ?_⟩
    exact grown_ext h2 h3) hH hB.lt (by omega)
  rw [hsz] at hcc
  refine Calls.mono hcc fun e w' ⟨he, d', m, os, hp, hs, hw⟩ => ⟨⟨_, he⟩, by rw [hw]; exact Only.sortedK, d'.toList.map fun x => x.1, ?_, ?_, ?_⟩
  · obtain ⟨h1, _, h2⟩ := hp
    have ex : ∀ (x : Array GSl), x.size = n → x.extract 0 n = x := fun x hx => by subst hx; simp
    have e1 := ex d' (h1.trans hsz)
    have e2 := ex l.toArray hsz
    rw [e1, e2] at h2
    exact List.Perm.map _ (by simpa using h2)
  · have h1 : d'.size = n := hp.1.trans hsz
    rw [List.pairwise_map, List.pairwise_iff_getElem]
    intro i j hi hj hij
    have := hs i j (Nat.zero_le _) hij (by simpa [h1] using hj)
    rw [getElem!_pos _ j (by simpa using hj), getElem!_pos _ i (by simpa using hi)] at this
    simp only [ltOf, decide_eq_false_iff_not] at this
    simp only [Array.getElem_toList]
    omega
  · have h1 : d'.size = n := hp.1.trans hsz
    have hBk : Bk w' g (putCells id 0 (flatK slG 6 d') cs.toArray).toList 39 := by
      refine ⟨?_⟩
      rw [hw, sortWorldK, heap_grow_old _ _ (by simpa [putRowK, putRow, mapBlock, Go.Sort.ahead] using hB.lt)]
      simp [putRowK, putRow, mapBlock, Go.Sort.ahead, Array.getElem?_modify, hB.h, onCells]
    rw [emp]
    refine OwnL.ofCellsK hBk (by simp [putCells, hcl]) hnc hcm (by simpa using h1) ?_ (by omega) (Nat.le_refl _) fun x hx => by obtain ⟨y, _, rfl⟩ := List.mem_map.1 hx; rfl
    apply List.ext_getElem?
    intro j
    rw [List.getElem?_take]
    by_cases hj : j < n * 6
    · rw [if_pos hj]
      have hnc' : n * 6 ≤ c * 6 := Nat.mul_le_mul_right 6 hnc
      have hjc : j < cs.length := by omega
      have hjd : j < (flatK slG 6 d').size := by rw [size_flatK, h1]; exact hj
      rw [flatG_get d'.toList j (by simpa [h1] using hj)]
      have hjd' : j < d'.size * 6 := by rw [h1]; exact hj
      simp [putCells, hjc, hjd']
    · rw [if_neg hj]
      have hl := flat_len (k := 6) (xs := d'.toList.map fun x : GSl => encSl x.1) fun x hx => by obtain ⟨y, _, rfl⟩ := List.mem_map.1 hx; rfl
      rw [List.getElem?_eq_none (by rw [hl, List.length_map, Array.length_toList, h1]; omega)]
end Go.Proofs.YtpijeomnplmakaaDoor

/- slices.SortFunc, slices.CompactFunc of slips: nil slices too. -/
namespace Go.Proofs.YtpijeomnplmakaaDoor
open Go.Shelf Go.RowKit Go.Lib Go.Sort
def sh_lays125_ren : Go.Shelf.Ren := ⟨fun | 125 => 34 | 128 => 58 | 129 => 59 | n => n, fun | 46 => 73 | 3 => 3 | 51 => 98 | 53 => 100 | 4 => 4 | 5 => 5 | 9 => 9 | n => n, fun | n => n⟩

theorem sh_lays125 : Go.Proofs.Lays.n125 Tryd.prog sh_lays125_ren := {
  mixed := by kernel_rfl
  f125 := Tryd.func34.trans (congrArg some (by kernel_rfl))
  f128 := Tryd.func58.trans (congrArg some (by kernel_rfl))
  f129 := Tryd.func59.trans (congrArg some (by kernel_rfl))
  t3 := Tryd.underlying3
  a3 := Tryd.isAgg3
  z3 := Tryd.sizeOf3
  v3 := Tryd.zeroValue3
  t4 := Tryd.underlying4
  a4 := Tryd.isAgg4
  z4 := Tryd.sizeOf4
  v4 := Tryd.zeroValue4
  t5 := Tryd.underlying5
  a5 := Tryd.isAgg5
  z5 := Tryd.sizeOf5
  v5 := Tryd.zeroValue5
  t9 := Tryd.underlying9
  a9 := Tryd.isAgg9
  z9 := Tryd.sizeOf9
  v9 := Tryd.zeroValue9
  t46 := Tryd.underlying73
  a46 := Tryd.isAgg73
  z46 := Tryd.sizeOf73
  v46 := Tryd.zeroValue73
  t51 := Tryd.underlying98
  a51 := Tryd.isAgg98
  z51 := Tryd.sizeOf98
  v51 := Tryd.zeroValue98
  t53 := Tryd.underlying100
  a53 := Tryd.isAgg100
  z53 := Tryd.sizeOf100
  v53 := Tryd.zeroValue100 }

theorem sh_bits_Len (x : Int) (w : World) (h0 : 0 ≤ x) (h1 : x ≤ 18446744073709551615) :
    Calls Tryd.prog 34 #[.int .u64 x] w fun e w' => e = .returned (.int .i64 (Lib.bitLen x.toNat)) ∧ w' = w := Any.bits_Len sh_lays125 x w h0 h1

section
variable (q : Nat) [he : Enters Tryd.prog q] (cf : Slp → Slp → Int)
omit he in
theorem insert_none (w : World) : Ct Tryd.prog 50 [.slice none 0 0, .int .i64 0, .int .i64 0, .func (.func q) #[] #[]] w fun _ _ => True := by
  refine Ct.ofW (by simp) ?_
  (refine jjB ?_; refine jjC ?_; apply jI; exact eI rfl; refine jY rfl rfl (by omega) ?_; apply jJ; exact eI rfl; refine jz ?_; refine jjD ?_)
  refine W.loop (12 :: 13 :: 14 :: 17 :: 9 :: 18 :: 19 :: 20 :: 21 :: 22 :: 23 :: 24 :: 25 :: 26 :: 27 :: 28 :: 29 :: 30 :: 31 :: 32 :: 33 :: 34 :: 37 :: 38 :: 39 :: 40 :: 41 :: 42 :: 43 :: 44 :: 45 :: 46 :: 47 :: 48 :: 49 :: 50 :: 51 :: 52 :: 35 :: 36 :: 15 :: 16 :: 8 :: []) (fun g s' _ => s' 8 = .int .i64 1) 1 rfl ?_
  rintro _ sd V hSV h8
  refine W.fix h8 ?_
  (refine jjB ?_; refine jjB ?_; refine jjC ?_; apply jI; exact eI rfl; apply jI; exact eI rfl; refine jja rfl rfl (by omega) ?_; refine jz ?_; refine jjK rfl ?_; refine jjE ?_; refine jA rfl ⟨inferInstance, ?_⟩)
  trivial
omit he in
theorem pdq_none (m : Int) (w : World) : Ct Tryd.prog 33 [.slice none 0 0, .int .i64 0, .int .i64 0, .int .i64 m, .func (.func q) #[] #[]] w fun _ _ => True := by
  refine Ct.ofW (by simp) ?_
  (refine jjB ?_; refine jjC ?_; apply jJ; exact eB rfl; refine jz ?_; refine jjB ?_; refine jjC ?_; apply jJ; exact eB rfl; refine jz ?_; refine jjD ?_)
  refine W.loop (21 :: 22 :: 23 :: 12 :: 24 :: 25 :: 26 :: 27 :: 28 :: 29 :: 30 :: 31 :: 32 :: 33 :: 34 :: 35 :: 36 :: 37 :: 38 :: 39 :: 40 :: 41 :: 42 :: 43 :: 44 :: 45 :: 46 :: 3 :: 48 :: 49 :: 50 :: 51 :: 52 :: 47 :: 53 :: 54 :: 13 :: 14 :: 55 :: 56 :: 57 :: 58 :: 59 :: 60 :: 61 :: 62 :: 63 :: 64 :: 65 :: 66 :: 67 :: 68 :: 69 :: 70 :: 71 :: 72 :: 73 :: 74 :: 75 :: 76 :: 77 :: 78 :: 79 :: 80 :: 81 :: 82 :: 83 :: 84 :: 85 :: 86 :: 87 :: 88 :: 89 :: 90 :: 91 :: 92 :: 93 :: 94 :: 95 :: 96 :: 97 :: 98 :: 99 :: 100 :: 101 :: 102 :: 103 :: 15 :: 104 :: 1 :: 106 :: 107 :: 108 :: 109 :: 110 :: 111 :: 105 :: 112 :: 113 :: 16 :: 17 :: 114 :: 11 :: 115 :: 116 :: 117 :: 118 :: 119 :: 120 :: 18 :: 19 :: 121 :: 122 :: 20 :: 123 :: 124 :: 125 :: 126 :: 127 :: 128 :: 10 :: 129 :: 130 :: 131 :: 132 :: 133 :: 134 :: 135 :: 136 :: 137 :: 138 :: 139 :: 140 :: 141 :: 142 :: 143 :: 144 :: 145 :: 146 :: 147 :: 2 :: []) (fun g s' _ => s' 1 = .int .i64 0 ∧ s' 2 = .int .i64 0) 1 ⟨rfl, rfl⟩ ?_
  rintro _ sd V hSV ⟨h1, h2⟩
  refine W.fix h1 (W.fix (d := 2) h2 ?_)
  (refine jjD ?_; refine jjB ?_; refine jjC ?_; apply jI; exact eI rfl; apply jI; exact eI rfl; refine jZ rfl rfl (by omega) ?_; apply jJ; exact eI rfl; refine jz ?_; refine jjB ?_; refine jjB ?_; refine jjC ?_; apply jI; exact eI rfl; refine jjb rfl rfl (by omega) ?_; refine jz ?_; refine jjJ rfl ?_; refine jjB ?_; refine jjC ?_; apply jI; exact eS rfl; apply jI; exact eI rfl; apply jI; exact eI rfl; apply jI; exact eF rfl)
  refine jjQ (insert_none q _) rfl rfl ?_
  rintro _ w2 hS2 _
  (refine jz ?_; refine jjF ?_; refine jA rfl ⟨inferInstance, ?_⟩)
  trivial
omit he in
theorem SortFunc_none (w : World) : Ct Tryd.prog 15 [.slice none 0 0, .func (.func q) #[] #[]] w fun _ _ => True := by
  refine Ct.ofW (by simp) ?_
  (refine jjB ?_; refine jjC ?_; apply jI; exact eS rfl; refine jh rfl ?_; apply jJ; exact eI rfl; refine jz ?_; refine jjC ?_; apply jI; exact eS rfl; apply jI; exact eI rfl; apply jI; exact eI rfl)
  refine Ops.convI rfl rfl (show _ = (0 : Int) from by rfl) ?_
  skip
  refine Ops.callR rfl (Enters.h (P := Tryd.prog) (g := 34)) rfl (sh_bits_Len 0 _ (by omega) (by omega)) ?_
  rintro e w3 ⟨rfl, rfl⟩
  refine ⟨_, rfl, ?_⟩
  (apply jI; exact eF rfl)
  refine jjQ (pdq_none q _ _) rfl rfl ?_
  rintro _ w4 hS4 _
  (refine jz ?_; refine jA rfl ⟨inferInstance, ?_⟩)
  trivial
theorem Compact_none (bk : Nat) (w : World) : Ct Tryd.prog 16 [.slice none 0 0, .func (.func 17) #[] #[.pointer (some ⟨bk, 0, none⟩)]] w fun v _ => v = .slice none 0 0 := by
  refine Ct.ofW (by simp) ?_
  (refine jjB ?_; refine jjC ?_; apply jJ; exact eS rfl; refine jz ?_; refine jjB ?_; refine jjB ?_; refine jjC ?_; apply jI; exact eS rfl; refine jh rfl ?_; refine jjZ rfl rfl (by omega) ?_; refine jz ?_; refine jjJ rfl ?_; refine jjB ?_; refine jjC ?_; apply jI; exact eS rfl; apply jJ; exact eS rfl; refine jz ?_; refine jjF ?_; refine jB rfl rfl ⟨inferInstance, ?_⟩)
  exact rfl
variable (hf : Pre3 cf) (hc : CmpQ q cf)
include hf hc in
theorem SortAny (a : Option Addr) (c : Nat) (l : List Slp) (hg : ∀ x ∈ l, GdS x) (w : World) {B : Nat} (hO : OwnL w B 39 true 6 (.slice a l.length c) (l.map encSl)) (hB : B ≤ w.heap.size) (hl : l.length ≤ 1000000) (hmx : ∀ V, (∀ w0, Ext w0 w → w0.heap.size ≤ B → Ext w0 V) → MxI V) :
    Calls Tryd.prog 15 [.slice a l.length c, .func (.func q) #[] #[]].toArray w fun e w' => (∃ v, e = .returned v) ∧ (∀ w0, Ext w0 w → w0.heap.size ≤ B → Ext w0 w') ∧ ∃ r : List Slp, r.Perm l ∧ r.Pairwise (fun a b => cf b a ≠ -1) ∧ OwnL w' B 39 true 6 (.slice a l.length c) (r.map encSl) := by
  rcases hO.own.2 with ⟨e1, _⟩ | ⟨g, cap, cur, e1, hBg, _⟩
  · simp only [Value.slice.injEq] at e1
    obtain ⟨rfl, h0, rfl⟩ := e1
    obtain rfl := List.length_eq_zero_iff.1 h0
    have h := SortFunc_none q w
    unfold Ct at h
    exact Calls.mono h fun e w' ⟨v, h1, h2, _⟩ => ⟨⟨v, h1⟩, fun w0 h3 _ => h3.trans h2, [], List.Perm.refl _, List.Pairwise.nil, hO.ext h2⟩
  · simp only [Value.slice.injEq] at e1
    obtain ⟨rfl, _, rfl⟩ := e1
    refine Calls.mono (SortFunc_slip q cf hf hc g l.length _ l hg w hO hl fun V hV => hmx V fun w0 x0 hb => hV.ext x0 (by omega)) fun e w' ⟨h1, h2, r, h3, h4, h5⟩ => ⟨h1, fun w0 x0 hb => h2.ext x0 (by omega), r, h3, h4, h5.mono hBg⟩
include hc in
theorem CompactAny (bk : Nat) (a : Option Addr) (c : Nat) (l : List Slp) (hg : ∀ x ∈ l, GdS x) (w : World) {B : Nat} (hA : At w bk 0 [.func (.func q) #[] #[]]) (hbk : bk < B) (hO : OwnL w B 39 true 6 (.slice a l.length c) (l.map encSl)) (hB : B ≤ w.heap.size) (hl : l.length ≤ 1000000) (hmx : ∀ V, (∀ w0, Ext w0 w → w0.heap.size ≤ B → Ext w0 V) → MxI V) :
    Calls Tryd.prog 16 [.slice a l.length c, .func (.func 17) #[] #[.pointer (some ⟨bk, 0, none⟩)]].toArray w fun e w' => e = .returned (.slice a (cptL cf l).length c) ∧ (∀ w0, Ext w0 w → w0.heap.size ≤ B → Ext w0 w') ∧ OwnL w' B 39 true 6 (.slice a (cptL cf l).length c) ((cptL cf l).map encSl) := by
  rcases hO.own.2 with ⟨e1, _⟩ | ⟨g, cap, cur, e1, hBg, _⟩
  · simp only [Value.slice.injEq] at e1
    obtain ⟨rfl, h0, rfl⟩ := e1
    obtain rfl := List.length_eq_zero_iff.1 h0
    have h := Compact_none bk w
    unfold Ct at h
    exact Calls.mono h fun e w' ⟨v, h1, h2, h4⟩ => ⟨by rw [h1, h4]; rfl, fun w0 h3 _ => h3.trans h2, hO.ext h2⟩
  · simp only [Value.slice.injEq] at e1
    obtain ⟨rfl, _, rfl⟩ := e1
    refine Calls.mono (Compact_slip q cf hc bk g l.length _ l hg w hA (by omega) (by omega) hO hl fun V hV => hmx V fun w0 x0 hb => hV.ext x0 (by omega)) fun e w' ⟨h1, h2, h5⟩ => ⟨h1, fun w0 x0 hb => h2.ext x0 (by omega), h5⟩
end
end Go.Proofs.YtpijeomnplmakaaDoor

/- rack.Ranks: the ranks of slips. -/
namespace Go.Proofs.YtpijeomnplmakaaDoor
open Go.RowKit Go.Sort

/-- The table of comparators. -/
abbrev bysC : List Value := [.nilFunc, .func (.func 113) #[] ([] : List Value).toArray, .func (.func 114) #[] ([] : List Value).toArray, .func (.func 116) #[] ([] : List Value).toArray, .func (.func 117) #[] ([] : List Value).toArray]
theorem cptGo_len {α : Type} {f : α → α → Int} : ∀ (r : List α) (p : α), (cptGo f p r).length ≤ r.length
  | [], _ => Nat.le_refl _
  | x :: r, p => by
    rw [cptGo]
    have := cptGo_len (f := f) r x
    split <;> simp <;> omega
theorem cpt_len {α : Type} {f : α → α → Int} (l : List α) : (cptL f l).length ≤ l.length := by
  cases l with
  | nil => exact Nat.le_refl _
  | cons x r => have := cptGo_len (f := f) r x; simp [cptL]; exact this
def RanksR (l : List Slp) (n : Int) (B : Nat) (v : Value) (w' : World) : Prop := ∃ (a : Option Addr) (c : Nat), v = .tuple #[.slice a (ranksR l n).1.length c, .int .i64 (ranksR l n).2] ∧ OwnL w' B 3 false 1 (.slice a (ranksR l n).1.length c) ((ranksR l n).1.map intV)
theorem ordR_self (x : Slp) : (ordR x x).2 = if slipB x = true then 0 else 31 := by
  rw [ordR]
  cases slipB x <;> rfl
/-- What the table holds for one way. -/
theorem by_row (w : World) (by_ : Int) (hb : 1 ≤ by_ ∧ by_ ≤ 4) (h1 : by_ = 1 → CmpQ 113 (cmpBy 1)) (hgb : At w 0 0 bysC) : ∃ (q : Nat) (j : Nat) (rest : List Value), by_ = (j : Int) ∧ j < 5 ∧ Enters Tryd.prog q ∧ CmpQ q (cmpBy by_) ∧ At w 0 (0 + j * 1) (.func (.func q) #[] #[] :: rest) := by
  have h4 : by_ = 1 ∨ by_ = 2 ∨ by_ = 3 ∨ by_ = 4 := by omega
  rcases h4 with rfl | rfl | rfl | rfl
  · exact ⟨113, 1, _, rfl, by omega, inferInstance, h1 rfl, hgb.drop 1⟩
  · exact ⟨114, 2, _, rfl, by omega, inferInstance, by2_slip, hgb.drop 2⟩
  · exact ⟨116, 3, _, rfl, by omega, inferInstance, by3_slip, hgb.drop 3⟩
  · exact ⟨117, 4, _, rfl, by omega, inferInstance, by4_slip, hgb.drop 4⟩
section
variable (a : Option Addr) (c : Nat) (l : List Slp) (by_ : Int) (w : World) [hgb : At w 0 0 bysC] [hmx : MxI w] [hrow : RowI w (.slice a l.length c) true 6 (l.map encSl)]
set_option maxHeartbeats 4000000 in
theorem Ranks_rack (hq1 : by_ = 1 → CmpQ 113 (cmpBy 1)) (hs : ∀ x ∈ l, SmallS x) (hb : 0 ≤ by_ ∧ by_ ≤ 255) : Ct Tryd.prog 5 [.slice a l.length c, .int .u8 by_] w fun v w' => RanksR l by_ w.heap.size v w' := by
  refine Ct.ofW (by simp) ?_
  by_cases h60 : 60 < l.length
  · (refine jjB ?_; refine jjC ?_; apply jJ; exact eS rfl; apply jJ; exact eI rfl; refine jz ?_; refine jjB ?_; refine jjB ?_; refine jjC ?_; apply jI; exact eS rfl; refine jh rfl ?_; refine jjd rfl rfl (by omega) ?_; refine jz ?_; refine jjJ rfl ?_; refine jjB ?_; refine jjC ?_; apply jJ; exact eS rfl; apply jJ; exact eI rfl; refine jz ?_; refine jjF ?_; refine jC rfl rfl rfl ⟨inferInstance, ?_⟩)
    have e : ranksR l by_ = ([], 4) := by rw [ranksR, if_pos h60]
    unfold RanksR; rw [e]
    exact ⟨none, 0, rfl, OwnL.nil _ _ _ _ _⟩
  (refine jjB ?_; refine jjC ?_; apply jJ; exact eS rfl; apply jJ; exact eI rfl; refine jz ?_; refine jjB ?_; refine jjB ?_; refine jjC ?_; apply jI; exact eS rfl; refine jh rfl ?_; refine jje rfl rfl (by omega) ?_; refine jz ?_; refine jjK rfl ?_; refine jjG ?_; refine jjB ?_; refine jjB ?_; refine jjC ?_; apply jI; exact eS rfl; refine jh rfl ?_; apply jI; exact eI rfl; refine jz ?_; refine jjD ?_)
  refine W.keep0 [(0, .slice a l.length c), (1, .int .u8 by_), (20, .slice a l.length c), (21, .int .i64 (l.length : Int)), (22, .int .i64 ((0 : Nat) : Int))] ⟨eS rfl, eI rfl, eS rfl, eI rfl, eI rfl, trivial⟩ fun s0 => ?_
  refine W.loop (23 :: 24 :: 25 :: 7 :: 27 :: 28 :: 29 :: 26 :: 30 :: 31 :: 8 :: 9 :: 32 :: 33 :: 34 :: 4 :: 5 :: 35 :: 22 :: []) (fun g s' _ => ∃ k : Nat, s' 22 = .int .i64 (k : Int) ∧ g = l.length - k ∧ k ≤ l.length ∧ ∀ j (h : j < l.length), j < k → slipB l[j] = true) l.length ⟨0, rfl, rfl, Nat.zero_le _, fun j _ h => absurd h (Nat.not_lt_zero _)⟩ ?_
  rintro _ sd V hSV ⟨k, h22, rfl, hk, hpre⟩
  refine W.fix h22 ?_
  clear h22
  by_cases hk1 : k < l.length
  · have hx := hs l[k] (List.getElem_mem hk1)
    (refine jjB ?_; refine jjC ?_; refine jjZ rfl rfl (by omega) ?_; refine jz ?_; refine jjB ?_; refine jjJ rfl ?_; refine jjG ?_; refine jjB ?_; refine jjD ?_; refine jjB ?_; refine jjC ?_; refine jF rfl rfl rfl (map_get (by omega)) ?_; intro _ _ _; refine jQ rfl rfl ?_)
    (apply jjR rfl; (intro _; first|exact eI rfl|exact eB rfl|exact eP rfl|exact eS rfl|exact eT rfl|exact eA rfl|exact eU rfl|exact eF rfl|exact eM rfl|exact eN rfl|exact rfl); exact rfl; exact rfl; exact rfl; exact rfl; intro b7 w_b7 hb_b7 hs_b7 hS_b7 hk_b7; have hA_b7 := Bk.of hk_b7)
    have hA7 : At w_b7 b7 0 (encSl l[k]).cells.toList := Bk.toAt (h := hA_b7)
    (refine jz ?_; refine jjB ?_; refine jjC ?_; refine jO rfl rfl rfl rfl ?_; refine jO rfl rfl rfl rfl ?_)
    refine jjQ (Order_slip _ l[k] l[k] hx hx) rfl rfl ?_
    rintro _ w8 hS8 rfl
    by_cases hr : slipB l[k] = true
    · rw [ordR_self, if_pos hr]
      (apply jI; exact eU rfl; refine ju rfl rfl ?_; refine ju rfl rfl ?_; apply jJ; exact eI rfl; apply jJ; exact eI rfl; refine jz ?_; refine jjB ?_; refine jjC ?_; apply jI; exact eI rfl; refine jjk rfl rfl (by omega) ?_; refine jz ?_; refine jjK rfl ?_; refine jjG ?_; refine jjC ?_; refine jY rfl rfl (by omega) ?_; apply jI; exact eI rfl; refine jz ?_)
      refine ⟨rfl, by ((refine Same.upd rfl ?_; refine Same.upd rfl ?_; refine Same.upd rfl ?_; refine Same.upd rfl ?_; refine Same.upd rfl ?_; refine Same.upd rfl ?_; refine Same.upd rfl ?_; refine Same.upd rfl ?_; refine Same.upd rfl ?_; refine Same.upd rfl ?_; refine Same.upd rfl ?_; refine Same.upd rfl ?_; refine Same.upd rfl ?_; refine Same.upd rfl ?_; refine Same.upd rfl ?_; refine Same.upd rfl ?_; refine Same.upd rfl ?_; exact Same.ovN)), l.length - (k + 1), by omega, inferInstance, k + 1, congrArg (Value.int .i64) (by omega), rfl, by omega, fun j h1 h2 => ?_⟩
      rcases Nat.lt_or_ge j k with c1 | c1
      · exact hpre j h1 c1
      · obtain rfl : j = k := by omega
        exact hr
    · rw [ordR_self, if_neg hr]
      (apply jI; exact eU rfl; refine ju rfl rfl ?_; refine ju rfl rfl ?_; apply jJ; exact eI rfl; apply jJ; exact eI rfl; refine jz ?_; refine jjB ?_; refine jjC ?_; apply jI; exact eI rfl; refine jjj rfl rfl (by omega) ?_; refine jz ?_; refine jjJ rfl ?_; refine jjB ?_; refine jjC ?_; apply jI; exact eI rfl; apply jJ; exact eS rfl; apply jJ; exact eI rfl; refine jz ?_; refine jjF ?_; refine jC rfl rfl rfl ⟨inferInstance, ?_⟩)
      have e : ranksR l by_ = ([], 31) := by
        rw [ranksR, if_neg h60, if_pos fun h => hr (List.all_eq_true.1 h _ (List.getElem_mem hk1))]
      unfold RanksR; rw [e]
      exact ⟨none, 0, rfl, OwnL.nil _ _ _ _ _⟩
  have hall : l.all slipB = true := List.all_eq_true.2 fun x hx => by
    obtain ⟨j, hj, rfl⟩ := List.mem_iff_getElem.1 hx
    exact hpre j hj (by omega)
  have hgd : ∀ x ∈ l, GdS x := fun x hx => ⟨List.all_eq_true.1 hall x hx, hs x hx⟩
  clear hpre hk
  (refine jjB ?_; refine jjC ?_; refine jja rfl rfl (by omega) ?_; refine jz ?_; refine jjB ?_; refine jjK rfl ?_; refine jjE ?_; refine jjB ?_; refine jjB ?_; refine jjC ?_; apply jI; exact eI rfl)
  refine Ops.convI rfl rfl (wrapi (by omega) (by omega)) ?_
  skip
  (refine jjP (v := .int _ _) rfl (by exact rfl) (by exact rfl) (by exact rfl) (by exact rfl) ?_; intro b38 w_b38 hb_b38 hs_b38 hS_b38 hk_b38; have hR_b38 := RowV.one (agg := false) (k := 1) rfl hk_b38)
  ((skip); refine jjQ (in_rack 1 4 _ [by_] _ hR_b38) rfl rfl ?_)
  rintro _ w3 hS3 rfl
  rw [all_one]
  by_cases hby : 1 ≤ by_ ∧ by_ ≤ 4
  rotate_left
  · have e : ranksR l by_ = ([], 2) := by rw [ranksR, if_neg h60, if_neg (by simp [hall]), if_pos hby]
    rw [show inB 1 4 by_ = false by rw [inB]; exact decide_eq_false hby]
    (refine jq rfl ?_; refine jz ?_; refine jjJ rfl ?_; refine jjB ?_; refine jjC ?_; apply jJ; exact eS rfl; apply jJ; exact eI rfl; refine jz ?_; refine jjF ?_; refine jC rfl rfl rfl ⟨inferInstance, ?_⟩)
    unfold RanksR; rw [e]
    exact ⟨none, 0, rfl, OwnL.nil _ _ _ _ _⟩
  rw [show inB 1 4 by_ = true by rw [inB]; exact decide_eq_true hby]
  have hE3 : Ext w w3 := inferInstance
  obtain ⟨q, j, rest, hj, hj5, he, hc, hAq⟩ := by_row w3 by_ hby hq1 (hgb.ext hE3)
  have hf := pre_by by_
  have e : ranksR l by_ = (l.map fun s => (rankF (cmpBy by_) l s : Int), 0) := ranksR_ok (by omega) hall hby
  unfold RanksR
  rw [e]
  clear e
  generalize cmpBy by_ = cf at *
  (refine jp rfl ?_; refine jz ?_; refine jjK rfl ?_; refine jjG ?_; refine jjB ?_; refine jjC ?_; apply jI; exact eI rfl)
  refine Ops.indexAP j rfl rfl hj (by simpa using hj5) ?_
  (refine jm ?_; refine jn rfl ?_; refine jP rfl rfl rfl ?_)
  (apply jjR rfl; (intro _; first|exact eI rfl|exact eB rfl|exact eP rfl|exact eS rfl|exact eT rfl|exact eA rfl|exact eU rfl|exact eF rfl|exact eM rfl|exact eN rfl|exact rfl); exact rfl; exact rfl; exact rfl; exact rfl; intro b10 w_b10 hb_b10 hs_b10 hS_b10 hk_b10; have hA_b10 := Bk.of hk_b10)
  have hA10 : At w_b10 b10 0 [.func (.func q) #[] #[]] := Bk.toAt (h := hA_b10)
  have hEb : Ext w w_b10 := inferInstance
  have hr10 : RowI w_b10 (.slice a l.length c) true 6 (l.map encSl) := inferInstance
  (refine jz ?_; refine jjB ?_; refine jjC ?_; apply jI; exact eS rfl)
  refine jjQ (Clone_Slip a c l _ (by omega)) rfl rfl ?_
  rintro _ w13 hS13 ⟨ca, cc, rfl, hO13⟩
  have hbl : b10 < w_b10.heap.size := hA10.lt
  (apply jJ; exact eS rfl; refine jz ?_; refine jjB ?_; refine jjC ?_; apply jI; exact eS rfl; refine jN rfl rfl rfl ?_)
  refine Ops.callR rfl (Enters.h (P := Tryd.prog) (g := 15)) rfl (SortAny q cf hf hc ca cc l hgd w13 hO13 hS13.size (by omega) fun V hV => (inferInstance : MxI w_b10).ext (hV _ hS13.ext (Nat.le_refl _))) ?_
  rintro e w14 ⟨⟨v14, rfl⟩, hx14, r, hp, hsr, hO14⟩
  refine ⟨_, rfl, ?_⟩
  have hE14 : Ext w_b10 w14 := hx14 _ hS13.ext (Nat.le_refl _)
  have hlr := hp.length_eq
  rw [← hlr] at hO14
  (refine jz ?_; refine jjB ?_; refine jjC ?_; apply jI; exact eS rfl; refine jv ?_)
  refine Ops.callR rfl (Enters.h (P := Tryd.prog) (g := 16)) (by rw [← hlr]; rfl) (CompactAny q cf hc b10 ca cc r (fun x hx => hgd x (hp.mem_iff.1 hx)) w14 (hA10.ext hE14) hbl hO14 hE14.size (by omega) fun V hV => (inferInstance : MxI w_b10).ext (hV _ hE14 (Nat.le_refl _))) ?_
  rintro e w15 ⟨rfl, hx15, hO15⟩
  refine ⟨_, rfl, ?_⟩
  have hE15 : Ext w_b10 w15 := hx15 _ hE14 (Nat.le_refl _)
  have hcp := cpt_facts hf hsr
  have hrk := fun s => rank_cpt hf (s := s) hp hsr
  have hgC : ∀ y ∈ cptL cf r, GdS y := fun y hy => hgd y (hp.mem_iff.1 (hcp.1 y hy))
  have hlC : (cptL cf r).length ≤ 1000000 := by
    have := cpt_len (f := cf) r
    omega
  have hpw := hcp.2.1
  generalize cptL cf r = C at *
  clear hx14 hx15 hsr hcp hp hO14 hO13
  have hE15' : Ext w w15 := hEb.trans hE15
  have hA15 : At w15 b10 0 [.func (.func q) #[] #[]] := hA10.ext hE15
  have hr15 : RowI w15 (.slice a l.length c) true 6 (l.map encSl) := ⟨hr10.h.ext hE15⟩
  have hrC : RowI w15 (.slice ca C.length cc) true 6 (C.map encSl) := ⟨hO15.row⟩
  have := hE15'.toStep
  (apply jJ; exact eS rfl; refine jz ?_; refine jjB ?_; refine jjC ?_; apply jJ; exact eS rfl; refine jz ?_; refine jjB ?_; refine jjB ?_; refine jjC ?_; apply jI; exact eS rfl; refine jh rfl ?_; apply jI; exact eI rfl; refine jz ?_; refine jjD ?_)
  refine W.keep0 [(10, .pointer (some ⟨b10, 0, none⟩)), (11, .slice ca C.length cc), (12, .slice none 0 0), (53, .slice a l.length c), (54, .int .i64 (l.length : Int)), (55, .int .i64 ((0 : Nat) : Int))] ⟨eP rfl, eS rfl, eS rfl, eS rfl, eI rfl, eI rfl, trivial⟩ fun s1 => ?_
  refine W.loopG (56 :: 57 :: 58 :: 14 :: 60 :: 61 :: 62 :: 63 :: 59 :: 64 :: 65 :: 15 :: 16 :: 66 :: 67 :: 68 :: 69 :: 12 :: 70 :: 55 :: []) (fun g s' V => ∃ (k : Nat) (dv : Value), s' 55 = .int .i64 (k : Int) ∧ s' 12 = dv ∧ g = l.length - k ∧ k ≤ l.length ∧ Ext w15 V ∧ OwnL V w15.heap.size 3 false 1 dv (((l.take k).map fun s => (rankF cf l s : Int)).map intV)) l.length ⟨0, _, rfl, rfl, rfl, Nat.zero_le _, Ext.refl _, OwnL.nil _ _ _ _ _⟩ ?_
  rintro _ sd2 V2 ⟨k, dv, h55, h12, rfl, hk, hEV, hO⟩
  refine W.fix h55 (W.fix (d := 12) h12 ?_)
  clear h55 h12
  obtain ⟨da, dc, rfl⟩ := hO.slice
  have hdl : (((l.take k).map fun s => (rankF cf l s : Int)).map intV).length = k := by simp; omega
  rw [hdl] at hO ⊢
  have := hEV.toStep
  by_cases hk1 : k < l.length
  rotate_left
  · obtain rfl : k = l.length := by omega
    rw [List.take_length] at hO
    (refine jjB ?_; refine jjC ?_; refine jja rfl rfl (by omega) ?_; refine jz ?_; refine jjB ?_; refine jjK rfl ?_; refine jjE ?_; refine jjB ?_; refine jjC ?_; apply jI; exact eS rfl; apply jJ; exact eS rfl; apply jJ; exact eI rfl; refine jz ?_; refine jjF ?_; refine jC rfl rfl rfl ⟨inferInstance, ?_⟩)
    exact ⟨da, dc, by rw [List.length_map]; rfl, by rw [List.length_map]; exact hO.mono hE15'.size⟩
  have hgk := List.getElem?_eq_getElem hk1
  have hgx := hgd l[k] (List.getElem_mem hk1)
  (refine jjB ?_; refine jjC ?_; refine jjZ rfl rfl (by omega) ?_; refine jz ?_; refine jjB ?_; refine jjJ rfl ?_; refine jjG ?_; refine jjB ?_; refine jjD ?_; refine jjB ?_; refine jjC ?_; refine jF rfl rfl rfl (map_get (by omega)) ?_; intro _ _ _; refine jQ rfl rfl ?_)
  (apply jjR rfl; (intro _; first|exact eI rfl|exact eB rfl|exact eP rfl|exact eS rfl|exact eT rfl|exact eA rfl|exact eU rfl|exact eF rfl|exact eM rfl|exact eN rfl|exact rfl); exact rfl; exact rfl; exact rfl; exact rfl; intro b14 w_b14 hb_b14 hs_b14 hS_b14 hk_b14; have hA_b14 := Bk.of hk_b14)
  have hA14 : At w_b14 b14 0 (encSl l[k]).cells.toList := Bk.toAt (h := hA_b14)
  have hEb14 : Ext w15 w_b14 := inferInstance
  have hrC14 : RowI w_b14 (.slice ca C.length cc) true 6 (C.map encSl) := inferInstance
  (refine jz ?_; refine jjB ?_; refine jjC ?_; apply jI; exact eS rfl; refine jO rfl rfl rfl rfl ?_; refine jN rfl rfl rfl ?_)
  refine jjQ (Search_slip q cf hf hc ca cc C l[k] hgC hgx w_b14 hlC hpw) rfl rfl ?_
  rintro _ w17 hS17 ⟨bb, rfl⟩
  rw [← hrk l[k]]
  (apply jI; exact eU rfl; refine ju rfl rfl ?_; refine ju rfl rfl ?_; apply jJ; exact eI rfl; apply jJ; exact eB rfl; refine jz ?_; refine jjC ?_; apply jI; exact eS rfl; apply jI; exact eI rfl)
  (refine jjP (v := .int _ _) rfl (by exact rfl) (by exact rfl) (by exact rfl) (by exact rfl) ?_; intro b68 w_b68 hb_b68 hs_b68 hS_b68 hk_b68; have hR_b68 := RowV.one (agg := false) (k := 1) rfl hk_b68)
  have hE68 : Ext V2 w_b68 := inferInstance
  refine Ops.appendL (hO.ext hE68) (by have := hE68.size; have := hEV.size; omega) hR_b68 rfl rfl rfl rfl rfl ?_ ?_ ?_
  · rw [hdl]; simp only [List.length_cons, List.length_nil]; omega
  · rw [hdl]; simp only [List.length_cons, List.length_nil]; omega
  intro v69 w69 hA69 hO69 _ _
  have hE69 : Ext w15 w69 := hA69.ext (hEV.trans hE68) (Nat.le_refl _)
  (apply jJ; exact rfl; refine jz ?_; refine jjC ?_; refine jY rfl rfl (by omega) ?_; apply jI; exact eI rfl; refine jz ?_)
  refine ⟨rfl, by ((refine Same.upd rfl ?_; refine Same.upd rfl ?_; refine Same.upd rfl ?_; refine Same.upd rfl ?_; refine Same.upd rfl ?_; refine Same.upd rfl ?_; refine Same.upd rfl ?_; refine Same.upd rfl ?_; refine Same.upd rfl ?_; refine Same.upd rfl ?_; refine Same.upd rfl ?_; refine Same.upd rfl ?_; refine Same.upd rfl ?_; refine Same.upd rfl ?_; refine Same.upd rfl ?_; refine Same.upd rfl ?_; refine Same.upd rfl ?_; refine Same.upd rfl ?_; refine Same.upd rfl ?_; refine Same.upd rfl ?_; refine Same.upd rfl ?_; refine Same.upd rfl ?_; exact Same.ovN)), l.length - (k + 1), by omega, k + 1, _, congrArg (Value.int .i64) (by omega), rfl, rfl, by omega, hE69, ?_⟩
  rw [take_snoc_get hgk, List.map_append, List.map_append]
  exact hO69
end
end Go.Proofs.YtpijeomnplmakaaDoor

/- Chains, in plain Lean. -/
namespace Go.Proofs.YtpijeomnplmakaaDoor
open Go.RowKit

abbrev gd (l : List Int) (i : Nat) : Int := l.getD i 0
theorem gd_lt {l : List Int} {i : Nat} (h : i < l.length) : gd l i = l[i] := by simp [gd, List.getD_eq_getElem?_getD, h]
theorem gd_snoc (l : List Int) (x : Int) (i : Nat) : gd (l ++ [x]) i = if i < l.length then gd l i else if i = l.length then x else 0 := by
  simp only [gd, List.getD_eq_getElem?_getD, List.getElem?_append]
  split
  · rfl
  · split
    · subst_vars; simp
    · have : 0 < i - l.length := by omega
      rw [List.getElem?_eq_none (by simp; omega)]; rfl
theorem gd_set (l : List Int) (n : Nat) (x : Int) (i : Nat) : gd (l.set n x) i = if i = n ∧ n < l.length then x else gd l i := by
  simp only [gd, List.getD_eq_getElem?_getD, List.getElem?_set]
  split
  · subst_vars
    by_cases h : i < l.length
    · simp [h]
    · simp [h]
  · rw [if_neg (by omega)]
theorem ext_gd {a b : List Int} (hl : a.length = b.length) (h : ∀ i, i < a.length → gd a i = gd b i) : a = b := by
  apply List.ext_getElem hl
  intro i h1 h2
  have := h i h1
  rwa [gd_lt h1, gd_lt h2] at this

/-- The chain of each slip. -/
structure ChainR (d C : List Int) : Prop where
  len : C.length = d.length
  pos : ∀ i, i < d.length → 0 ≤ gd C i
  up : ∀ i, i < d.length → ∀ k, k < i → gd d k ≤ gd d i → gd C k + 1 ≤ gd C i
  ex : ∀ i, i < d.length → gd C i = 0 ∨ ∃ k, k < i ∧ gd d k ≤ gd d i ∧ gd C i = gd C k + 1
theorem ChainR.uniq {d C C' : List Int} (h : ChainR d C) (g : ChainR d C') : C = C' := by
  refine ext_gd (h.len.trans g.len.symm) fun i hi => ?_
  rw [h.len] at hi
  induction i using Nat.strongRecOn with
  | ind i ih =>
    have h1 : gd C i ≤ gd C' i := by
      rcases h.ex i hi with e | ⟨k, hk, hd, e⟩
      · have := g.pos i hi; omega
      · have := g.up i hi k hk hd
        have := ih k hk (by omega); omega
    have h2 : gd C' i ≤ gd C i := by
      rcases g.ex i hi with e | ⟨k, hk, hd, e⟩
      · have := h.pos i hi; omega
      · have := h.up i hi k hk hd
        have := ih k hk (by omega); omega
    omega

/-- What holds when the slips of D have been put into chains C; L: the least ranks with which chains end. -/
structure PatI (D L C : List Int) : Prop where
  ch : ChainR D C
  srt : ∀ i j, i ≤ j → j < L.length → gd L i ≤ gd L j
  has : ∀ j, j < L.length → ∃ k, k < D.length ∧ gd C k = (j : Int) ∧ gd D k = gd L j
  low : ∀ k, k < D.length → ∃ c : Nat, gd C k = (c : Int) ∧ c < L.length ∧ gd L c ≤ gd D k
theorem PatI.nil : PatI [] [] [] := ⟨⟨rfl, by simp, by simp, by simp⟩, by simp, by simp, by simp⟩
theorem PatI.step {D L C : List Int} {r : Int} {n : Nat} (h : PatI D L C) (hn : n ≤ L.length) (h1 : ∀ j, j < L.length → j < n → gd L j ≤ r) (h2 : ∀ j, j < L.length → n ≤ j → r < gd L j) :
    PatI (D ++ [r]) ((if n = L.length then L ++ [r] else L).set n r) (C ++ [(n : Int)]) := by
  have hCl := h.ch.len
  obtain ⟨L', hL'⟩ : ∃ L', L' = (if n = L.length then L ++ [r] else L).set n r := ⟨_, rfl⟩
  have hll : L'.length = if n = L.length then L.length + 1 else L.length := by
    rw [hL', List.length_set]; split <;> simp
  have hg : ∀ i, i < L'.length → gd L' i = if i = n then r else gd L i := by
    intro i hi
    rw [hll] at hi
    rw [hL', gd_set]
    by_cases e : i = n
    · rw [if_pos ⟨e, by split <;> (try rw [List.length_append]) <;> (try simp only [List.length_cons, List.length_nil]) <;> omega⟩, if_pos e]
    · rw [if_neg (fun h => e h.1), if_neg e]
      split
      · rw [gd_snoc, if_pos (by rename_i h3; rw [if_pos h3] at hi; omega)]
      · rfl
  have hn' : n < L'.length := by rw [hll]; split <;> omega
  have hLL : ∀ i, i < L'.length → i ≠ n → i < L.length := by
    intro i hi hne; rw [hll] at hi; split at hi <;> omega
  rw [← hL']
  refine ⟨⟨by simp [hCl], ?_, ?_, ?_⟩, ?_, ?_, ?_⟩
  · intro i hi
    rw [gd_snoc, hCl]
    simp at hi
    by_cases e : i < D.length
    · rw [if_pos e]; exact h.ch.pos i e
    · rw [if_neg e, if_pos (by omega)]; omega
  · intro i hi k hk hd
    simp at hi
    simp only [gd_snoc, hCl] at hd ⊢
    rw [if_pos (by omega)] at hd ⊢
    by_cases e : i < D.length
    · rw [if_pos e] at hd ⊢; exact h.ch.up i e k hk hd
    · rw [if_neg e, if_pos (by omega)] at hd ⊢
      obtain ⟨c, hc, hcl, hcd⟩ := h.low k (by omega)
      rcases Nat.lt_or_ge c n with h3 | h3
      · omega
      · have := h2 c hcl h3; omega
  · intro i hi
    simp at hi
    simp only [gd_snoc, hCl]
    by_cases e : i < D.length
    · rw [if_pos e]
      rcases h.ch.ex i e with h3 | ⟨k, hk, hd, h3⟩
      · exact .inl h3
      · refine .inr ⟨k, hk, ?_, ?_⟩
        · rw [if_pos (by omega), if_pos e]; exact hd
        · rw [if_pos (by omega)]; exact h3
    · rw [if_neg e, if_pos (by omega)]
      rcases Nat.eq_zero_or_pos n with h0 | h0
      · left; omega
      · right
        obtain ⟨k, hk, hc, hd⟩ := h.has (n - 1) (by omega)
        refine ⟨k, by omega, ?_, ?_⟩
        · rw [if_pos hk, if_neg e, if_pos (by omega), hd]
          exact h1 (n - 1) (by omega) (by omega)
        · rw [if_pos hk, hc]; omega
  · intro i j hij hj
    rw [hg i (by omega), hg j hj]
    by_cases ei : i = n
    · rw [if_pos ei]
      by_cases ej : j = n
      · rw [if_pos ej]; omega
      · rw [if_neg ej]
        have := h2 j (hLL j hj ej) (by omega); omega
    · rw [if_neg ei]
      by_cases ej : j = n
      · rw [if_pos ej]
        exact h1 i (hLL i (by omega) ei) (by omega)
      · rw [if_neg ej]
        exact h.srt i j hij (hLL j hj ej)
  · intro j hj
    rw [hg j hj]
    by_cases e : j = n
    · refine ⟨D.length, by simp, ?_, ?_⟩
      · rw [gd_snoc, hCl, if_neg (by omega), if_pos rfl, e]
      · rw [gd_snoc, if_neg (by omega), if_pos rfl, if_pos e]
    · obtain ⟨k, hk, hc, hd⟩ := h.has j (hLL j hj e)
      refine ⟨k, by simp; omega, ?_, ?_⟩
      · rw [gd_snoc, hCl, if_pos hk]; exact hc
      · rw [gd_snoc, if_pos hk, if_neg e]; exact hd
  · intro k hk
    simp at hk
    by_cases e : k < D.length
    · obtain ⟨c, hc, hcl, hcd⟩ := h.low k e
      have hcl' : c < L'.length := by rw [hll]; split <;> omega
      refine ⟨c, by rw [gd_snoc, hCl, if_pos e]; exact hc, hcl', ?_⟩
      rw [hg c hcl', gd_snoc, if_pos e]
      by_cases ec : c = n
      · rw [if_pos ec]
        have := h2 c hcl (by omega); omega
      · rw [if_neg ec]; exact hcd
    · refine ⟨n, by rw [gd_snoc, hCl, if_neg e, if_pos (by omega)], hn', ?_⟩
      rw [hg n hn', if_pos rfl, gd_snoc, if_neg e, if_pos (by omega)]; omega
end Go.Proofs.YtpijeomnplmakaaDoor

/- Moves, in plain Lean. -/
namespace Go.Proofs.YtpijeomnplmakaaDoor
open Go.RowKit

end Go.Proofs.YtpijeomnplmakaaDoor

/- A deck is put right, in plain Lean. -/
namespace Go.Proofs.YtpijeomnplmakaaDoor
open Go.RowKit

theorem upN_nodup (n : Nat) : (upN n).Nodup := by
  rw [upN]
  exact List.Pairwise.map _ (fun a b (h : a ≠ b) => by omega) List.nodup_range
end Go.Proofs.YtpijeomnplmakaaDoor

/- Plain law: the order of a deck, its runs (the outright statements of racks). -/
namespace Go.Proofs.YtpijeomnplmakaaDoor
open Go.RowKit

/-- Two lists of the same numbers, both in a strict order, are one. -/
theorem perm_uniq {α : Type} {R : α → α → Prop} (hR : ∀ a b, R a b → R b a → False) : ∀ {l m : List α}, l.Perm m → l.Pairwise R → m.Pairwise R → l = m
  | [], m, hp, _, _ => (List.nil_perm.1 hp).symm
  | x :: l, [], hp, _, _ => absurd hp.length_eq (by simp)
  | x :: l, y :: m, hp, h1, h2 => by
    obtain ⟨a1, a2⟩ := List.pairwise_cons.1 h1
    obtain ⟨b1, b2⟩ := List.pairwise_cons.1 h2
    have e : x = y := Classical.byContradiction fun hne => by
      have hx : x ∈ m := by
        rcases List.mem_cons.1 (hp.mem_iff.1 (List.mem_cons_self (a := x))) with h | h
        · exact absurd h hne
        · exact h
      have hy : y ∈ l := by
        rcases List.mem_cons.1 (hp.mem_iff.2 (List.mem_cons_self (a := y))) with h | h
        · exact absurd h.symm hne
        · exact h
      exact hR x y (a1 y hy) (b1 x hx)
    subst e
    rw [perm_uniq hR (List.Perm.cons_inv hp) a2 b2]
/-- A stable sort: what is less comes first; of equal ones what was first. -/
theorem ssort_pair {k : Int → Int} {R : Int → Int → Prop} {l : List Int} (h : l.Pairwise R) : (ssort k l).Pairwise fun a b => k a < k b ∨ k a = k b ∧ R a b := by
  rw [List.pairwise_iff_forall_sublist]
  intro a b hab
  have h1 : k a ≤ k b := List.pairwise_iff_forall_sublist.1 (ssort_srt k l) hab
  by_cases e : k a = k b
  · right
    refine ⟨e, ?_⟩
    have h2 : List.Sublist ([a, b].filter (fun x => decide (k x = k b))) ((ssort k l).filter (fun x => decide (k x = k b))) := hab.filter _
    rw [← ssort_filt k l (k b)] at h2
    have h3 : [a, b].filter (fun x => decide (k x = k b)) = [a, b] := by simp [e]
    rw [h3] at h2
    exact List.pairwise_iff_forall_sublist.1 h (h2.trans List.filter_sublist)
  · left; omega
theorem filt_perm {k : Int → Int} {l r : List Int} (h : Filt k l r) : l.Perm r := by
  rw [List.perm_iff_count]
  intro x
  have := congrArg (List.count x) (h (k x))
  rwa [List.count_filter (by simp), List.count_filter (by simp)] at this
theorem ssort_perm (k : Int → Int) (l : List Int) : (ssort k l).Perm l := (filt_perm (ssort_filt k l)).symm
theorem upN_up (n : Nat) : (upN n).Pairwise (· < ·) := by
  induction n with
  | zero => exact List.Pairwise.nil
  | succ n ih =>
    rw [upN_succ, List.pairwise_append]
    refine ⟨ih, List.pairwise_singleton _ _, fun a ha b hb => ?_⟩
    have := (upN_mem.1 ha).2
    rw [List.mem_singleton] at hb
    omega
theorem ordF_perm (d : List Int) : (ordF d).Perm (upN d.length) := ssort_perm _ _
theorem ordF_nodup (d : List Int) : (ordF d).Nodup := (ordF_perm d).nodup_iff.2 (upN_nodup _)
theorem ordF_in {d : List Int} {x : Int} : x ∈ ordF d ↔ 0 ≤ x ∧ x < d.length := (ordF_perm d).mem_iff.trans upN_mem
theorem gd_mem {l : List Int} {i : Nat} (h : i < l.length) : gd l i ∈ l := by rw [gd_lt h]; exact List.getElem_mem h
theorem pair_gd {R : Int → Int → Prop} {l : List Int} (h : l.Pairwise R) {i j : Nat} (hij : i < j) (hj : j < l.length) : R (gd l i) (gd l j) := by
  rw [gd_lt hj, gd_lt (by omega)]
  exact List.pairwise_iff_getElem.1 h i j (by omega) hj hij
theorem nodup_gd {l : List Int} (h : l.Nodup) {i j : Nat} (hi : i < l.length) (hj : j < l.length) (e : gd l i = gd l j) : i = j := by
  rw [gd_lt hi, gd_lt hj] at e
  have hp := List.pairwise_iff_getElem.1 h
  rcases Nat.lt_trichotomy i j with c | c | c
  · exact absurd e (hp i j hi hj c)
  · exact c
  · exact absurd e.symm (hp j i hj hi c)
theorem ordF_rng {d : List Int} {i : Nat} (h : i < d.length) : 0 ≤ gd (ordF d) i ∧ gd (ordF d) i < d.length := ordF_in.1 (gd_mem (by rw [ordF_len]; exact h))
/-! ### Runs -/
/-- How many runs end before the j-th. -/
def brk (L : List Int) : Nat → Nat
  | 0 => 0
  | j + 1 => brk L j + if gd L (j + 1) < gd L j then 1 else 0
/-- The pairs where they end. -/
def prs (L : List Int) : Nat → List (Int × Int)
  | 0 => []
  | j + 1 => prs L j ++ if gd L (j + 1) < gd L j then [(gd L j, gd L (j + 1))] else []
theorem prs_len (L : List Int) : ∀ j, (prs L j).length = brk L j
  | 0 => rfl
  | j + 1 => by
    rw [prs, brk, List.length_append, prs_len L j]
    split <;> rfl
theorem opF_at {n : Nat} {L : List Int} (hL : ∀ x ∈ L, 0 ≤ x ∧ x < n) (hnd : L.Nodup) : ∀ j, j < L.length → (opF n (L.take (j + 1))).1 = gd L j ∧ (opF n (L.take (j + 1))).2.1 = prs L j ∧ ∀ i, i ≤ j → gd (opF n (L.take (j + 1))).2.2 (gd L i).toNat = (brk L i : Int) := by
  intro j
  induction j with
  | zero =>
    intro hj
    have h0 := hL _ (gd_mem hj)
    have e : L.take 1 = [] ++ [gd L 0] := by rw [gd_lt hj]; exact (take_snoc_get (List.getElem?_eq_getElem hj))
    rw [e, opF_snoc]
    have e2 : opF n [] = (-1, [], List.replicate n 0) := rfl
    rw [e2]
    simp only [opS]
    rw [if_neg (by omega)]
    refine ⟨by first | rfl | trivial, by first | rfl | trivial, fun i hi => ?_⟩
    obtain rfl : i = 0 := by omega
    rw [gd_set, if_pos ⟨rfl, by rw [List.length_replicate]; omega⟩]
    rfl
  | succ j ih =>
    intro hj
    obtain ⟨h1, h2, h3⟩ := ih (by omega)
    have hx := hL _ (gd_mem hj)
    have e : L.take (j + 1 + 1) = L.take (j + 1) ++ [gd L (j + 1)] := by rw [gd_lt hj]; exact (take_snoc_get (List.getElem?_eq_getElem hj))
    have hlen := (opF_len n (L.take (j + 1))).1
    rw [e, opF_snoc]
    generalize opF n (L.take (j + 1)) = st at *
    have e3 : (if gd L (j + 1) < st.1 then st.2.1 ++ [(st.1, gd L (j + 1))] else st.2.1) = prs L (j + 1) := by
      rw [prs, h1, h2]
      split
      · rfl
      · simp
    refine ⟨rfl, e3, fun i hi => ?_⟩
    show gd (st.2.2.set (gd L (j + 1)).toNat ((if gd L (j + 1) < st.1 then st.2.1 ++ [(st.1, gd L (j + 1))] else st.2.1).length : Int)) (gd L i).toNat = _
    rw [e3, prs_len, gd_set, hlen]
    by_cases hij : i = j + 1
    · subst hij
      rw [if_pos ⟨rfl, by omega⟩]
    · rw [if_neg fun hc => ?_]
      · exact h3 i (by omega)
      · have hi' := hL _ (gd_mem (show i < L.length by omega))
        exact hij (nodup_gd hnd (by omega) hj (by omega))
theorem end_eq (d : List Int) : endF d = prs (ordF d) (d.length - 1) := by
  have hl := ordF_len d
  by_cases h0 : d.length = 0
  · have : d = [] := List.eq_nil_of_length_eq_zero h0
    subst this
    rfl
  · obtain ⟨h1, h2, h3⟩ := opF_at (n := d.length) (L := ordF d) (fun x hx => ordF_in.1 hx) (ordF_nodup d) (d.length - 1) (by omega)
    have e : (ordF d).take (d.length - 1 + 1) = ordF d := List.take_of_length_le (by omega)
    rw [e] at h2
    exact h2
theorem end_len (d : List Int) : (endF d).length = brk (ordF d) (d.length - 1) := by rw [end_eq, prs_len]
end Go.Proofs.YtpijeomnplmakaaDoor

/- Plain law: sorting by passes (RackSorted, RackFewest). -/
namespace Go.Proofs.YtpijeomnplmakaaDoor
open Go.RowKit

theorem sort_uniq {n : Nat} {k : Int → Int} {l : List Int} (hp : l.Perm (upN n)) (h : l.Pairwise fun a b => k a < k b ∨ k a = k b ∧ a < b) : l = ssort k (upN n) :=
  perm_uniq (R := fun a b => k a < k b ∨ k a = k b ∧ a < b) (fun a b h g => by omega) (hp.trans (ssort_perm k (upN n)).symm) h (ssort_pair (upN_up n))
/-- Two stable sorts, one behind the other, are one. -/
theorem two_sorts {n : Nat} {k1 k2 : Int → Int} {B : Int} (h : ∀ x : Int, 0 ≤ x → x < n → 0 ≤ k1 x ∧ k1 x < B) : ssort k2 (ssort k1 (upN n)) = ssort (fun x => k2 x * B + k1 x) (upN n) := by
  refine sort_uniq ((ssort_perm _ _).trans (ssort_perm _ _)) ((ssort_pair (k := k2) (ssort_pair (k := k1) (upN_up n))).imp_of_mem ?_)
  intro a b ha hb hab
  have ha' := upN_mem.1 (ssort_mem.1 (ssort_mem.1 ha))
  have hb' := upN_mem.1 (ssort_mem.1 (ssort_mem.1 hb))
  have h1 := h a ha'.1 ha'.2
  have h2 := h b hb'.1 hb'.2
  rcases hab with h3 | ⟨h3, h4⟩
  · left
    have h5 : (k2 a + 1) * B ≤ k2 b * B := Int.mul_le_mul_of_nonneg_right (by omega) (by omega)
    rw [Int.add_mul, Int.one_mul] at h5
    show k2 a * B + k1 a < k2 b * B + k1 b
    omega
  · show k2 a * B + k1 a < k2 b * B + k1 b ∨ k2 a * B + k1 a = k2 b * B + k1 b ∧ a < b
    rw [h3]
    omega
def sortP (n : Nat) (P : List (List Int)) : List Int := P.foldl (fun l x => ssort (keyD x) l) (upN n)
/-- The boxes of all passes as one number. -/
def cK (b : Nat) (P : List (List Int)) : Nat → Int → Int
  | 0, _ => 0
  | q + 1, x => keyD (P.getD q []) x * ((b ^ q : Nat) : Int) + cK b P q x
def PlanI (n b : Nat) (P : List (List Int)) : Prop := ∀ r ∈ P, r.length = n ∧ ∀ y ∈ r, 0 ≤ y ∧ y ≤ (b : Int) - 1
theorem radix {n b : Nat} (hb : 1 ≤ b) {P : List (List Int)} (hP : PlanI n b P) : ∀ q, q ≤ P.length → sortP n (P.take q) = ssort (cK b P q) (upN n) ∧ ∀ x : Int, 0 ≤ x → x < n → 0 ≤ cK b P q x ∧ cK b P q x < ((b ^ q : Nat) : Int) := by
  intro q
  induction q with
  | zero =>
    intro _
    refine ⟨?_, fun x _ _ => ⟨Int.le_refl _, by simp [cK]⟩⟩
    rw [List.take_zero]
    refine (ssort_of_srt ?_).symm
    exact (upN_up n).imp fun _ => Int.le_refl _
  | succ q ih =>
    intro hq
    obtain ⟨h1, h2⟩ := ih (by omega)
    have hr := hP P[q] (List.getElem_mem hq)
    have eg : P.getD q [] = P[q] := by simp [List.getD_eq_getElem?_getD, List.getElem?_eq_getElem hq]
    refine ⟨?_, fun x hx0 hxn => ?_⟩
    · rw [take_snoc_get (List.getElem?_eq_getElem hq), sortP, List.foldl_append]
      have : (P.take q).foldl (fun l x => ssort (keyD x) l) (upN n) = ssort (cK b P q) (upN n) := h1
      rw [this]
      show ssort (keyD P[q]) (ssort (cK b P q) (upN n)) = _
      rw [two_sorts h2, ← eg]
      rfl
    · obtain ⟨h3, h4⟩ := h2 x hx0 hxn
      have hk : 0 ≤ keyD P[q] x ∧ keyD P[q] x ≤ (b : Int) - 1 := by
        have hlt : x.toNat < P[q].length := by omega
        refine hr.2 _ ?_
        have : keyD P[q] x = P[q][x.toNat] := by simp [keyD, List.getD_eq_getElem?_getD, hlt]
        rw [this]
        exact List.getElem_mem hlt
      rw [cK, eg]
      have e : ((b ^ (q + 1) : Nat) : Int) = (b : Int) * ((b ^ q : Nat) : Int) := by rw [Nat.pow_succ, Nat.mul_comm]; exact Int.natCast_mul _ _
      rw [e]
      generalize ((b ^ q : Nat) : Int) = B at *
      have h5 : keyD P[q] x * B ≤ ((b : Int) - 1) * B := Int.mul_le_mul_of_nonneg_right hk.2 (by omega)
      have h6 : 0 ≤ keyD P[q] x * B := Int.mul_nonneg hk.1 (by omega)
      rw [Int.sub_mul, Int.one_mul] at h5
      omega
theorem radix_all {n b : Nat} (hb : 1 ≤ b) {P : List (List Int)} (hP : PlanI n b P) : sortP n P = ssort (cK b P P.length) (upN n) := by
  have := (radix hb hP P.length (Nat.le_refl _)).1
  rwa [List.take_length] at this
/-! ### The plan -/
/-- What sorts the deck puts together all its runs. -/
theorem fewest {d : List Int} {b : Nat} (hb : 1 ≤ b) {P : List (List Int)} (hP : PlanI d.length b P) (hs : sortP d.length P = ordF d) : (endF d).length < b ^ P.length := by
  have hl := ordF_len d
  rw [radix_all hb hP] at hs
  have hbd := (radix hb hP P.length (Nat.le_refl _)).2
  have hpw := ssort_pair (k := cK b P P.length) (upN_up d.length)
  rw [hs] at hpw
  rw [end_len]
  by_cases h0 : d.length = 0
  · rw [h0]
    exact Nat.pow_pos hb
  · have key : ∀ j, j < d.length → (brk (ordF d) j : Int) ≤ cK b P P.length (gd (ordF d) j) := by
      intro j
      induction j with
      | zero =>
        intro hj
        exact (hbd _ (ordF_rng hj).1 (ordF_rng hj).2).1
      | succ j ih =>
        intro hj
        have h1 := ih (by omega)
        have h2 := pair_gd hpw (show j < j + 1 by omega) (by omega)
        rw [brk]
        split <;> omega
    have h1 := key (d.length - 1) (by omega)
    have h2 := ordF_rng (d := d) (i := d.length - 1) (by omega)
    have h3 := (hbd _ h2.1 h2.2).2
    omega
end Go.Proofs.YtpijeomnplmakaaDoor

/- Go's library: slices.Delete, Insert, Index, Compare, BinarySearch (integers). -/
namespace Go.Proofs.YtpijeomnplmakaaDoor
open Go.RowKit

end Go.Proofs.YtpijeomnplmakaaDoor

/- What is kept, in plain Lean. -/
namespace Go.Proofs.YtpijeomnplmakaaDoor
open Go.RowKit

/-- How many slips whose ranks do not fall begin with each one, at most. -/
structure BegR (d C : List Int) : Prop where
  len : C.length = d.length
  pos : ∀ i, i < d.length → 1 ≤ gd C i
  up : ∀ i k, i < k → k < d.length → gd d i ≤ gd d k → gd C k + 1 ≤ gd C i
  ex : ∀ i, i < d.length → gd C i = 1 ∨ ∃ k, i < k ∧ k < d.length ∧ gd d i ≤ gd d k ∧ gd C i = gd C k + 1
theorem BegR.uniq {d C C' : List Int} (h : BegR d C) (g : BegR d C') : C = C' := by
  refine ext_gd (h.len.trans g.len.symm) fun i hi => ?_
  rw [h.len] at hi
  obtain ⟨m, hm⟩ : ∃ m, m = d.length - i := ⟨_, rfl⟩
  induction m using Nat.strongRecOn generalizing i with
  | ind m ih =>
    have h1 : gd C i ≤ gd C' i := by
      rcases h.ex i hi with e | ⟨k, hk, hk2, hd, e⟩
      · have := g.pos i hi; omega
      · have := g.up i k hk hk2 hd
        have := ih (d.length - k) (by omega) k hk2 rfl; omega
    have h2 : gd C' i ≤ gd C i := by
      rcases g.ex i hi with e | ⟨k, hk, hk2, hd, e⟩
      · have := h.pos i hi; omega
      · have := h.up i k hk hk2 hd
        have := ih (d.length - k) (by omega) k hk2 rfl; omega
    omega
theorem BegR.le {d C : List Int} (h : BegR d C) : ∀ i, i < d.length → gd C i ≤ d.length - i := by
  intro i hi
  obtain ⟨m, hm⟩ : ∃ m, m = d.length - i := ⟨_, rfl⟩
  induction m using Nat.strongRecOn generalizing i with
  | ind m ih =>
    rcases h.ex i hi with e | ⟨k, hk, hk2, hd, e⟩
    · omega
    · have := ih (d.length - k) (by omega) k hk2 rfl; omega

section
variable {d C : List Int} (h : BegR d C)
include h
end
section
variable {d C : List Int} (h : BegR d C)
include h
end
end Go.Proofs.YtpijeomnplmakaaDoor

/- Plain law: runs; a slip behind all others (RackRuns, RackBoxes). -/
namespace Go.Proofs.YtpijeomnplmakaaDoor
open Go.RowKit

/-! ### Passes -/
theorem PassR.zero {b m p : Nat} (h : PassR b m p) : p = 0 ↔ m = 0 := by
  constructor
  · intro e; subst e; have := h.1; simpa using this
  · intro e
    refine Decidable.by_contra fun hp => ?_
    have := h.2 0 (by omega)
    simp at this; omega
theorem PassR.one {b m p : Nat} (h : PassR b m p) (hm : 0 < m) : p = 1 ↔ m < b := by
  have hz := h.zero
  constructor
  · intro e; subst e; have := h.1; simpa using this
  · intro hlt
    refine Decidable.by_contra fun hp => ?_
    have := h.2 1 (by omega)
    simp at this; omega
theorem PassR.more {b b' m p p' : Nat} (h : PassR b m p) (g : PassR b' m p') (hb : b ≤ b') : p' ≤ p := by
  refine Decidable.by_contra fun hc => ?_
  have h1 := g.2 p (by omega)
  have h2 : b ^ p ≤ b' ^ p := Nat.pow_le_pow_left hb _
  have := h.1
  omega
/-! ### One more slip behind all others -/
section
variable {d : List Int} {r : Int} (hr : ∀ x ∈ d, x ≤ r)
include hr
end
end Go.Proofs.YtpijeomnplmakaaDoor

/- Plain law: a deck that fell is put right by the fewest moves (RackMended, RackChains, RackFell). -/
namespace Go.Proofs.YtpijeomnplmakaaDoor
open Go.RowKit

/-! ### Moves -/
/-! ### The moves that put a deck right -/
end Go.Proofs.YtpijeomnplmakaaDoor

/- Plain law: chains; a part of a deck that fell (RackChains, RackFell). -/
namespace Go.Proofs.YtpijeomnplmakaaDoor
open Go.RowKit

/-! ### A part of a deck that lay right -/
/-- Ranks that do not fall, but for those from a to b, which lie between the others. -/
def FellI (d : List Int) (a b : Nat) : Prop := ∀ i j, i < j → j < d.length → (i < a ∨ b < i ∨ j < a ∨ b < j) → gd d i ≤ gd d j
/-- Two ranks of the part change their places. -/
theorem FellI.swap {d : List Int} {a b i k : Nat} (hf : FellI d a b) (hi : a ≤ i ∧ i ≤ b) (hk : a ≤ k ∧ k ≤ b) (hb : b < d.length) : FellI ((d.set i (gd d k)).set k (gd d i)) a b := by
  intro x y hxy hy ho
  have hl : ((d.set i (gd d k)).set k (gd d i)).length = d.length := by simp
  rw [hl] at hy
  have g : ∀ z, gd ((d.set i (gd d k)).set k (gd d i)) z = if z = k then gd d i else if z = i then gd d k else gd d z := fun z => by
    rw [gd_set, gd_set, List.length_set]
    by_cases e1 : z = k
    · rw [if_pos ⟨e1, by omega⟩, if_pos e1]
    · rw [if_neg (fun h => e1 h.1), if_neg e1]
      by_cases e2 : z = i
      · rw [if_pos ⟨e2, by omega⟩, if_pos e2]
      · rw [if_neg (fun h => e2 h.1), if_neg e2]
  rw [g, g]
  have key : ∀ z, ∃ z', gd d z' = (if z = k then gd d i else if z = i then gd d k else gd d z) ∧ ((z < a ∨ b < z) → z' = z) ∧ ((a ≤ z ∧ z ≤ b) → a ≤ z' ∧ z' ≤ b) := fun z => by
    by_cases e1 : z = k
    · exact ⟨i, by rw [if_pos e1], by omega, by omega⟩
    · by_cases e2 : z = i
      · exact ⟨k, by rw [if_neg e1, if_pos e2], by omega, by omega⟩
      · exact ⟨z, by rw [if_neg e1, if_neg e2], fun _ => rfl, fun h => h⟩
  obtain ⟨x', x1, x2, x3⟩ := key x
  obtain ⟨y', y1, y2, y3⟩ := key y
  rw [← x1, ← y1]
  refine hf x' y' ?_ ?_ ?_ <;> omega
end Go.Proofs.YtpijeomnplmakaaDoor

/- The proof engine, part 28: literals of slices of however many elements. -/
namespace Go.Proofs.YtpijeomnplmakaaDoor
open Go.RowKit

section rules
variable {P : Program} {ro : Option Nat} {n : Nat} {all rest : List Oper} {K : Sl → World → Prop} {s : Sl} {w : World} {d : Nat} {ty : Nat} {pos : String} {af : Array Edge} {t e : Nat}
end rules
/-- What such a literal reads as. -/
theorem Bk.rows {w : World} {b e k : Nat} {agg : Bool} {xs : List Value} (h : Bk w b (xs.flatMap (·.cells.toList)) e) (hf : ∀ x ∈ xs, fitsV agg k x = true) (hl : xs.length ≤ 140737488355328) : RowV w agg k (.slice (some ⟨b, 0, none⟩) xs.length xs.length) xs := by
  refine ⟨hl, hf, .inr ⟨b, 0, xs.length, rfl, Nat.le_refl _, fun j x hx => ⟨fun i v hv => ?_⟩⟩⟩
  have := flat_get (k := k) (xs := xs) (fun y hy => fitsV_cells (hf y hy)) hx hv
  have hc := (Bk.toAt (h := h)).h _ _ this
  rw [show 0 + j * k + i = 0 + (j * k + i) by omega]; exact hc
end Go.Proofs.YtpijeomnplmakaaDoor

/- Helpers of postillaw06. -/
namespace Go.Proofs.YtpijeomnplmakaaDoor
open Go.RowKit

end Go.Proofs.YtpijeomnplmakaaDoor

/- Plain facts: the examples' deck; what File answers. -/
namespace Go.Proofs.YtpijeomnplmakaaDoor
open Go.RowKit

/-! What File answers. -/
def fileE (l : List Slp) (by_ boxes : Int) : Int := if (ranksR l by_).2 = 0 then opE (ranksR l by_).1 boxes else (ranksR l by_).2
def fileL (l : List Slp) (by_ boxes : Int) : List Slp := if fileE l by_ boxes = 0 then (ordF (ranksR l by_).1).map fun i => l.getD i.toNat ((0, 0, 0), ⟨#[]⟩, ⟨#[]⟩, ⟨#[]⟩) else []
def FileR (l : List Slp) (by_ boxes : Int) (B : Nat) (v : Value) (w' : World) : Prop :=
  ∃ (p : Nat) (a : Option Addr) (c : Nat), (if fileE l by_ boxes = 0 then PassR boxes.toNat (endF (ranksR l by_).1).length p else p = 0) ∧
    v = .tuple #[.slice a (fileL l by_ boxes).length c, .int .i64 (p : Int), .int .i64 (fileE l by_ boxes)] ∧ OwnL w' B 39 true 6 (.slice a (fileL l by_ boxes).length c) ((fileL l by_ boxes).map encSl)

end Go.Proofs.YtpijeomnplmakaaDoor

/- Reference 6: GreatSlips, Ranks, File. -/
namespace Go.Proofs.YtpijeomnplmakaaDoor
open Go.RowKit

def greatL6 (l : List Slp) : Bool := decide (80 < l.length) || l.any greatS
theorem small_of_great6 {l : List Slp} (h : greatL6 l = false) : l.length ≤ 80 ∧ ∀ x ∈ l, SmallS x := by
  simp only [greatL6, Bool.or_eq_false_iff, decide_eq_false_iff_not, List.any_eq_false] at h
  refine ⟨by omega, fun x hx => ?_⟩
  have h2 : greatS x = false := by have := h.2 x hx; simpa using this
  simp only [greatS, Bool.or_eq_false_iff, decide_eq_false_iff_not] at h2
  exact ⟨by omega, by omega, by omega⟩
theorem isFst_no {α : Type} {f : α → α → Int} {l : List α} {s : α} {k j : Nat} (hj : j ≤ k) (h : (decide (f (l.getD k s) s < 0) && (l.take j).all fun y => decide (f y (l.getD k s) ≠ 0)) = false) : isFst f l s k = false := by
  rw [isFst]
  cases h1 : decide (f (l.getD k s) s < 0)
  · rfl
  · rw [h1, Bool.true_and] at h
    rw [Bool.true_and, Bool.eq_false_iff]
    intro h2
    rw [List.all_eq_true] at h2
    have : (l.take j).all (fun y => decide (f y (l.getD k s) ≠ 0)) = true := List.all_eq_true.2 fun y hy => h2 y (by
      have e : l.take j = (l.take k).take j := by rw [List.take_take, Nat.min_eq_left hj]
      rw [e] at hy
      exact List.mem_of_mem_take hy)
    rw [this] at h
    exact absurd h (by decide)
section
variable (a : Option Addr) (c : Nat) (l : List Slp) (w : World) [hrow : RowI w (.slice a l.length c) true 6 (l.map encSl)]
theorem GreatSlips_ref6 : Ct Tryd.prog 4 [.slice a l.length c] w fun v _ => v = .bool (greatL6 l) := by
  refine Ct.ofW (by simp) ?_
  by_cases h80 : 80 < l.length
  · (refine jjB ?_; refine jjC ?_; apply jJ; exact eB rfl; refine jz ?_; refine jjB ?_; refine jjB ?_; refine jjC ?_; apply jI; exact eS rfl; refine jh rfl ?_; refine jjd rfl rfl (by omega) ?_; refine jz ?_; refine jjJ rfl ?_; refine jjB ?_; refine jjC ?_; apply jJ; exact eB rfl; refine jz ?_; refine jjF ?_; refine jB rfl rfl ⟨inferInstance, ?_⟩)
    rw [greatL6, decide_eq_true h80]; exact rfl
  (refine jjB ?_; refine jjC ?_; apply jJ; exact eB rfl; refine jz ?_; refine jjB ?_; refine jjB ?_; refine jjC ?_; apply jI; exact eS rfl; refine jh rfl ?_; refine jje rfl rfl (by omega) ?_; refine jz ?_; refine jjK rfl ?_; refine jjG ?_; refine jjB ?_; refine jjB ?_; refine jjC ?_; apply jJ; exact eI rfl; refine jz ?_; refine jjD ?_)
  refine W.loop (7 :: 8 :: 9 :: 10 :: 13 :: 14 :: 15 :: 16 :: 17 :: 2 :: 11 :: 12 :: 3 :: []) (fun g s' V => ∃ k : Nat, s' 3 = .int .i64 (k : Int) ∧ g = l.length - k ∧ k ≤ l.length ∧ ∀ j (h : j < l.length), j < k → greatS l[j] = false) l.length ⟨0, rfl, rfl, Nat.zero_le _, fun j _ h => absurd h (Nat.not_lt_zero _)⟩ ?_
  rintro _ sd V hSV ⟨k, h3, rfl, hk, hpre⟩
  refine W.fix h3 ?_
  clear h3
  by_cases hk1 : k < l.length
  · (refine jjB ?_; refine jjB ?_; refine jjC ?_; apply jI; exact eI rfl; apply jI; exact eS rfl; refine jh rfl ?_; refine jjZ rfl rfl (by omega) ?_; refine jz ?_; refine jjJ rfl ?_; refine jjG ?_; refine jjB ?_; refine jjD ?_; refine jjB ?_; refine jjC ?_; apply jI; exact eS rfl; apply jI; exact eI rfl; refine jF rfl rfl rfl (map_get (by omega)) ?_; intro _ _ _; refine jQ rfl rfl ?_)
    refine jjQ (Great_ref3 l[k] _) rfl rfl ?_
    rintro _ w8 hS8 rfl
    by_cases hr : greatS l[k] = true
    · rw [hr]
      (refine jz ?_; refine jjJ rfl ?_; refine jjB ?_; refine jjC ?_; apply jJ; exact eB rfl; refine jz ?_; refine jjF ?_; refine jB rfl rfl ⟨inferInstance, ?_⟩)
      have e : greatL6 l = true := by rw [greatL6, Bool.or_eq_true]; exact .inr (List.any_eq_true.2 ⟨_, List.getElem_mem hk1, hr⟩)
      rw [e]; exact rfl
    · rw [show greatS l[k] = false by simpa using hr]
      (refine jz ?_; refine jjK rfl ?_; refine jjG ?_; refine jjC ?_; apply jI; exact eI rfl; refine jY rfl rfl (by omega) ?_; apply jJ; exact eI rfl; refine jz ?_)
      refine ⟨rfl, by ((refine Same.upd rfl ?_; refine Same.upd rfl ?_; refine Same.upd rfl ?_; refine Same.upd rfl ?_; refine Same.upd rfl ?_; refine Same.upd rfl ?_; refine Same.upd rfl ?_; refine Same.upd rfl ?_; refine Same.upd rfl ?_; refine Same.upd rfl ?_; refine Same.upd rfl ?_; refine Same.upd rfl ?_; refine Same.upd rfl ?_; exact Same.ovN)), l.length - (k + 1), by omega, inferInstance, k + 1, congrArg (Value.int .i64) (by omega), rfl, by omega, fun j h1 h2 => ?_⟩
      rcases Nat.lt_or_ge j k with c1 | c1
      · exact hpre j h1 c1
      · obtain rfl : j = k := by omega
        simpa using hr
  (refine jjB ?_; refine jjB ?_; refine jjC ?_; apply jI; exact eI rfl; apply jI; exact eS rfl; refine jh rfl ?_; refine jja rfl rfl (by omega) ?_; refine jz ?_; refine jjK rfl ?_; refine jjE ?_; refine jjB ?_; refine jjC ?_; apply jJ; exact eB rfl; refine jz ?_; refine jjF ?_; refine jB rfl rfl ⟨inferInstance, ?_⟩)
  have e : greatL6 l = false := by
    rw [greatL6, decide_eq_false h80, Bool.false_or, Bool.eq_false_iff]
    intro hc
    obtain ⟨x, hx, hb⟩ := List.any_eq_true.1 hc
    obtain ⟨j, hj, rfl⟩ := List.mem_iff_getElem.1 hx
    rw [hpre j hj (by omega)] at hb
    exact absurd hb (by decide)
  rw [e]; exact rfl
set_option maxHeartbeats 60000000 in
theorem Ranks_ref6 (n : Nat) (hs : ∀ x ∈ l, SmallS x) (hn : n ≤ 255) : Ct Tryd.prog 6 [.slice a l.length c, .int .u8 (n : Int)] w fun v w' => RanksR l (n : Int) w.heap.size v w' := by
  refine Ct.ofW (by simp) ?_
  by_cases h60 : 60 < l.length
  · (refine jjB ?_; refine jjC ?_; apply jJ; exact eS rfl; apply jJ; exact eI rfl; refine jz ?_; refine jjB ?_; refine jjB ?_; refine jjC ?_; apply jI; exact eS rfl; refine jh rfl ?_; refine jjd rfl rfl (by omega) ?_; refine jz ?_; refine jjJ rfl ?_; refine jjB ?_; refine jjC ?_; apply jJ; exact eS rfl; apply jJ; exact eI rfl; refine jz ?_; refine jjF ?_; refine jC rfl rfl rfl ⟨inferInstance, ?_⟩)
    have e : ranksR l (n : Int) = ([], 4) := by rw [ranksR, if_pos h60]
    unfold RanksR; rw [e]
    exact ⟨none, 0, rfl, OwnL.nil _ _ _ _ _⟩
  (refine jjB ?_; refine jjC ?_; apply jJ; exact eS rfl; apply jJ; exact eI rfl; refine jz ?_; refine jjB ?_; refine jjB ?_; refine jjC ?_; apply jI; exact eS rfl; refine jh rfl ?_; refine jje rfl rfl (by omega) ?_; refine jz ?_; refine jjK rfl ?_; refine jjG ?_; refine jjB ?_; refine jjB ?_; refine jjC ?_; apply jJ; exact eI rfl; refine jz ?_; refine jjD ?_)
  refine W.keep0 [(0, .slice a l.length c), (1, .int .u8 (n : Int)), (6, .int .i64 ((0 : Nat) : Int))] ⟨eS rfl, rfl, eI rfl, trivial⟩ fun s0 => ?_
  refine W.loop (16 :: 17 :: 18 :: 19 :: 22 :: 23 :: 24 :: 25 :: 26 :: 27 :: 4 :: 5 :: 20 :: 21 :: 6 :: []) (fun g s' _ => ∃ k : Nat, s' 6 = .int .i64 (k : Int) ∧ g = l.length - k ∧ k ≤ l.length ∧ ∀ j (h : j < l.length), j < k → slipB l[j] = true) l.length ⟨0, rfl, rfl, Nat.zero_le _, fun j _ h => absurd h (Nat.not_lt_zero _)⟩ ?_
  rintro _ sd V hSV ⟨k, h6, rfl, hk, hpre⟩
  refine W.fix h6 ?_
  clear h6
  by_cases hk1 : k < l.length
  · have hx := hs l[k] (List.getElem_mem hk1)
    (refine jjB ?_; refine jjB ?_; refine jjC ?_; apply jI; exact eI rfl; apply jI; exact eS rfl; refine jh rfl ?_; refine jjZ rfl rfl (by omega) ?_; refine jz ?_; refine jjJ rfl ?_; refine jjG ?_; refine jjB ?_; refine jjD ?_; refine jjB ?_; refine jjC ?_; apply jI; exact eS rfl; apply jI; exact eI rfl; refine jF rfl rfl rfl (map_get (by omega)) ?_; intro _ _ _; refine jQ rfl rfl ?_)
    refine jjQ (Slip_ref3 l[k] _ hx) rfl rfl ?_
    rintro _ w8 hS8 rfl
    by_cases hr : slipB l[k] = true
    · rw [hr]
      (refine jp rfl ?_; refine jz ?_; refine jjK rfl ?_; refine jjG ?_; refine jjC ?_; apply jI; exact eI rfl; refine jY rfl rfl (by omega) ?_; apply jJ; exact eI rfl; refine jz ?_)
      refine ⟨rfl, by ((refine Same.upd rfl ?_; refine Same.upd rfl ?_; refine Same.upd rfl ?_; refine Same.upd rfl ?_; refine Same.upd rfl ?_; refine Same.upd rfl ?_; refine Same.upd rfl ?_; refine Same.upd rfl ?_; refine Same.upd rfl ?_; refine Same.upd rfl ?_; refine Same.upd rfl ?_; refine Same.upd rfl ?_; refine Same.upd rfl ?_; refine Same.upd rfl ?_; exact Same.ovN)), l.length - (k + 1), by omega, inferInstance, k + 1, congrArg (Value.int .i64) (by omega), rfl, by omega, fun j h1 h2 => ?_⟩
      rcases Nat.lt_or_ge j k with c1 | c1
      · exact hpre j h1 c1
      · obtain rfl : j = k := by omega
        exact hr
    · rw [show slipB l[k] = false by simpa using hr]
      (refine jq rfl ?_; refine jz ?_; refine jjJ rfl ?_; refine jjB ?_; refine jjC ?_; apply jJ; exact eS rfl; apply jJ; exact eI rfl; refine jz ?_; refine jjF ?_; refine jC rfl rfl rfl ⟨inferInstance, ?_⟩)
      have e : ranksR l (n : Int) = ([], 31) := by
        rw [ranksR, if_neg h60, if_pos fun h => hr (List.all_eq_true.1 h _ (List.getElem_mem hk1))]
      unfold RanksR; rw [e]
      exact ⟨none, 0, rfl, OwnL.nil _ _ _ _ _⟩
  have hall : l.all slipB = true := List.all_eq_true.2 fun x hx => by
    obtain ⟨j, hj, rfl⟩ := List.mem_iff_getElem.1 hx
    exact hpre j hj (by omega)
  have ho : ∀ x ∈ l, ∀ y ∈ l, (ordR x y).1 = ordS x y := fun x hx y hy => by simp [ordR, List.all_eq_true.1 hall x hx, List.all_eq_true.1 hall y hy]
  clear hpre hk
  (refine jjB ?_; refine jjB ?_; refine jjC ?_; apply jI; exact eI rfl; apply jI; exact eS rfl; refine jh rfl ?_; refine jja rfl rfl (by omega) ?_; refine jz ?_; refine jjK rfl ?_; refine jjE ?_; refine jjB ?_; refine jjB ?_; refine jjC ?_; apply jI; exact eI rfl)
  refine Ops.convI rfl rfl (wrapi (by omega) (by omega)) ?_
  skip
  refine jjQ (within_postilref06 (n : Int) 1 4 _) rfl rfl ?_
  rintro _ w3 hS3 rfl
  by_cases hby : 1 ≤ (n : Int) ∧ (n : Int) ≤ 4
  rotate_left
  · rw [show inB 1 4 (n : Int) = false by rw [inB, decide_eq_false_iff_not]; exact hby]
    (refine jq rfl ?_; refine jz ?_; refine jjJ rfl ?_; refine jjB ?_; refine jjC ?_; apply jJ; exact eS rfl; apply jJ; exact eI rfl; refine jz ?_; refine jjF ?_; refine jC rfl rfl rfl ⟨inferInstance, ?_⟩)
    have e : ranksR l (n : Int) = ([], 2) := by rw [ranksR, if_neg h60, if_neg (by simp [hall]), if_pos hby]
    unfold RanksR; rw [e]
    exact ⟨none, 0, rfl, OwnL.nil _ _ _ _ _⟩
  rw [show inB 1 4 (n : Int) = true by rw [inB, decide_eq_true_eq]; exact hby]
  have hres := ranksR_ok (l := l) (n := (n : Int)) (by omega) hall hby
  have hE3 : Ext w w3 := inferInstance
  (refine jp rfl ?_; refine jz ?_; refine jjK rfl ?_; refine jjG ?_; refine jjB ?_; refine jjC ?_; apply jJ; exact eS rfl; refine jz ?_; refine jjB ?_; refine jjB ?_; refine jjC ?_; apply jJ; exact eI rfl; refine jz ?_; refine jjD ?_)
  refine W.keep0 [(0, .slice a l.length c), (1, .int .u8 (n : Int)), (7, .slice none 0 0), (8, .int .i64 ((0 : Nat) : Int))] ⟨eS rfl, rfl, eS rfl, eI rfl, trivial⟩ fun s1 => ?_
  refine W.loopG (32 :: 33 :: 34 :: 35 :: 9 :: 10 :: 38 :: 39 :: 40 :: 41 :: 44 :: 45 :: 46 :: 47 :: 48 :: 49 :: 50 :: 51 :: 52 :: 53 :: 54 :: 11 :: 12 :: 55 :: 56 :: 57 :: 58 :: 59 :: 60 :: 63 :: 64 :: 65 :: 66 :: 67 :: 68 :: 69 :: 70 :: 71 :: 72 :: 73 :: 61 :: 62 :: 74 :: 75 :: 76 :: 42 :: 43 :: 77 :: 78 :: 79 :: 80 :: 7 :: 36 :: 37 :: 8 :: []) (fun g s' V => ∃ (i : Nat) (ov : Value), s' 8 = .int .i64 (i : Int) ∧ s' 7 = ov ∧ g = l.length - i ∧ i ≤ l.length ∧ Ext w V ∧ OwnL V w.heap.size 3 false 1 ov (((l.take i).map fun s => (rankF (cmpBy n) l s : Int)).map intV)) l.length ⟨0, _, rfl, rfl, rfl, Nat.zero_le _, hE3, OwnL.nil _ _ _ _ _⟩ ?_
  rintro _ sd2 V2 ⟨i, ov, h8, h7, rfl, hi, hE2, hO2⟩
  refine W.fix h8 (W.fix (d := 7) h7 ?_)
  clear h8 h7
  have hS2 := hE2.toStep
  have z2 := hE2.size
  obtain ⟨oa, oc, rfl⟩ := hO2.slice
  rw [List.length_map, List.length_map, List.length_take, Nat.min_eq_left hi] at hO2 ⊢
  by_cases hi1 : i < l.length
  rotate_left
  · obtain rfl : i = l.length := by omega
    (refine jjB ?_; refine jjB ?_; refine jjC ?_; apply jI; exact eI rfl; apply jI; exact eS rfl; refine jh rfl ?_; refine jja rfl rfl (by omega) ?_; refine jz ?_; refine jjK rfl ?_; refine jjE ?_; refine jjB ?_; refine jjC ?_; apply jI; exact eS rfl; apply jJ; exact eS rfl; apply jJ; exact eI rfl; refine jz ?_; refine jjF ?_; refine jC rfl rfl rfl ⟨inferInstance, ?_⟩)
    unfold RanksR
    rw [hres]
    refine ⟨oa, oc, by rw [List.length_map]; rfl, ?_⟩
    rw [List.length_map]
    rw [List.take_length] at hO2
    exact hO2
  have hxi := hs l[i] (List.getElem_mem hi1)
  (refine jjB ?_; refine jjB ?_; refine jjC ?_; apply jI; exact eI rfl; apply jI; exact eS rfl; refine jh rfl ?_; refine jjZ rfl rfl (by omega) ?_; refine jz ?_; refine jjJ rfl ?_; refine jjG ?_; refine jjB ?_; refine jjD ?_; refine jjB ?_; refine jjC ?_; apply jJ; exact eI rfl; refine jz ?_; refine jjB ?_; refine jjB ?_; refine jjC ?_; apply jJ; exact eI rfl; refine jz ?_; refine jjD ?_)
  refine W.keep [(0, .slice a l.length c), (1, .int .u8 (n : Int)), (7, .slice oa i oc), (8, .int .i64 (i : Int)), (9, .int .i64 ((0 : Nat) : Int)), (10, .int .i64 ((0 : Nat) : Int))] (D := (32 :: 33 :: 34 :: 35 :: 9 :: 10 :: 38 :: 39 :: 40 :: 41 :: 44 :: 45 :: 46 :: 47 :: 48 :: 49 :: 50 :: 51 :: 52 :: 53 :: 54 :: 11 :: 12 :: 55 :: 56 :: 57 :: 58 :: 59 :: 60 :: 63 :: 64 :: 65 :: 66 :: 67 :: 68 :: 69 :: 70 :: 71 :: 72 :: 73 :: 61 :: 62 :: 74 :: 75 :: 76 :: 42 :: 43 :: 77 :: 78 :: 79 :: 80 :: 7 :: 36 :: 37 :: 8 :: [])) (sO := upds s1 _) (by ((refine Same.upd rfl ?_; refine Same.upd rfl ?_; refine Same.upd rfl ?_; refine Same.upd rfl ?_; refine Same.upd rfl ?_; refine Same.upd rfl ?_; refine Same.upd rfl ?_; refine Same.upd rfl ?_; exact Same.ovN))) ⟨eS rfl, rfl, eS rfl, eI rfl, eI rfl, eI rfl, trivial⟩ fun s2 hs2 => ?_
  refine W.loop (38 :: 39 :: 40 :: 41 :: 44 :: 45 :: 46 :: 47 :: 48 :: 49 :: 50 :: 51 :: 52 :: 53 :: 54 :: 11 :: 12 :: 55 :: 56 :: 57 :: 58 :: 59 :: 60 :: 63 :: 64 :: 65 :: 66 :: 67 :: 68 :: 69 :: 70 :: 71 :: 72 :: 73 :: 61 :: 62 :: 74 :: 75 :: 76 :: 9 :: 42 :: 43 :: 10 :: []) (fun g s' _ => ∃ k : Nat, s' 10 = .int .i64 (k : Int) ∧ s' 9 = .int .i64 ((((List.range k).filter (isFst (cmpBy n) l l[i])).length : Nat) : Int) ∧ g = l.length - k ∧ k ≤ l.length) l.length ⟨0, rfl, rfl, rfl, Nat.zero_le _⟩ ?_
  rintro _ sd3 V3 hSV3 ⟨k, h10, h9, rfl, hk⟩
  refine W.fix h10 (W.fix (d := 9) h9 ?_)
  clear h10 h9
  have hE3' : Ext w V3 := inferInstance
  by_cases hk1 : k < l.length
  rotate_left
  · obtain rfl : k = l.length := by omega
    have hrk : ((List.range l.length).filter (isFst (cmpBy n) l l[i])).length = rankF (cmpBy n) l l[i] := rfl
    rw [hrk]
    (refine jjB ?_; refine jjB ?_; refine jjC ?_; apply jI; exact eI rfl; apply jI; exact eS rfl; refine jh rfl ?_; refine jja rfl rfl (by omega) ?_; refine jz ?_; refine jjK rfl ?_; refine jjE ?_; refine jjC ?_; apply jI; exact eS rfl; apply jI; exact eI rfl)
    (refine jjP (v := .int _ _) rfl (by exact rfl) (by exact rfl) (by exact rfl) (by exact rfl) ?_; intro b5 w_b5 hb_b5 hs_b5 hS_b5 hk_b5; have hR_b5 := RowV.one (agg := false) (k := 1) rfl hk_b5)
    have hE5 : Ext V2 w_b5 := inferInstance
    have z5 := hE5.size
    refine Ops.appendL (hO2.ext hE5) (by omega) hR_b5 rfl rfl rfl rfl (one_int _) ?_ ?_ ?_
    · simp only [List.length_map, List.length_take, List.length_cons, List.length_nil]; omega
    · simp only [List.length_map, List.length_take, List.length_cons, List.length_nil]; omega
    intro v6 w6 hA6 hO6 _ _
    (apply jJ; exact rfl; refine jz ?_; refine jjC ?_; apply jI; exact eI rfl; refine jY rfl rfl (by omega) ?_; apply jJ; exact eI rfl; refine jz ?_)
    refine ⟨rfl, by ((refine Same.upd rfl ?_; refine Same.upd rfl ?_; refine Same.upd rfl ?_; refine Same.upd rfl ?_; refine Same.upd rfl ?_; refine Same.upd rfl ?_; refine Same.upd rfl ?_; refine Same.upd rfl ?_; refine Same.upd rfl ?_; refine Same.upd rfl ?_; refine Same.upd rfl ?_; refine Same.upd rfl ?_; refine Same.upd rfl ?_; refine Same.upd rfl ?_; refine Same.ovN' rfl ?_; assumption)), l.length - (i + 1), by omega, i + 1, v6, congrArg (Value.int .i64) (by omega), rfl, rfl, by omega, hA6.ext (hE2.trans hE5) (Nat.le_refl _), ?_⟩
    rw [take_snoc_get (List.getElem?_eq_getElem hi1), List.map_append, List.map_append]
    exact hO6
  have hxk := hs l[k] (List.getElem_mem hk1)
  have hgk : l.getD k l[i] = l[k] := by rw [List.getD_eq_getElem?_getD, List.getElem?_eq_getElem hk1]; rfl
  have hrs := rank_step (cmpBy n) l l[i] k
  have hrl := List.length_filter_le (isFst (cmpBy n) l l[i]) (List.range k)
  rw [List.length_range] at hrl
  obtain ⟨q1, o1, e1, hA1⟩ := (hrow.h.ext hE3').place' (map_get (enc := encSl) hk1)
  subst e1
  obtain ⟨q2, o2, e2, hA2⟩ := (hrow.h.ext hE3').place' (map_get (enc := encSl) hi1)
  cases e2
  (refine jjB ?_; refine jjB ?_; refine jjC ?_; apply jI; exact eI rfl; apply jI; exact eS rfl; refine jh rfl ?_; refine jjZ rfl rfl (by omega) ?_; refine jz ?_; refine jjJ rfl ?_; refine jjG ?_; refine jjB ?_; refine jjD ?_; refine jjB ?_)
  refine W.draw (fun w' => Ext V3 w') ?_
  intro w5 hS5
  refine jjV [0, 1, 2, 3, 4, 5, 6, 7, 8] (by decide +kernel) hS5.ext ?_
  (((apply jjT; exact rfl; rintro w' hq; have := hq.toStep; apply jI; exact eS rfl; refine jz ?_; exact ⟨rfl, rfl⟩; apply jjT; exact rfl; rintro w' hq; have := hq.toStep; apply jI; exact eI rfl; refine jz ?_; exact ⟨rfl, rfl⟩; apply jjT; exact rfl; rintro w' hq; have := hq.toStep; refine jH _ rfl rfl rfl (by omega) ?_; refine jz ?_; exact ⟨rfl, rfl⟩; apply jjT; exact rfl; rintro w' hq; have := hq.toStep; refine jQ rfl rfl ?_; refine jz ?_; exact ⟨rfl, rfl⟩; apply jjT; exact rfl; rintro w' hq; have := hq.toStep; apply jI; exact eS rfl; refine jz ?_; exact ⟨rfl, rfl⟩; apply jjT; exact rfl; rintro w' hq; have := hq.toStep; apply jI; exact eI rfl; refine jz ?_; exact ⟨rfl, rfl⟩; apply jjT; exact rfl; rintro w' hq; have := hq.toStep; refine jH _ rfl rfl rfl (by omega) ?_; refine jz ?_; exact ⟨rfl, rfl⟩; apply jjT; exact rfl; rintro w' hq; have := hq.toStep; refine jQ rfl rfl ?_; refine jz ?_; exact ⟨rfl, rfl⟩; apply jjT; exact rfl; rintro w' hq; have := hq.toStep; apply jI; exact eI rfl; refine jz ?_; exact ⟨rfl, rfl⟩; refine jjU ?_)))
  (apply jjW 9; (decide +kernel); exact rfl; (exact hS5.ext))
  refine jjQ (Compared_ref l[k] l[i] n _ hxk hxi hn fun _ => ho _ (List.getElem_mem hk1) _ (List.getElem_mem hi1)) rfl rfl ?_
  rintro _ w6 hS6 rfl
  refine jz ?_
  have hS56 : Ext V3 w6 := hS5.ext.trans hS6.ext
  refine jjV [10, 11] (by decide +kernel) hS56 ?_
  (((apply jjT; exact rfl; rintro w' hq; have := hq.toStep; refine jX rfl rfl ?_; refine jz ?_; exact ⟨rfl, rfl⟩; apply jjT; exact rfl; rintro w' hq; have := hq.toStep; apply jJ; exact eB rfl; refine jz ?_; exact ⟨rfl, rfl⟩; refine jjU ?_)))
  refine jjX (by decide +kernel) hS56 ?_
  have hS56' := hS56.toStep
  obtain ⟨F0, hF0⟩ : ∃ F0, F0 = decide (cmpBy (n : Int) l[k] l[i] < 0) := ⟨_, rfl⟩
  obtain ⟨N, hN⟩ : ∃ N, N = ((List.range k).filter (isFst (cmpBy n) l l[i])).length := ⟨_, rfl⟩
  rw [← hN] at hrs hrl ⊢
  (refine jjB ?_; refine jjB ?_; refine jjC ?_; apply jJ; exact eI rfl; refine jz ?_; refine jjD ?_)
  rw [← hF0]
  refine W.keep [(0, .slice (some ⟨q1, o1, none⟩) l.length c), (1, .int .u8 (n : Int)), (7, .slice oa i oc), (8, .int .i64 (i : Int)), (9, .int .i64 (N : Int)), (10, .int .i64 (k : Int)), (11, .bool F0), (12, .int .i64 ((0 : Nat) : Int))] (D := (38 :: 39 :: 40 :: 41 :: 44 :: 45 :: 46 :: 47 :: 48 :: 49 :: 50 :: 51 :: 52 :: 53 :: 54 :: 11 :: 12 :: 55 :: 56 :: 57 :: 58 :: 59 :: 60 :: 63 :: 64 :: 65 :: 66 :: 67 :: 68 :: 69 :: 70 :: 71 :: 72 :: 73 :: 61 :: 62 :: 74 :: 75 :: 76 :: 9 :: 42 :: 43 :: 10 :: [])) (sO := upds s2 _) (by ((refine Same.upd rfl ?_; refine Same.upd rfl ?_; refine Same.upd rfl ?_; refine Same.upd rfl ?_; refine Same.upd rfl ?_; refine Same.upd rfl ?_; refine Same.upd rfl ?_; refine Same.upd rfl ?_; refine Same.upd rfl ?_; refine Same.upd rfl ?_; refine Same.upd rfl ?_; refine Same.upd rfl ?_; refine Same.upd rfl ?_; refine Same.upd rfl ?_; refine Same.upd rfl ?_; refine Same.upd rfl ?_; refine Same.upd rfl ?_; refine Same.upd rfl ?_; refine Same.upd rfl ?_; exact Same.ovN))) ⟨eS rfl, rfl, eS rfl, eI rfl, eI rfl, eI rfl, eB rfl, eI rfl, trivial⟩ fun s3 hs3 => ?_
  refine W.loop (55 :: 56 :: 57 :: 58 :: 59 :: 60 :: 63 :: 64 :: 65 :: 66 :: 67 :: 68 :: 69 :: 70 :: 71 :: 72 :: 73 :: 11 :: 61 :: 62 :: 12 :: []) (fun g s' _ => ∃ (j : Nat) (F : Bool), s' 12 = .int .i64 (j : Int) ∧ s' 11 = .bool F ∧ g = k - j ∧ j ≤ k ∧ F = (F0 && (l.take j).all fun y => decide (cmpBy n y l[k] ≠ 0))) k ⟨0, F0, rfl, rfl, rfl, Nat.zero_le _, by simp⟩ ?_
  rintro _ sd4 V4 hSV4 ⟨j, F, h12, h11, rfl, hj, hF⟩
  refine W.fix h12 (W.fix (d := 11) h11 ?_)
  clear h12 h11
  have hE4' : Ext w V4 := inferInstance
  have hno : j < k → F = false → isFst (cmpBy n) l l[i] k = false := fun _ hf => isFst_no hj (by rw [hgk, ← hF0, ← hF, hf])
  by_cases hj1 : j < k
  · cases F with
    | false =>
      have hz := hno hj1 rfl
      rw [if_neg (by rw [hz]; decide)] at hrs
      (refine jjB ?_; refine jjB ?_; refine jjC ?_; apply jI; exact eI rfl; apply jI; exact eI rfl; refine jjZ rfl rfl (by omega) ?_; apply jI; exact eB rfl; refine jT rfl rfl rfl ?_; apply jI; exact eB rfl; apply jK rfl; exact eB rfl; refine jz ?_; refine jjK rfl ?_; refine jjE ?_; refine jjB ?_; refine jjC ?_; apply jI; exact eB rfl; refine jz ?_; refine jjK rfl ?_; refine jjG ?_; refine jjC ?_; apply jI; exact eI rfl; refine jY rfl rfl (by omega) ?_; apply jJ; exact eI rfl; refine jz ?_)
      exact ⟨rfl, by ((refine Same.upd rfl ?_; refine Same.upd rfl ?_; refine Same.upd rfl ?_; refine Same.upd rfl ?_; refine Same.upd rfl ?_; refine Same.upd rfl ?_; refine Same.upd rfl ?_; refine Same.upd rfl ?_; refine Same.upd rfl ?_; refine Same.upd rfl ?_; refine Same.upd rfl ?_; refine Same.upd rfl ?_; refine Same.ovN' rfl ?_; assumption)), l.length - (k + 1), by omega, inferInstance, k + 1, congrArg (Value.int .i64) (by omega), by rw [hrs]; rfl, rfl, by omega⟩
    | true =>
      have hjl : j < l.length := by omega
      have hxj := hs l[j] (List.getElem_mem hjl)
      have hA3 : At V4 q1 (o1 + j * 6) (encSl l[j]).cells.toList := by
        obtain ⟨q3, o3, e3, hA3⟩ := (hrow.h.ext hE4').place' (map_get (enc := encSl) hjl)
        cases e3
        exact hA3
      have hA4 : At V4 q1 (o1 + k * 6) (encSl l[k]).cells.toList := by
        obtain ⟨q3, o3, e3, hA3⟩ := (hrow.h.ext hE4').place' (map_get (enc := encSl) hk1)
        cases e3
        exact hA3
      (refine jjB ?_; refine jjB ?_; refine jjC ?_; apply jI; exact eI rfl; apply jI; exact eI rfl; refine jjZ rfl rfl (by omega) ?_; apply jI; exact eB rfl; refine jT rfl rfl rfl ?_; apply jI; exact eB rfl; apply jK rfl; exact eB rfl; refine jz ?_; refine jjJ rfl ?_; refine jjG ?_; refine jjB ?_; refine jjD ?_)
      refine W.draw (fun w' => Ext V4 w') ?_
      intro w7 hS7
      refine jjV [0, 1, 2, 3, 4, 5, 6, 7, 8] (by decide +kernel) hS7.ext ?_
      (((apply jjT; exact rfl; rintro w' hq; have := hq.toStep; apply jI; exact eS rfl; refine jz ?_; exact ⟨rfl, rfl⟩; apply jjT; exact rfl; rintro w' hq; have := hq.toStep; apply jI; exact eI rfl; refine jz ?_; exact ⟨rfl, rfl⟩; apply jjT; exact rfl; rintro w' hq; have := hq.toStep; refine jH _ rfl rfl rfl (by omega) ?_; refine jz ?_; exact ⟨rfl, rfl⟩; apply jjT; exact rfl; rintro w' hq; have := hq.toStep; refine jQ rfl rfl ?_; refine jz ?_; exact ⟨rfl, rfl⟩; apply jjT; exact rfl; rintro w' hq; have := hq.toStep; apply jI; exact eS rfl; refine jz ?_; exact ⟨rfl, rfl⟩; apply jjT; exact rfl; rintro w' hq; have := hq.toStep; apply jI; exact eI rfl; refine jz ?_; exact ⟨rfl, rfl⟩; apply jjT; exact rfl; rintro w' hq; have := hq.toStep; refine jH _ rfl rfl rfl (by omega) ?_; refine jz ?_; exact ⟨rfl, rfl⟩; apply jjT; exact rfl; rintro w' hq; have := hq.toStep; refine jQ rfl rfl ?_; refine jz ?_; exact ⟨rfl, rfl⟩; apply jjT; exact rfl; rintro w' hq; have := hq.toStep; apply jI; exact eI rfl; refine jz ?_; exact ⟨rfl, rfl⟩; refine jjU ?_)))
      (apply jjW 9; (decide +kernel); exact rfl; (exact hS7.ext))
      refine jjQ (Compared_ref l[j] l[k] n _ hxj hxk hn fun _ => ho _ (List.getElem_mem hjl) _ (List.getElem_mem hk1)) rfl rfl ?_
      rintro _ w8 hS8 rfl
      refine jz ?_
      have hS78 : Ext V4 w8 := hS7.ext.trans hS8.ext
      refine jjV [10, 11] (by decide +kernel) hS78 ?_
      (((apply jjT; exact rfl; rintro w' hq; have := hq.toStep; refine jc rfl rfl ?_; refine jz ?_; exact ⟨rfl, rfl⟩; apply jjT; exact rfl; rintro w' hq; have := hq.toStep; apply jJ; exact eB rfl; refine jz ?_; exact ⟨rfl, rfl⟩; refine jjU ?_)))
      refine jjX (by decide +kernel) hS78 ?_
      have hS78' := hS78.toStep
      obtain ⟨B0, hB0⟩ : ∃ B0, B0 = decide (cmpBy (n : Int) l[j] l[k] ≠ 0) := ⟨_, rfl⟩
      (refine jjC ?_; apply jI; exact eI rfl; refine jY rfl rfl (by omega) ?_; apply jJ; exact eI rfl; refine jz ?_)
      refine ⟨rfl, by ((refine Same.upd rfl ?_; refine Same.upd rfl ?_; refine Same.upd rfl ?_; refine Same.upd rfl ?_; refine Same.upd rfl ?_; refine Same.upd rfl ?_; refine Same.upd rfl ?_; refine Same.upd rfl ?_; refine Same.upd rfl ?_; refine Same.upd rfl ?_; refine Same.upd rfl ?_; refine Same.upd rfl ?_; refine Same.upd rfl ?_; refine Same.upd rfl ?_; refine Same.upd rfl ?_; refine Same.upd rfl ?_; refine Same.upd rfl ?_; refine Same.upd rfl ?_; refine Same.upd rfl ?_; refine Same.upd rfl ?_; refine Same.upd rfl ?_; refine Same.upd rfl ?_; refine Same.upd rfl ?_; exact Same.ovN)), k - (j + 1), by omega, inferInstance, j + 1, B0, congrArg (Value.int .i64) (by omega), ?_, rfl, by omega, ?_⟩
      · rw [hB0]; exact congrArg Value.bool (by simp)
      · rw [take_snoc_get (List.getElem?_eq_getElem hjl), List.all_append, ← Bool.and_assoc, ← hF, Bool.true_and, hB0]
        simp
  obtain rfl : j = k := by omega
  have hz : isFst (cmpBy n) l l[i] j = F := by rw [isFst, hgk, ← hF0, ← hF]
  rw [hz] at hrs
  cases F with
  | false =>
    rw [if_neg (by decide)] at hrs
    (refine jjB ?_; refine jjB ?_; refine jjC ?_; apply jI; exact eI rfl; apply jI; exact eI rfl; refine jja rfl rfl (by omega) ?_; apply jI; exact eB rfl; refine jU rfl rfl rfl rfl ?_; apply jL rfl; exact eB rfl; refine jz ?_; refine jjK rfl ?_; refine jjE ?_; refine jjB ?_; refine jjC ?_; apply jI; exact eB rfl; refine jz ?_; refine jjK rfl ?_; refine jjG ?_; refine jjC ?_; apply jI; exact eI rfl; refine jY rfl rfl (by omega) ?_; apply jJ; exact eI rfl; refine jz ?_)
    exact ⟨rfl, by ((refine Same.upd rfl ?_; refine Same.upd rfl ?_; refine Same.upd rfl ?_; refine Same.upd rfl ?_; refine Same.upd rfl ?_; refine Same.upd rfl ?_; refine Same.upd rfl ?_; refine Same.upd rfl ?_; refine Same.upd rfl ?_; refine Same.upd rfl ?_; refine Same.upd rfl ?_; refine Same.upd rfl ?_; refine Same.ovN' rfl ?_; assumption)), l.length - (j + 1), by omega, inferInstance, j + 1, congrArg (Value.int .i64) (by omega), by rw [hrs]; rfl, rfl, by omega⟩
  | true =>
    rw [if_pos rfl] at hrs
    (refine jjB ?_; refine jjB ?_; refine jjC ?_; apply jI; exact eI rfl; apply jI; exact eI rfl; refine jja rfl rfl (by omega) ?_; apply jI; exact eB rfl; refine jU rfl rfl rfl rfl ?_; apply jL rfl; exact eB rfl; refine jz ?_; refine jjK rfl ?_; refine jjE ?_; refine jjB ?_; refine jjC ?_; apply jI; exact eB rfl; refine jz ?_; refine jjJ rfl ?_; refine jjC ?_; apply jI; exact eI rfl; refine jY rfl rfl (by omega) ?_; apply jJ; exact eI rfl; refine jz ?_; refine jjC ?_; apply jI; exact eI rfl; refine jY rfl rfl (by omega) ?_; apply jJ; exact eI rfl; refine jz ?_)
    exact ⟨rfl, by ((refine Same.upd rfl ?_; refine Same.upd rfl ?_; refine Same.upd rfl ?_; refine Same.upd rfl ?_; refine Same.upd rfl ?_; refine Same.upd rfl ?_; refine Same.upd rfl ?_; refine Same.upd rfl ?_; refine Same.upd rfl ?_; refine Same.upd rfl ?_; refine Same.upd rfl ?_; refine Same.upd rfl ?_; refine Same.upd rfl ?_; refine Same.upd rfl ?_; refine Same.upd rfl ?_; refine Same.ovN' rfl ?_; assumption)), l.length - (j + 1), by omega, inferInstance, j + 1, congrArg (Value.int .i64) (by omega), congrArg (Value.int .i64) (by rw [hrs]; omega), rfl, by omega⟩
end
end Go.Proofs.YtpijeomnplmakaaDoor

/- rack.File: slips that are filed. -/
namespace Go.Proofs.YtpijeomnplmakaaDoor
open Go.RowKit

/-- Results: a variable of its own (no struct), and two slots, where marks lie. -/
theorem fin3SM {P : Program} {fn : Func} {n N t ty b t1 t2 : Nat} {R : Value → World → Prop} {s : Sl} {ds : List Deferred} {w : World} {v : Value} {dd : TypeDesc} {e : Nat} (hf : fn.results = #[.cell t ty, .tmp t1, .tmp t2]) (ht : Nat.blt t n = true) (h1 : Nat.blt t1 n = true) (h2 : Nat.blt t2 n = true) (hs : s t = .pointer (some ⟨b, 0, none⟩)) (hb : Bk w b [v] e) [hu : TU P ty dd] (hag : TypeDesc.isAgg dd = false) (hm : Mks N w ds)
    (h : ∀ w', Grow N w w' → R (.tuple #[v, s t1, s t2]) w') : finM P fn n N R s ds w := by
  unfold finM
  refine ⟨hm, fun w' g => ⟨.tuple #[v, s t1, s t2], ?_, h w' g⟩⟩
  have e : (mkA n s []).tmps[t]?.getD undef = .pointer (some ⟨b, 0, none⟩) := by
    rw [mkA_getElem?, if_pos (by simpa using ht)]; exact hs
  have e1 : (mkA n s []).tmps[t1]?.getD undef = s t1 := by rw [mkA_getElem?, if_pos (by simpa using h1)]; rfl
  have e2 : (mkA n s []).tmps[t2]?.getD undef = s t2 := by rw [mkA_getElem?, if_pos (by simpa using h2)]; rfl
  have hc1 : w'.cell? ⟨b, 0, none⟩ = some v := Bk.cell1 (hb.grow g)
  have r1 := run_loadVar_cell (P := P) (w := w') hu hag hc1
  simp [results, hf, e, e1, e2, asAddr, r1]
section
variable (a : Option Addr) (c : Nat) (l : List Slp) (by_ boxes : Int) (w : World) [hgb : At w 0 0 bysC] [hmx : MxI w] [hrow : RowI w (.slice a l.length c) true 6 (l.map encSl)]
set_option maxHeartbeats 4000000 in
theorem File_rack (hq1 : by_ = 1 → CmpQ 113 (cmpBy 1)) (hs : ∀ x ∈ l, SmallS x) (hb : 0 ≤ by_ ∧ by_ ≤ 255) : Ct Tryd.prog 7 [.slice a l.length c, .int .u8 by_, .int .i64 boxes] w fun v w' => FileR l by_ boxes w.heap.size v w' := by
  refine Ct.ofWM (by simp) ?_
  (refine jjB ?_; refine jjC ?_)
  (refine jy rfl ?_; intro b3 w_b3 hb_b3 hs_b3 hS_b3 hk_b3; have hA_b3 := At.ofBlock hk_b3)
  ((skip); refine jjY ?_; intro b6 w_b6 hb_b6 hs_b6 hS_b6 hk_b6; have hA_b6 := Bk.of hk_b6)
  have hB6 : Bk w_b6 b6 [.slice none 0 0] 22 := hA_b6
  have z3 := hS_b3.size
  have z6 := hS_b6.size
  (apply jJ; exact eI rfl; apply jJ; exact eI rfl; refine jz ?_; refine jjB ?_; refine jjC ?_; refine jN rfl rfl rfl ?_; apply jI; exact eI rfl)
  refine jjQ (Ranks_rack a c l by_ _ hq1 hs hb) rfl rfl ?_
  rintro _ w2 hS2 ⟨da, dc, rfl, hOd⟩
  have z2 := hS2.size
  have hfE : fileE l by_ boxes = if (ranksR l by_).2 = 0 then opE (ranksR l by_).1 boxes else (ranksR l by_).2 := rfl
  have hE2 : Ext w w2 := inferInstance
  by_cases he : (ranksR l by_).2 = 0
  rotate_left
  · rw [if_neg he] at hfE
    have hfL : fileL l by_ boxes = [] := by rw [fileL, if_neg (by rw [hfE]; exact he)]
    (apply jI; exact eU rfl; refine ju rfl rfl ?_; refine ju rfl rfl ?_; apply jJ; exact eS rfl; apply jJ; exact eI rfl; refine jz ?_; refine jjB ?_; refine jjB ?_; refine jjC ?_; apply jI; exact eI rfl; refine jjj rfl rfl (by omega) ?_; refine jz ?_; refine jjJ rfl ?_; refine jjB ?_; refine jjC ?_; apply jI; exact eI rfl)
    refine Ops.store rfl rfl rfl rfl rfl ?_
    intro V2 hp2
    (apply jJ; exact eI rfl; apply jJ; exact eI rfl; refine jz ?_; refine jjF ?_)
    refine fin3SM rfl rfl rfl rfl rfl (Bk.of hp2.new) rfl inferInstance fun w' g => ⟨(hp2.ext hE2 (by omega)).ofGrow g (Nat.le_refl _), 0, none, 0, ?_, ?_, ?_⟩
    · rw [if_neg (by rw [hfE]; exact he)]
    · rw [hfL, hfE]; exact rfl
    · rw [hfL]; exact OwnL.nil _ _ _ _ _
  rw [if_pos he] at hfE
  have hd : (ranksR l by_).1.length = l.length ∧ l.length ≤ 60 := by
    by_cases h1 : 60 < l.length
    · rw [ranksR, if_pos h1] at he; exact absurd he (by decide)
    by_cases h2 : l.all slipB = true
    · by_cases h3 : 1 ≤ by_ ∧ by_ ≤ 4
      · rw [ranksR_ok (by omega) h2 h3, List.length_map]; exact ⟨rfl, by omega⟩
      · rw [ranksR, if_neg h1, if_neg (by simp [h2]), if_pos h3] at he; exact absurd he (by decide)
    · rw [ranksR, if_neg h1, if_pos h2] at he; exact absurd he (by decide)
  have hfd : fileL l by_ boxes = if fileE l by_ boxes = 0 then (ordF (ranksR l by_).1).map fun i => l.getD i.toNat ((0, 0, 0), ⟨#[]⟩, ⟨#[]⟩, ⟨#[]⟩) else [] := rfl
  unfold FileR
  rw [he]
  generalize fileE l by_ boxes = FE at *
  generalize fileL l by_ boxes = FL at *
  generalize (ranksR l by_).1 = d at *
  have hrd : RowI w2 (.slice da d.length dc) false 1 (d.map intV) := ⟨hOd.row⟩
  (apply jI; exact eU rfl; refine ju rfl rfl ?_; refine ju rfl rfl ?_; apply jJ; exact eS rfl; apply jJ; exact eI rfl; refine jz ?_; refine jjB ?_; refine jjB ?_; refine jjC ?_; apply jI; exact eI rfl; refine jjk rfl rfl (by omega) ?_; refine jz ?_; refine jjK rfl ?_; refine jjG ?_; refine jjB ?_; refine jjC ?_; apply jI; exact eS rfl; apply jI; exact eI rfl)
  refine jjQ (open_rack da dc d boxes _ (by omega)) rfl rfl ?_
  rintro _ w4 hS4 (⟨ho, rfl⟩ | ⟨ho, bb, bn, ae, ce, rfl, hzb, _, hAb, -, -⟩)
  · have hE4 : Ext w w4 := inferInstance
    rw [if_neg (by rw [hfE]; exact ho)] at hfd
    (apply jI; exact eU rfl; refine ju rfl rfl ?_; refine ju rfl rfl ?_; apply jJ; exact eN rfl; apply jJ; exact eI rfl; refine jz ?_; refine jjB ?_; refine jjB ?_; refine jjC ?_; apply jI; exact eI rfl; refine jjj rfl rfl (by omega) ?_; refine jz ?_; refine jjJ rfl ?_; refine jjB ?_; refine jjC ?_; apply jI; exact eI rfl)
    refine Ops.store rfl rfl rfl rfl rfl ?_
    intro V2 hp2
    (apply jJ; exact eI rfl; apply jJ; exact eI rfl; refine jz ?_; refine jjF ?_)
    refine fin3SM rfl rfl rfl rfl rfl (Bk.of hp2.new) rfl inferInstance fun w' g => ⟨(hp2.ext hE4 (by omega)).ofGrow g (Nat.le_refl _), 0, none, 0, ?_, ?_, ?_⟩
    · rw [if_neg (by rw [hfE]; exact ho)]
    · rw [hfd, hfE]; exact rfl
    · rw [hfd]; exact OwnL.nil _ _ _ _ _
  rw [if_pos (by rw [hfE]; exact ho)] at hfd
  obtain ⟨hb2, hb20⟩ := opE_boxes ho
  obtain ⟨b, rfl⟩ : ∃ b : Nat, boxes = (b : Int) := ⟨boxes.toNat, by omega⟩
  rw [ho] at hfE
  subst hfE
  have z4 := hS4.size
  (apply jI; exact eU rfl; refine ju rfl rfl ?_; refine ju rfl rfl ?_; apply jJ; exact eP rfl; apply jJ; exact eI rfl; refine jz ?_; refine jjB ?_; refine jjB ?_; refine jjC ?_; apply jI; exact eI rfl; refine jjk rfl rfl (by omega) ?_; refine jz ?_; refine jjK rfl ?_; refine jjG ?_; refine jjB ?_; refine jjB ?_; refine jjC ?_; apply jI; exact eS rfl)
  ((skip); refine jjQ (order_rack da dc d _) rfl rfl ?_)
  rintro _ w9 hS9 ⟨bx, hbx9, hAx, rfl⟩
  have hE9 : Ext w w9 := inferInstance
  have hE29 : Ext w2 w9 := hS4.ext.trans hS9.ext
  have z9 := hS9.size
  have hax := hAx.lt
  have hol := ordF_len d
  have hb69 : Bk w9 b6 [.slice none 0 0] 22 := (hB6.ext hS2.ext).ext hE29
  have hA3 : At w9 b3 0 [.slice a l.length c] := inferInstance
  have hAb9 := hAb.ext hS9.ext
  have n6 : b6 < w9.heap.size := hb69.lt
  have n3 : b3 < b6 := by omega
  have nb : b6 < bb := by have := hB6.lt; omega
  have nx : b6 < bx := by have := hB6.lt; omega
  have nbb := hAb9.lt
  have hrl9 : RowV w9 true 6 (.slice a l.length c) (l.map encSl) := hrow.h.ext hE9
  (refine jz ?_; refine jjD ?_)
  refine W.rangeM w.heap.size (ordF d) encI (order1_rack bx da dc d (by omega)) rfl (fun _ => rfl) trivial inferInstance hE9.size
    (fun i V => Ext w V ∧ w9.heap.size ≤ V.heap.size ∧ At V b3 0 [.slice a l.length c] ∧ At V bx 0 [.slice da d.length dc] ∧ At V bb 0 [.slice (some ⟨bn, 0, none⟩) d.length d.length, .slice ae (opF d.length (ordF d)).2.1.length ce, .slice da d.length dc, .int .i64 (b : Int)] ∧ RowV V false 1 (.slice da d.length dc) (d.map intV) ∧ ∃ v, Bk V b6 [v] 22 ∧ OwnL V w9.heap.size 39 true 6 v ((((ordF d).take i).map fun i => l.getD i.toNat ((0, 0, 0), ⟨#[]⟩, ⟨#[]⟩, ⟨#[]⟩)).map encSl))
    (fun _ _ _ => False) ?hJ (fun _ _ _ _ h _ => h) ?hF ?h0 (MB w9.heap.size b6) ?hW1 ?hW2 ?hW3 (fun x s' _ => s' 3 = .pointer (some ⟨b3, 0, none⟩) ∧ s' 6 = .pointer (some ⟨b6, 0, none⟩) ∧ s' 11 = .int .i64 x) (fun _ _ _ _ h _ => h) ?hassign ?hbody ?hdone (fun _ _ _ _ _ _ _ h => h.elim)
  case hJ =>
    rintro i V V' ⟨h1, h2, h3, h4, h5, h6, v, h7, h8⟩ g
    exact ⟨h1.ofGrow g hE9.size, Nat.le_trans h2 g.size, h3.grow g, h4.grow g, h5.grow g, h6.grow g, v, h7.grow g, h8.grow g⟩
  case hF =>
    rintro i V ⟨h1, h2, h3, h4, h5, h6, _⟩
    exact ⟨h4, h6⟩
  case h0 => exact ⟨hE9, Nat.le_refl _, hA3, hAx, hAb9, hrd.h.ext hE29, _, hb69, OwnL.nil _ _ _ _ _⟩
  case hW1 => exact fun i V k ⟨h1, h2, h3, h4, h5, h6, v, h7, h8⟩ h => MB.lt h2 h7 h8 h
  case hW2 => exact fun i V V' k ⟨h1, h2, h3, h4, h5, h6, v, h7, h8⟩ g h => MB.back h7 g h
  case hW3 => exact fun V V' k g h => .inl (MB.grow (by omega) g h)
  case hassign =>
    intro l' i x V hx hJ hl hr
    (refine jjC ?_; apply jJ; exact eI rfl; refine jz ?_)
    exact ⟨rfl, Tr.refl _, Fr.refl _ _, hJ, rfl, rfl, rfl⟩
  case hbody =>
    rintro l' i x s' V hx ⟨h1, h2, h3, h4, h5, h6, v, h7, h8⟩ ⟨ha3, ha6, ha11⟩ hl hr
    have hxm := List.mem_of_getElem? hx
    rw [ordF, ssort_mem, upN_mem] at hxm
    obtain ⟨xi, rfl⟩ : ∃ xi : Nat, x = xi := ⟨x.toNat, by omega⟩
    have hlt := (List.getElem?_eq_some_iff.1 hx).1
    have hxl : xi < l.length := by omega
    refine W.fix (d := 3) ha3 (W.fix (d := 6) ha6 (W.fix (d := 11) ha11 ?_))
    clear ha3 ha6 ha11
    have hg : (l.map encSl)[xi]? = some (encSl l[xi]) := by rw [List.getElem?_map, List.getElem?_eq_getElem hxl]; rfl
    obtain ⟨pb, po, rfl, -⟩ := hrow.h.place' hg
    obtain ⟨va, vc, rfl⟩ := h8.slice
    have hbl : ∀ g, (Value.slice va (List.map encSl (((ordF d).take i).map fun i => l.getD i.toNat ((0, 0, 0), ⟨#[]⟩, ⟨#[]⟩, ⟨#[]⟩))).length vc).ownBlock = some g → w9.heap.size ≤ g := fun g hg => (h8.block g hg).1
    have hdb : ∀ g, (Value.slice da d.length dc).ownBlock = some g → g < w9.heap.size := fun g e => by
      have := (hOd.block g (by simpa using e)).2
      have := hE29.size
      omega
    have hnd6 : (Value.slice da d.length dc).ownBlock ≠ some b6 := fun e => by
      have := (hOd.block b6 (by simpa using e)).1
      have := hB6.lt
      omega
    have hne6 : (Value.slice va (List.map encSl (((ordF d).take i).map fun i => l.getD i.toNat ((0, 0, 0), ⟨#[]⟩, ⟨#[]⟩, ⟨#[]⟩))).length vc).ownBlock ≠ some b6 := fun e => by have := hbl b6 e; omega
    have hnb : ∀ b, b < w9.heap.size → (Value.slice va (List.map encSl (((ordF d).take i).map fun i => l.getD i.toNat ((0, 0, 0), ⟨#[]⟩, ⟨#[]⟩, ⟨#[]⟩))).length vc).ownBlock ≠ some b := fun b h e => by have := hbl b e; omega
    have hml : (List.map encSl (((ordF d).take i).map fun i => l.getD i.toNat ((0, 0, 0), ⟨#[]⟩, ⟨#[]⟩, ⟨#[]⟩))).length ≤ 60 := by
      rw [List.length_map, List.length_map, List.length_take]; omega
    (refine jjD ?_)
    refine W.draw (fun V' => At V' b3 0 [.slice (some ⟨pb, po, none⟩) l.length c] ∧ RowV V' true 6 (.slice (some ⟨pb, po, none⟩) l.length c) (l.map encSl)) ?_
    intro V1 hS1
    have s1 : At V1 b3 0 [.slice (some ⟨pb, po, none⟩) l.length c] ∧ RowV V1 true 6 (.slice (some ⟨pb, po, none⟩) l.length c) (l.map encSl) := ⟨h3.ext hS1.ext, hrow.h.ext (h1.trans hS1.ext)⟩
    refine jjV [1, 2] (by decide +kernel) s1 ?_
    (((apply jjT; exact rfl; rintro w' ⟨hq1, hq2⟩; refine jN rfl rfl rfl ?_; refine jz ?_; exact ⟨rfl, rfl⟩; apply jjT; exact rfl; rintro w' ⟨hq1, hq2⟩; apply jI; exact eI rfl; refine jz ?_; exact ⟨rfl, rfl⟩; refine jjU ?_)))
    refine jjV [3] (by decide +kernel) s1 (jjT (v := .pointer (some ⟨pb, po + xi * 6, none⟩)) rfl (fun w' q1 => ?_) (jjU ?_)); (refine jH xi rfl rfl rfl (by omega) ?_; refine jz ?_; exact ⟨rfl, rfl⟩)
    refine jjV [4] (by decide +kernel) s1 (jjT (v := encSl l[xi]) rfl (fun w' q1 => ?_) (jjU ?_)); (refine Ops.loadOA (off := 0) (place_k q1.2 hg) rfl rfl rfl rfl ?_; refine jz ?_; exact ⟨rfl, rfl⟩)
    refine jjl 0 5 (by decide +kernel) rfl rfl s1 ?b1 ?b2
    case b1 =>
      refine jR (Bk.cell1 (h7.ext hS1.ext)) rfl rfl ?_
      refine jz ?_
      apply jjW 5 (by decide +kernel) rfl s1
      (refine jjP (v := .agg _) rfl (by exact rfl) (by exact rfl) (by exact rfl) (by exact rfl) ?_; intro b10 w_b10 hb_b10 hs_b10 hS_b10 hk_b10; have hR_b10 := RowV.one (agg := true) (k := 6) rfl hk_b10)
      refine jz ?_
      have hEV : Ext V w_b10 := hS1.ext.trans hS_b10.ext
      have s2 : At w_b10 b3 0 [.slice (some ⟨pb, po, none⟩) l.length c] ∧ RowV w_b10 true 6 (.slice (some ⟨pb, po, none⟩) l.length c) (l.map encSl) := ⟨s1.1.ext hS_b10.ext, s1.2.ext hS_b10.ext⟩
      have z10 := hEV.size
      apply jjW 6 (by decide +kernel) rfl s2
      have hR1 : RowV w_b10 true 6 (.slice (some ⟨b10, 0, none⟩) 1 1) [encSl l[xi]] := hR_b10
      refine Ops.appendL (h8.ext hEV) (by omega) hR1 rfl rfl rfl rfl rfl ?_ ?_ ?_
      · simp only [List.length_cons, List.length_nil]; omega
      · simp only [List.length_cons, List.length_nil]; omega
      intro v2 V4 hA hO _ hown2
      have s3 : At V4 b3 0 [.slice (some ⟨pb, po, none⟩) l.length c] ∧ RowV V4 true 6 (.slice (some ⟨pb, po, none⟩) l.length c) (l.map encSl) := ⟨hA.at_ s2.1 (hnb _ (by omega)), hrow.h.ext (hA.ext (h1.trans hEV) hE9.size)⟩
      refine jz ?_
      have zA := hA.g.size
      obtain ⟨a2, c2, rfl⟩ := hO.slice
      apply jjW 7 (by decide +kernel) rfl s3
      have hB2 : Bk V4 b6 _ 22 := hA.bk (h7.ext hEV) hne6
      refine Ops.store rfl rfl rfl rfl rfl ?_
      intro V5 hp5
      refine jz ?_
      have s5 : At V5 b3 0 [.slice (some ⟨pb, po, none⟩) l.length c] ∧ RowV V5 true 6 (.slice (some ⟨pb, po, none⟩) l.length c) (l.map encSl) := ⟨hp5.at_ s3.1 (by omega), hrow.h.ext (hp5.ext (hA.ext (h1.trans hEV) hE9.size) (by omega))⟩
      refine jjX (by decide +kernel) s5 ?_
      have hB3 : Bk V5 b6 [.slice a2 (List.map encSl (((ordF d).take i).map fun i => l.getD i.toNat ((0, 0, 0), ⟨#[]⟩, ⟨#[]⟩, ⟨#[]⟩)) ++ [encSl l[xi]]).length c2] 22 := ⟨hp5.new⟩
      have hne2 : (Value.slice a2 (List.map encSl (((ordF d).take i).map fun i => l.getD i.toNat ((0, 0, 0), ⟨#[]⟩, ⟨#[]⟩, ⟨#[]⟩)) ++ [encSl l[xi]]).length c2).ownBlock ≠ some b6 := fun e => by rcases hown2 with h | h <;> rw [h] at e; exact hne6 e; cases e; omega
      skip
      refine ⟨(hEV.tr.trans hA.tr).trans (hp5.tr ⟨_, hB2.h, rfl⟩), ?_, hp5.ext (hA.ext (h1.trans hEV) hE9.size) (by omega), ?_, s5.1, hp5.at_ (hA.at_ (h4.ext hEV) (hnb _ (by omega))) (by omega), hp5.at_ (hA.at_ (h5.ext hEV) (hnb _ (by omega))) (by omega), hp5.row (hA.row (h6.ext hEV) fun g e e2 => ?_) hnd6, _, hB3, ?_⟩
      · exact (Fr.ofExt hEV fun k hk => .inl (MB.same h7 (h7.ext hEV) hk)).trans (MB.append n6 (h7.ext hEV) hA hp5 hB3 hown2)
      · have := hEV.size; rw [hp5.size]; omega
      · have := hbl g e
        have := hdb g e2
        omega
      · rw [take_snoc_get hx, List.map_append, List.map_append]
        simp only [List.map_cons, List.map_nil, Int.toNat_natCast]
        rw [show l.getD xi ((0, 0, 0), ⟨#[]⟩, ⟨#[]⟩, ⟨#[]⟩) = l[xi] by rw [List.getD_eq_getElem?_getD, List.getElem?_eq_getElem hxl]; rfl]
        exact hO.put hp5 hne2
    case b2 =>
      (refine jjP (v := .agg _) rfl (by exact rfl) (by exact rfl) (by exact rfl) (by exact rfl) ?_; intro b10 w_b10 hb_b10 hs_b10 hS_b10 hk_b10; have hR_b10 := RowV.one (agg := true) (k := 6) rfl hk_b10)
      refine jz ?_
      have hEV : Ext V w_b10 := hS1.ext.trans hS_b10.ext
      have s2 : At w_b10 b3 0 [.slice (some ⟨pb, po, none⟩) l.length c] ∧ RowV w_b10 true 6 (.slice (some ⟨pb, po, none⟩) l.length c) (l.map encSl) := ⟨s1.1.ext hS_b10.ext, s1.2.ext hS_b10.ext⟩
      have z10 := hEV.size
      apply jjW 0 (by decide +kernel) rfl s2
      refine jR (Bk.cell1 (h7.ext hEV)) rfl rfl ?_
      refine jz ?_
      apply jjW 6 (by decide +kernel) rfl s2
      have hR1 : RowV w_b10 true 6 (.slice (some ⟨b10, 0, none⟩) 1 1) [encSl l[xi]] := hR_b10
      refine Ops.appendL (h8.ext hEV) (by omega) hR1 rfl rfl rfl rfl rfl ?_ ?_ ?_
      · simp only [List.length_cons, List.length_nil]; omega
      · simp only [List.length_cons, List.length_nil]; omega
      intro v2 V4 hA hO _ hown2
      have s3 : At V4 b3 0 [.slice (some ⟨pb, po, none⟩) l.length c] ∧ RowV V4 true 6 (.slice (some ⟨pb, po, none⟩) l.length c) (l.map encSl) := ⟨hA.at_ s2.1 (hnb _ (by omega)), hrow.h.ext (hA.ext (h1.trans hEV) hE9.size)⟩
      refine jz ?_
      have zA := hA.g.size
      obtain ⟨a2, c2, rfl⟩ := hO.slice
      apply jjW 7 (by decide +kernel) rfl s3
      have hB2 : Bk V4 b6 _ 22 := hA.bk (h7.ext hEV) hne6
      refine Ops.store rfl rfl rfl rfl rfl ?_
      intro V5 hp5
      refine jz ?_
      have s5 : At V5 b3 0 [.slice (some ⟨pb, po, none⟩) l.length c] ∧ RowV V5 true 6 (.slice (some ⟨pb, po, none⟩) l.length c) (l.map encSl) := ⟨hp5.at_ s3.1 (by omega), hrow.h.ext (hp5.ext (hA.ext (h1.trans hEV) hE9.size) (by omega))⟩
      refine jjX (by decide +kernel) s5 ?_
      have hB3 : Bk V5 b6 [.slice a2 (List.map encSl (((ordF d).take i).map fun i => l.getD i.toNat ((0, 0, 0), ⟨#[]⟩, ⟨#[]⟩, ⟨#[]⟩)) ++ [encSl l[xi]]).length c2] 22 := ⟨hp5.new⟩
      have hne2 : (Value.slice a2 (List.map encSl (((ordF d).take i).map fun i => l.getD i.toNat ((0, 0, 0), ⟨#[]⟩, ⟨#[]⟩, ⟨#[]⟩)) ++ [encSl l[xi]]).length c2).ownBlock ≠ some b6 := fun e => by rcases hown2 with h | h <;> rw [h] at e; exact hne6 e; cases e; omega
      skip
      refine ⟨(hEV.tr.trans hA.tr).trans (hp5.tr ⟨_, hB2.h, rfl⟩), ?_, hp5.ext (hA.ext (h1.trans hEV) hE9.size) (by omega), ?_, s5.1, hp5.at_ (hA.at_ (h4.ext hEV) (hnb _ (by omega))) (by omega), hp5.at_ (hA.at_ (h5.ext hEV) (hnb _ (by omega))) (by omega), hp5.row (hA.row (h6.ext hEV) fun g e e2 => ?_) hnd6, _, hB3, ?_⟩
      · exact (Fr.ofExt hEV fun k hk => .inl (MB.same h7 (h7.ext hEV) hk)).trans (MB.append n6 (h7.ext hEV) hA hp5 hB3 hown2)
      · have := hEV.size; rw [hp5.size]; omega
      · have := hbl g e
        have := hdb g e2
        omega
      · rw [take_snoc_get hx, List.map_append, List.map_append]
        simp only [List.map_cons, List.map_nil, Int.toNat_natCast]
        rw [show l.getD xi ((0, 0, 0), ⟨#[]⟩, ⟨#[]⟩, ⟨#[]⟩) = l[xi] by rw [List.getD_eq_getElem?_getD, List.getElem?_eq_getElem hxl]; rfl]
        exact hO.put hp5 hne2
  case hdone =>
    rintro ds' V hmk htr ⟨h1, h2, h3, h4, h5, h6, v, h7, h8⟩
    rw [List.take_length] at h8
    obtain ⟨va, vc, rfl⟩ := h8.slice
    have hSV := h1.toStep
    have hm60 : (opF d.length (ordF d)).2.1.length ≤ 60 := by have := (opF_len d.length (ordF d)).2; omega
    (refine jjB ?_; refine jjC ?_; apply jI; exact eP rfl)
    refine jjQ (passes_rack bb _ _ ae ce (opF d.length (ordF d)).2.1.length b V hm60 ⟨by omega, by omega⟩) rfl rfl ?_
    rintro _ V2 hS2' ⟨p, hpp, rfl⟩
    have h72 := h7.ext hS2'.ext
    (apply jI; exact eU rfl; refine ju rfl rfl ?_; refine ju rfl rfl ?_; apply jJ; exact eI rfl; refine jz ?_; refine jjB ?_; refine jjC ?_; refine jN rfl rfl rfl ?_; apply jI; exact eI rfl)
    refine Ops.store rfl rfl rfl rfl rfl ?_
    intro V3 hp3
    (apply jJ; exact eI rfl; apply jJ; exact eI rfl; refine jz ?_; refine jjF ?_)
    have hne6 : (Value.slice va (List.map encSl ((ordF d).map fun i => l.getD i.toNat ((0, 0, 0), ⟨#[]⟩, ⟨#[]⟩, ⟨#[]⟩))).length vc).ownBlock ≠ some b6 := fun e => by have := (h8.block b6 e).1; omega
    have hO3 := ((h8.ext hS2'.ext).put hp3 hne6).mono hE9.size
    rw [hfd]
    rw [List.length_map] at hO3
    refine fin3SM rfl rfl rfl rfl rfl (Bk.of hp3.new) rfl (hmk.tr ((hS2'.ext.tr).trans (hp3.tr ⟨_, h72.h, rfl⟩))) fun w' g => ⟨(hp3.ext (h1.trans hS2'.ext) (by omega)).ofGrow g (Nat.le_refl _), p, va, vc, ?_, ?_, hO3.grow g⟩
    · rw [if_pos rfl]; exact hpp
    · rw [List.length_map]; exact rfl
end
end Go.Proofs.YtpijeomnplmakaaDoor
