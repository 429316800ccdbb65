/- Texts of the proof, part 7: Ra7, Ra8, Ra9, Ra10, Ra12, Gk3, Sm1, Mon, Rk6, Al2, Lt3, PkY, Eng30, Eng31, Gk2, Gk6, Lt1, LawLt. -/
import Derived.WalkKit
import Derived.Calls
import Derived.Laws.Small
import Derived.Laws.Cover1
import Derived.Laws.BitsAllLaws
import Derived.Test.YtgnkloloehlfnaaGreatDoorTL6
namespace Go.Proofs.YtgnkloloehlfnaaGreatDoor
open Go.RowKit

def MovedR (d : List Int) (ms : List (Int × Int)) (v : Value) (w' : World) : Prop := ∃ (l : List Int) (e : Int) (a : Option Addr) (c : Nat), v = .tuple #[.slice a l.length c, .int .i64 e] ∧ RowV w' false 1 (.slice a l.length c) (l.map intV) ∧
  ((deckB d = false ∧ l = [] ∧ e = 60) ∨ (deckB d = true ∧ 60 < ms.length ∧ l = [] ∧ e = 4) ∨ (deckB d = true ∧ ms.length ≤ 60 ∧ ms.any (mvBad d.length) = true ∧ l = [] ∧ e = 63) ∨ (deckB d = true ∧ ms.length ≤ 60 ∧ ms.any (mvBad d.length) = false ∧ l = movedF d.length ms ∧ e = 0))

section
variable (a pa : Option Addr) (c pc : Nat) (d : List Int) (ms : List (Int × Int)) (w : World) [hrow : RowI w (.slice a d.length c) false 1 (d.map intV)] [hp : RowI w (.slice pa ms.length pc) true 2 (ms.map encII)]
set_option maxHeartbeats 4000000 in
theorem Moved_rack (hl : d.length ≤ 1000000) (hml : ms.length ≤ 1000000) : Ct Tryz.prog 14 [.slice a d.length c, .slice pa ms.length pc] w fun v w' => MovedR d ms v w' := by
  refine Ct.ofW (by simp) ?_
  (refine jjB (jjC (jJ (eS rfl) (jJ (eI rfl) (jz (jjB ?_))))); refine jjB (jjC (jI (eS rfl) ?_)))
  refine jjQ (Check_rack a c d _ hl) rfl rfl ?_
  rintro _ w2 hS2 rfl
  cases hd : deckB d
  · (refine jJ (eI rfl) (jz (jjB (jjC (jI (eI rfl) (jc rfl rfl ?_))))); refine jz (jjJ rfl (jjB (jjC (jI (eI rfl) (jJ (eS rfl) ?_))))); refine jJ (eI rfl) (jz (jjF ?_)); refine jC rfl rfl rfl ⟨inferInstance, ?_⟩)
    exact ⟨[], 60, none, 0, rfl, RowV.nilS _ _ _ _ _, .inl ⟨hd, rfl, rfl⟩⟩
  have hd60 := deckB_len hd
  by_cases hm60 : 60 < ms.length
  · (refine jJ (eI rfl) (jz (jjB (jjC (jI (eI rfl) (jc rfl rfl ?_))))); refine jz (jjK rfl (jjG (jjB (jjB (jjC ?_))))); refine jI (eS rfl) (jh rfl (jjd rfl rfl (by omega) (jz (jjJ rfl (jjB ?_))))); refine jjC (jJ (eS rfl) (jJ (eI rfl) (jz (jjF ?_)))); refine jC rfl rfl rfl ⟨inferInstance, ?_⟩)
    exact ⟨[], 4, none, 0, rfl, RowV.nilS _ _ _ _ _, .inr (.inl ⟨hd, hm60, rfl, rfl⟩)⟩
  (refine jJ (eI rfl) (jz (jjB (jjC (jI (eI rfl) (jc rfl rfl ?_))))); refine jz (jjK rfl (jjG (jjB (jjB (jjC ?_))))); refine jI (eS rfl) (jh rfl (jje rfl rfl (by omega) (jz (jjK rfl (jjG ?_))))); refine jjB (jjC (jJ (eS rfl) (jz (jjB (jjB ?_))))); refine jjC (jI (eS rfl) (jh rfl (jI (eI rfl) (jz (jjD ?_))))))
  have hE2 : Ext w w2 := inferInstance
  have z2 := hE2.size
  refine W.keep0 [(0, .slice a d.length c), (1, .slice pa ms.length pc), (7, .slice none 0 0), (23, .int .i64 ((d.length : Nat) : Int)), (24, .int .i64 ((0 : Nat) : Int))] ⟨eS rfl, eS rfl, eS rfl, eI rfl, eI rfl, trivial⟩ fun s0 => ?_
  refine W.loop (25 :: 26 :: 8 :: 27 :: 28 :: 29 :: 30 :: 7 :: 31 :: 24 :: []) (fun g s' V => ∃ (i : Nat) (v : Value), s' 24 = .int .i64 ((i : Nat) : Int) ∧ s' 7 = v ∧ g = d.length - i ∧ i ≤ d.length ∧ OwnL V w2.heap.size 3 false 1 v ((upN i).map intV)) d.length ⟨0, _, rfl, rfl, rfl, Nat.zero_le _, OwnL.nil _ _ _ _ _⟩ ?_
  rintro _ sd w4 hS4 ⟨i, v, h24, h7, rfl, hi, hO1⟩
  refine W.fix h24 (W.fix (d := 7) h7 ?_)
  clear h24 h7
  have z4 := hS4.size
  by_cases hid : i < d.length
  · (refine jjB (jjC (jjZ rfl rfl (by omega) (jz (jjB (jjJ rfl ?_))))); refine jjG (jjB (jjD (jjB (jjC (jI (eI rfl) ?_))))); refine jJ (eI rfl) (jz (jjC (jI rfl (jI (eI rfl) ?_)))))
    (refine jjP (v := .int _ _) rfl (by exact rfl) (by exact rfl) (by exact rfl) (by exact rfl) ?_; intro b5 w_b5 hb_b5 hs_b5 hS_b5 hk_b5; have hR_b5 := RowV.one (agg := false) (k := 1) rfl hk_b5)
    have z5 := hS_b5.size
    refine Ops.appendL (hO1.ext hS_b5.ext) (by omega) hR_b5 rfl rfl rfl rfl (one_int _) ?_ ?_ ?_
    · simp only [List.length_map, upN_len, List.length_cons, List.length_nil]; omega
    · simp only [List.length_map, upN_len, List.length_cons, List.length_nil]; omega
    intro v2 w6 hA6 hO6 _ _
    have hE6 : Ext w2 w6 := hA6.ext inferInstance (Nat.le_refl _)
    (refine jJ rfl (jz (jjC (jY rfl rfl (by omega) (jI (eI rfl) (jz ?_))))))
    refine ⟨rfl, by (((iterate 12 refine Same.upd rfl ?_); exact Same.ovN)), d.length - (i + 1), by omega, hE6, i + 1, v2, congrArg (Value.int .i64) (by omega), rfl, rfl, by omega, ?_⟩
    rw [upN_succ, List.map_append]; exact hO6
  obtain rfl : i = d.length := by omega
  clear hid hi
  obtain ⟨av, cv, ev⟩ := hO1.slice
  rw [List.length_map, upN_len] at ev
  subst ev
  (refine jjB (jjC (jja rfl rfl (by omega) (jz (jjB (jjK rfl ?_))))); refine jjE (jjB (jjB (jjC (jI (eS rfl) (jh rfl ?_))))); refine jI (eI rfl) (jz (jjD ?_)))
  refine W.keep0 [(0, .slice a d.length c), (1, .slice pa ms.length pc), (7, .slice av d.length cv), (32, .slice pa ms.length pc), (33, .int .i64 ((ms.length : Nat) : Int)), (34, .int .i64 ((0 : Nat) : Int))] ⟨eS rfl, eS rfl, eS rfl, eS rfl, eI rfl, eI rfl, trivial⟩ fun s1 => ?_
  refine W.loop (35 :: 36 :: 37 :: 10 :: 38 :: 39 :: 40 :: 41 :: 42 :: 43 :: 44 :: 45 :: 46 :: 47 :: 4 :: 5 :: 48 :: 34 :: []) (fun g s' V => ∃ k : Nat, s' 34 = .int .i64 ((k : Nat) : Int) ∧ g = ms.length - k ∧ k ≤ ms.length ∧ ∀ (j : Nat) (hj : j < ms.length), j < k → mvBad d.length ms[j] = false) ms.length ⟨0, rfl, rfl, Nat.zero_le _, by intros; omega⟩ ?_
  rintro _ sd2 w7 hS7 ⟨k, h34, rfl, hk, hpre⟩
  refine W.fix h34 ?_
  clear h34
  by_cases hkm : k < ms.length
  · (refine jjB (jjC (jjZ rfl rfl (by omega) (jz (jjB (jjJ rfl ?_))))); refine jjG (jjB (jjD (jjB (jjC ?_)))); refine jF rfl rfl rfl (map_get (by omega)) ?_; intro _ _ _; refine jQ rfl rfl ?_)
    (apply jjR rfl; (intro _; first|exact eI rfl|exact eB rfl|exact eP rfl|exact eS rfl|exact eT rfl|exact eA rfl|exact eU rfl|exact eF rfl|exact eM rfl|exact eN rfl|exact rfl); exact rfl; exact rfl; exact rfl; exact rfl; intro b8 w_b8 hb_b8 hs_b8 hS_b8 hk_b8; have hA_b8 := Bk.of hk_b8)
    (refine jz (jjB (jjC (jI (eS rfl) (jh rfl (jZ rfl rfl (by omega) ?_))))); refine jm (jn rfl (jN rfl rfl rfl (jm (jn rfl (jN rfl rfl rfl ?_))))))
    refine Ops.buildSlice2 rfl rfl rfl rfl rfl ?_
    intro b9 w9 hb9 hs9 hS9 hB9
    have hR9 : RowV w9 false 1 (.slice (some ⟨b9, 0, none⟩) 2 2) ([ms[k].1, ms[k].2].map (.int .i64)) := Bk.row hB9 (by intro y hy; simp at hy; rcases hy with rfl | rfl <;> rfl) (by simp)
    refine jjQ (in_rack 0 ((d.length : Int) - 1) _ [ms[k].1, ms[k].2] _ hR9) rfl rfl ?_
    rintro _ w10 hS10 rfl
    have hall : [ms[k].1, ms[k].2].all (inB 0 ((d.length : Int) - 1)) = !mvBad d.length ms[k] := by simp [mvBad]
    rw [hall]
    cases hb : mvBad d.length ms[k]
    · (refine jp rfl (jz (jjK rfl (jjG (jjC (jY rfl rfl (by omega) ?_))))); refine jI (eI rfl) (jz ?_))
      refine ⟨rfl, by (((iterate 17 refine Same.upd rfl ?_); exact Same.ovN)), ms.length - (k + 1), by omega, inferInstance, k + 1, congrArg (Value.int .i64) (by omega), rfl, by omega, fun j hj hjk => ?_⟩
      by_cases e : j = k
      · subst e; exact hb
      · exact hpre j hj (by omega)
    · (refine jq rfl (jz (jjJ rfl (jjB (jjC (jJ (eS rfl) ?_))))); refine jJ (eI rfl) (jz (jjF ?_)); refine jC rfl rfl rfl ⟨inferInstance, ?_⟩)
      exact ⟨[], 63, none, 0, rfl, RowV.nilS _ _ _ _ _, .inr (.inr (.inl ⟨hd, by omega, List.any_eq_true.2 ⟨_, List.getElem_mem hkm, hb⟩, rfl, rfl⟩))⟩
  obtain rfl : k = ms.length := by omega
  have hany : ms.any (mvBad d.length) = false := by
    rw [List.any_eq_false]
    intro x hx
    obtain ⟨j, hj, rfl⟩ := List.mem_iff_getElem.1 hx
    rw [hpre j hj hj]; simp
  have hmb : ∀ m ∈ ms, mvBad d.length m = false := fun m hm => by
    rw [List.any_eq_false] at hany
    simpa using hany m hm
  clear hpre hkm hk
  have hE7 : Ext w2 w7 := hS4.ext.trans hS7.ext
  have hO7 := hO1.ext hS7.ext
  (refine jjB (jjC (jja rfl rfl (by omega) (jz (jjB (jjK rfl ?_))))); refine jjE (jjB (jjB (jjC (jI (eS rfl) (jh rfl ?_))))); refine jI (eI rfl) (jz (jjD ?_)))
  refine W.keep0 [(7, .slice av d.length cv), (49, .slice pa ms.length pc), (50, .int .i64 ((ms.length : Nat) : Int)), (51, .int .i64 ((0 : Nat) : Int))] ⟨eS rfl, eS rfl, eI rfl, eI rfl, trivial⟩ fun s2 => ?_
  refine W.loopG (52 :: 53 :: 54 :: 12 :: 55 :: 56 :: 57 :: 58 :: 59 :: 13 :: 60 :: 61 :: 62 :: 63 :: 64 :: 65 :: 66 :: 67 :: 68 :: 69 :: 70 :: 71 :: 7 :: 72 :: 51 :: []) (fun g s' V => ∃ k : Nat, s' 51 = .int .i64 ((k : Nat) : Int) ∧ s' 7 = .slice av d.length cv ∧ g = ms.length - k ∧ k ≤ ms.length ∧ Ext w2 V ∧ OwnL V w2.heap.size 3 false 1 (.slice av d.length cv) ((movedF d.length (ms.take k)).map intV)) ms.length ⟨0, rfl, rfl, rfl, Nat.zero_le _, hE7, by rw [List.take_zero]; exact hO7⟩ ?_
  clear hO1 hO7
  rintro _ sd3 V ⟨k, h51, h7, rfl, hk, hEV, hO⟩
  refine W.fix h51 (W.fix (d := 7) h7 ?_)
  clear h51 h7
  have hEw := hE2.trans hEV
  have zV := hEV.size
  have hpV : RowI V (.slice pa ms.length pc) true 2 (ms.map encII) := ⟨hp.h.ext hEw⟩
  by_cases hkm : k < ms.length
  · have hgk := List.getElem?_eq_getElem hkm
    have hz := mvBad_no (hmb _ (List.getElem_mem hkm))
    obtain ⟨f, t, hf, ht, hft⟩ := hz
    have hLl : (movedF d.length (ms.take k)).length = d.length := movedF_len fun m hm => hmb m (List.mem_of_mem_take hm)
    have hsn : movedF d.length (ms.take (k + 1)) = mvF (movedF d.length (ms.take k)) f t := by rw [take_snoc_get hgk, movedF_snoc, hft]; rfl
    obtain ⟨g, rfl, hg2, hOg⟩ := hO.self (by rw [List.length_map, hLl]; omega)
    generalize movedF d.length (ms.take k) = L at *
    have hD : SD 3 V g d.length cv L := ⟨hLl, hOg⟩
    have hx := List.getElem?_eq_getElem (show f < L.length by omega)
    have hcx := hD.get hx
    (refine jjB (jjC (jjZ rfl rfl (by omega) (jz (jjB (jjJ rfl ?_))))); refine jjG (jjB (jjD (jjB (jjC ?_)))); refine jF rfl rfl rfl (map_get (by omega)) ?_; intro _ _ _; refine jQ rfl rfl ?_)
    refine Ops.fix (d := 54) (v := encII ((f : Int), (t : Int))) (congrArg encII hft) ?_
    (apply jjR rfl; (intro _; first|exact eI rfl|exact eB rfl|exact eP rfl|exact eS rfl|exact eT rfl|exact eA rfl|exact eU rfl|exact eF rfl|exact eM rfl|exact eN rfl|exact rfl); exact rfl; exact rfl; exact rfl; exact rfl; intro b8 w_b8 hb_b8 hs_b8 hS_b8 hk_b8; have hA_b8 := Bk.of hk_b8)
    have z8 := hS_b8.size
    have hc8 : w_b8.cell? ⟨g, 0 + f, none⟩ = some (intV L[f]) := (hD.ext hS_b8.ext).get hx
    (refine jz (jjB (jjC (jI (eS rfl) (jm (jn rfl ?_))))); refine jN rfl rfl rfl (jG rfl rfl rfl (by omega) (jR (by assumption) rfl rfl (jJ (eI rfl) (jz ?_)))))
    have hgl := hD.lt
    have hcap : d.length ≤ cv := by obtain ⟨cs, _, _, h, _⟩ := hOg.cells; exact h
    have hdl : d.length - 1 + 1 = d.length := by omega
    have hxe : L.getD f 0 = L[f] := by simp [List.getD_eq_getElem?_getD, hx]
    have hmv : mvF L f t = (L.eraseIdx f).take t ++ L[f] :: (L.eraseIdx f).drop t := by rw [mvF, hxe]
    refine W.draw (fun w' => Only g w_b8 w') ?_
    intro w1 hS1
    have hO1 : Only g w_b8 w1 := .ofExt hS1.ext
    refine jjV [0, 1, 2, 3, 4, 5, 7, 8, 9] (by decide +kernel) hO1 ?_
    (((apply jjT; exact rfl; rintro w' hq; have := hq.at_ (hA_b8.toAt) (show b8 ≠ g by omega); refine jI (eS rfl) (jz ?_); exact ⟨rfl, rfl⟩; apply jjT; exact rfl; rintro w' hq; have := hq.at_ (hA_b8.toAt) (show b8 ≠ g by omega); refine jm (jn rfl (jz ?_)); exact ⟨rfl, rfl⟩; apply jjT; exact rfl; rintro w' hq; have := hq.at_ (hA_b8.toAt) (show b8 ≠ g by omega); refine jN rfl rfl rfl (jz ?_); exact ⟨rfl, rfl⟩; apply jjT; exact rfl; rintro w' hq; have := hq.at_ (hA_b8.toAt) (show b8 ≠ g by omega); refine jm (jn rfl (jz ?_)); exact ⟨rfl, rfl⟩; apply jjT; exact rfl; rintro w' hq; have := hq.at_ (hA_b8.toAt) (show b8 ≠ g by omega); refine jN rfl rfl rfl (jz ?_); exact ⟨rfl, rfl⟩; apply jjT; exact rfl; rintro w' hq; have := hq.at_ (hA_b8.toAt) (show b8 ≠ g by omega); refine jY rfl rfl (by omega) (jz ?_); exact ⟨rfl, rfl⟩; apply jjT; exact rfl; rintro w' hq; have := hq.at_ (hA_b8.toAt) (show b8 ≠ g by omega); refine jm (jn rfl (jz ?_)); exact ⟨rfl, rfl⟩; apply jjT; exact rfl; rintro w' hq; have := hq.at_ (hA_b8.toAt) (show b8 ≠ g by omega); refine jN rfl rfl rfl (jz ?_); exact ⟨rfl, rfl⟩; apply jjT; exact rfl; rintro w' hq; have := hq.at_ (hA_b8.toAt) (show b8 ≠ g by omega); refine jI (eI rfl) (jz ?_); exact ⟨rfl, rfl⟩; refine jjU ?_)))
    have hD1 := (hOg.ext hS_b8.ext).ext hS1.ext
    have hOV : Only g V w1 := (Only.ofExt hS_b8.ext).trans hO1
    have z1 := hOV.size
    refine jjl 6 10 (by decide +kernel) rfl rfl hO1 ?b1 ?b2
    case b1 =>
      refine Ops.callR rfl (Enters.h (P := Tryz.prog) (g := 46)) rfl (Delete_int g d.length cv f L w1 hD1 hf (by omega)) ?_
      rintro _ w3 ⟨rfl, hO3, hD3⟩
      refine ⟨_, rfl, ?_⟩
      refine jz ?_
      have hO13 := hO1.trans hO3
      have z3 := hO3.size
      apply jjW 10 (by decide +kernel) rfl hO13
      (refine jjP (v := .int _ _) rfl (by exact rfl) (by exact rfl) (by exact rfl) (by exact rfl) ?_; intro b9 w_b9 hb_b9 hs_b9 hS_b9 hk_b9; have hR_b9 := RowV.one (agg := false) (k := 1) rfl hk_b9)
      refine jz ?_
      have hO19 := hO13.trans (.ofExt hS_b9.ext)
      have hI := Insert_int g b9 (d.length - 1) cv t (L.eraseIdx f) L[f] w_b9 (hD3.ext hS_b9.ext) ⟨hk_b9⟩ (by omega) (by omega) (by omega) (by omega)
      rw [hdl, ← hmv] at hI
      apply jjW 11 (by decide +kernel) rfl hO19
      refine Ops.callR rfl (Enters.h (P := Tryz.prog) (g := 49)) rfl hI ?_
      rintro _ w4 ⟨rfl, hO4, hD4⟩
      refine ⟨_, rfl, ?_⟩
      refine jz ?_
      have hO14 := hO19.trans hO4
      refine jjV [12] (by decide +kernel) hO14 ?_
      (((refine jjT rfl (fun _ _ => jJ (eS rfl) (jz ⟨rfl, rfl⟩)) (jjU ?_))))
      refine jjX (by decide +kernel) hO14 ?_
      (refine jjC (jY rfl rfl (by omega) (jI (eI rfl) (jz ?_))))
      refine ⟨rfl, by (((iterate 28 refine Same.upd rfl ?_); exact Same.ovN)), ms.length - (k + 1), by omega, k + 1, congrArg (Value.int .i64) (by omega), rfl, rfl, by omega, ((Only.ofExt hS_b8.ext).trans hO14).ext hEV hg2, ?_⟩
      rw [hsn]; exact hD4.mono hg2
    case b2 =>
      (refine jjP (v := .int _ _) rfl (by exact rfl) (by exact rfl) (by exact rfl) (by exact rfl) ?_; intro b9 w_b9 hb_b9 hs_b9 hS_b9 hk_b9; have hR_b9 := RowV.one (agg := false) (k := 1) rfl hk_b9)
      refine jz ?_
      have hO19 := hO1.trans (.ofExt hS_b9.ext)
      have z9 := hS_b9.size
      apply jjW 6 (by decide +kernel) rfl hO19
      refine Ops.callR rfl (Enters.h (P := Tryz.prog) (g := 46)) rfl (Delete_int g d.length cv f L w_b9 (hD1.ext hS_b9.ext) hf (by omega)) ?_
      rintro _ w3 ⟨rfl, hO3, hD3⟩
      refine ⟨_, rfl, ?_⟩
      refine jz ?_
      have hO13 := hO19.trans hO3
      have hI := Insert_int g b9 (d.length - 1) cv t (L.eraseIdx f) L[f] w3 hD3 (hO3.bk ⟨hk_b9⟩ (by omega)) (by omega) (by omega) (by omega) (by omega)
      rw [hdl, ← hmv] at hI
      apply jjW 11 (by decide +kernel) rfl hO13
      refine Ops.callR rfl (Enters.h (P := Tryz.prog) (g := 49)) rfl hI ?_
      rintro _ w4 ⟨rfl, hO4, hD4⟩
      refine ⟨_, rfl, ?_⟩
      refine jz ?_
      have hO14 := hO13.trans hO4
      refine jjV [12] (by decide +kernel) hO14 ?_
      (((refine jjT rfl (fun _ _ => jJ (eS rfl) (jz ⟨rfl, rfl⟩)) (jjU ?_))))
      refine jjX (by decide +kernel) hO14 ?_
      (refine jjC (jY rfl rfl (by omega) (jI (eI rfl) (jz ?_))))
      refine ⟨rfl, by (((iterate 28 refine Same.upd rfl ?_); exact Same.ovN)), ms.length - (k + 1), by omega, k + 1, congrArg (Value.int .i64) (by omega), rfl, rfl, by omega, ((Only.ofExt hS_b8.ext).trans hO14).ext hEV hg2, ?_⟩
      rw [hsn]; exact hD4.mono hg2
  · obtain rfl : k = ms.length := by omega
    rw [List.take_length] at hO
    have hml := movedF_len hmb
    (refine jjB (jjC (jja rfl rfl (by omega) (jz (jjB (jjK rfl ?_))))); refine jjE (jjB (jjC (jI (eS rfl) (jJ (eS rfl) (jJ (eI rfl) ?_))))); refine jz (jjF ?_); refine jC rfl rfl rfl ⟨inferInstance, ?_⟩)
    refine ⟨movedF d.length ms, 0, av, cv, ?_, ?_, .inr (.inr (.inr ⟨hd, by omega, hany, rfl, rfl⟩))⟩
    · rw [hml]; exact rfl
    · rw [hml]; exact hO.row
end

section
variable (a : Option Addr) (c : Nat) (d : List Int) (w : World) [hrow : RowI w (.slice a d.length c) false 1 (d.map intV)]
end

theorem longer_rack (a b : Option Addr) (c e : Nat) (l m : List Int) (w : World) (hl : l.length ≤ 1000000) [h1 : RowI w (.slice a l.length c) false 1 (l.map intV)] [h2 : RowI w (.slice b m.length e) false 1 (m.map intV)] :
    Ct Tryz.prog 84 [.slice a l.length c, .slice b m.length e] w fun v _ => v = .bool (longB l m) := by
  refine Ct.ofW (by simp) ?_
  by_cases c1 : m.length < l.length
  · (refine jjB (jjC (jJ (eB rfl) (jz (jjB (jjC ?_))))); refine jI (eS rfl) (jh rfl (jI (eS rfl) (jh rfl (jjd rfl rfl (by omega) (jI (eB rfl) ?_))))); refine jU rfl rfl rfl rfl (jU rfl rfl rfl rfl (jU rfl rfl rfl rfl (jU rfl rfl rfl rfl (jU rfl rfl rfl rfl (jU rfl rfl rfl rfl ?_))))); refine jV rfl rfl (jV rfl rfl (jV rfl rfl (jV rfl rfl (jU rfl rfl rfl rfl (jK rfl (eB rfl) ?_))))); refine jJ (eB rfl) (jz (jjF ?_)); refine jB rfl rfl ⟨inferInstance, ?_⟩)
    rw [longB_longer c1]; exact rfl
  · by_cases c2 : l.length = m.length
    · (refine jjB (jjC (jJ (eB rfl) (jz (jjB (jjC ?_))))); refine jI (eS rfl) (jh rfl (jI (eS rfl) (jh rfl (jje rfl rfl (by omega) (jI (eB rfl) ?_))))); refine jT rfl rfl rfl (jI (eS rfl) (jT rfl rfl rfl (jh rfl (jT rfl rfl rfl (jI (eS rfl) ?_))))); refine jT rfl rfl rfl (jh rfl (jT rfl rfl rfl (jjh rfl rfl (by omega) (jT rfl rfl rfl (jI (eB rfl) ?_))))); refine jT rfl rfl rfl (jI (eS rfl) (jT rfl rfl rfl (jI (eS rfl) (jT rfl rfl rfl ?_)))))
      refine jjQ (CompareS_int a b c e l m _ hl) rfl rfl ?_
      rintro _ w2 hS2 rfl
      (refine jT rfl rfl rfl (jX rfl rfl (jT rfl rfl rfl (jK rfl (eB rfl) (jL rfl (eB rfl) (jJ (eB rfl) ?_))))); refine jz (jjF ?_); refine jB rfl rfl ⟨inferInstance, ?_⟩)
      exact congrArg Value.bool (by simp [longB, c2])
    · (refine jjB (jjC (jJ (eB rfl) (jz (jjB (jjC ?_))))); refine jI (eS rfl) (jh rfl (jI (eS rfl) (jh rfl (jje rfl rfl (by omega) (jI (eB rfl) ?_))))); refine jT rfl rfl rfl (jI (eS rfl) (jT rfl rfl rfl (jh rfl (jT rfl rfl rfl (jI (eS rfl) ?_))))); refine jT rfl rfl rfl (jh rfl (jT rfl rfl rfl (jji rfl rfl (by omega) (jT rfl rfl rfl (jI (eB rfl) ?_))))); refine jU rfl rfl rfl rfl (jU rfl rfl rfl rfl (jU rfl rfl rfl rfl (jU rfl rfl rfl rfl (jT rfl rfl rfl (jL rfl (eB rfl) ?_))))); refine jL rfl (eB rfl) (jJ (eB rfl) (jz (jjF ?_))); refine jB rfl rfl ⟨inferInstance, ?_⟩)
      rw [longB_shorter (by omega)]; exact rfl

set_option maxHeartbeats 1000000 in
theorem first_rack (a : Option Addr) (c : Nat) (rs : List Rw) (w : World) (hl : rs.length ≤ 1000000) (hne : rs ≠ []) (hil : ∀ x ∈ rs, x.2.2.length ≤ 1000000) [h1 : RowI w (.slice a rs.length c) false 1 (rs.map encW)] [h2 : RowsI w rs] :
    Ct Tryz.prog 87 [.slice a rs.length c, .func (.func 84) #[] #[]] w fun v _ => ∃ x, x ∈ rs ∧ v = encW x ∧ x.2.2 = firstF (rs.map (·.2.2)) := by
  have h0 : 0 < rs.length := List.length_pos_iff.2 hne
  refine Ct.ofW (by simp) ?_
  (refine jjB (jjC (jJ (eS rfl) (jz (jjB (jjC ?_))))); refine jJ (eS rfl) (jz (jjB (jjB (jjC (jI (eS rfl) ?_))))); refine jh rfl (jI (eI rfl) (jz (jjD ?_))))
  refine W.loop (11 :: 12 :: 13 :: 14 :: 6 :: 7 :: 15 :: 16 :: 17 :: 18 :: 19 :: 20 :: 21 :: 22 :: 23 :: 5 :: 24 :: 10 :: []) (fun g s' V => ∃ (j : Nat) (v : Value), s' 10 = .int .i64 ((j : Nat) : Int) ∧ s' 5 = v ∧ g = rs.length - j ∧ j ≤ rs.length ∧ (j = 0 ∨ ∃ x, x ∈ rs ∧ v = encW x ∧ x.2.2 = firstF ((rs.take j).map (·.2.2)))) rs.length ⟨0, _, rfl, rfl, rfl, Nat.zero_le _, .inl rfl⟩ ?_
  rintro _ sd V hSV ⟨j, v, h10, h5, rfl, hj, hI⟩
  refine W.fix h10 (W.fix (d := 5) h5 ?_)
  clear h10 h5
  by_cases hjl : j < rs.length
  · have hg := List.getElem?_eq_getElem hjl
    rcases Nat.eq_zero_or_pos j with hj0 | hj0
    · subst hj0
      (refine jjB (jjC (jjZ rfl rfl (by omega) (jz (jjB (jjJ rfl ?_))))); refine jjG (jjB (jjD (jjB (jjC (jI (eI rfl) ?_))))); refine jF rfl rfl rfl (map_get (by omega)) ?_; intro _ _ _; refine jQ rfl rfl (jJ (eI rfl) (jJ (eS rfl) (jz (jjB (jjC ?_))))); refine jI (eI rfl) (jjh rfl rfl (by omega) (jI (eB rfl) (jU rfl rfl rfl rfl (jU rfl rfl rfl rfl (jU rfl rfl rfl rfl ?_))))); refine jU rfl rfl rfl rfl (jK rfl (eB rfl) (jz (jjJ rfl (jjC (jI (eS rfl) ?_))))); refine jJ (eS rfl) (jz (jjC (jY rfl rfl (by omega) (jI (eI rfl) (jz ?_))))))
      refine ⟨rfl, by (((iterate 20 refine Same.upd rfl ?_); exact Same.ovN)), rs.length - (0 + 1), by omega, inferInstance, 0 + 1, _, congrArg (Value.int .i64) (by omega), rfl, rfl, by omega, .inr ⟨rs[0], List.getElem_mem hjl, rfl, ?_⟩⟩
      rw [take_snoc_get hg, List.take_zero]; rfl
    · obtain ⟨x, hx, rfl, hxe⟩ := hI.resolve_left (by omega)
      have hrV : RowsI V rs := inferInstance
      have i1 := hrV.get hjl
      have i2 := RowI.mk (hrV.h x hx)
      have hil1 := hil _ (List.getElem_mem hjl)
      have hsn : firstF ((rs.take (j + 1)).map (·.2.2)) = betS (firstF ((rs.take j).map (·.2.2))) rs[j].2.2 := by
        rw [take_snoc_get hg, List.map_append]
        exact firstF_snoc (by rw [Ne, List.map_eq_nil_iff, List.take_eq_nil_iff]; rintro (h | h); omega; exact hne h) _
      (refine jjB (jjC (jjZ rfl rfl (by omega) (jz (jjB (jjJ rfl ?_))))); refine jjG (jjB (jjD (jjB (jjC (jI (eI rfl) ?_))))); refine jF rfl rfl rfl (map_get (by omega)) ?_; intro _ _ _; refine jQ rfl rfl (jJ (eI rfl) (jJ (eS rfl) (jz (jjB (jjC ?_))))); refine jI (eI rfl) (jji rfl rfl (by omega) (jI (eB rfl) (jT rfl rfl rfl (jI (eF rfl) (jT rfl rfl rfl ?_))))); refine jI (eS rfl) (jT rfl rfl rfl (jI (eS rfl) (jT rfl rfl rfl ?_))))
      refine jjQ (longer_rack rs[j].1 x.1 rs[j].2.1 x.2.1 rs[j].2.2 x.2.2 _ hil1) rfl rfl ?_
      rintro _ w2 hS2 rfl
      cases hb : longB rs[j].2.2 x.2.2
      · (refine jL rfl (eB rfl) (jz (jjK rfl (jjG (jjC (jY rfl rfl (by omega) ?_))))); refine jI (eI rfl) (jz ?_))
        refine ⟨rfl, by (((iterate 18 refine Same.upd rfl ?_); exact Same.ovN)), rs.length - (j + 1), by omega, inferInstance, j + 1, _, congrArg (Value.int .i64) (by omega), rfl, rfl, by omega, .inr ⟨x, hx, rfl, ?_⟩⟩
        rw [hsn, ← hxe, betS, hb]; rfl
      · (refine jL rfl (eB rfl) (jz (jjJ rfl (jjC (jI (eS rfl) (jJ (eS rfl) ?_))))); refine jz (jjC (jY rfl rfl (by omega) (jI (eI rfl) (jz ?_)))))
        refine ⟨rfl, by (((iterate 20 refine Same.upd rfl ?_); exact Same.ovN)), rs.length - (j + 1), by omega, inferInstance, j + 1, _, congrArg (Value.int .i64) (by omega), rfl, rfl, by omega, .inr ⟨rs[j], List.getElem_mem hjl, rfl, ?_⟩⟩
        rw [hsn, ← hxe, betS, hb]; rfl
  · obtain rfl : j = rs.length := by omega
    rw [List.take_length] at hI
    (refine jjB (jjC (jja rfl rfl (by omega) (jz (jjB (jjK rfl ?_))))); refine jjE (jjB (jjC (jI rfl (jJ rfl (jz ?_))))); refine jjF ?_; refine jB rfl rfl ⟨inferInstance, ?_⟩)
    exact hI.resolve_left (by omega)

theorem At.ne_map {κ : Type} {encK : κ → Value} {w : World} {b o kb : Nat} {cs : List Value} {m : List (κ × Value)} (h : At w b o cs) (hm : MapE encK w kb m) (hc : cs ≠ []) : b ≠ kb := by
  rintro rfl
  obtain ⟨x, cs, rfl⟩ := List.exists_cons_of_ne_nil hc
  have h0 := h.h 0 x rfl
  obtain ⟨es, c, h1, _⟩ := hm.h
  simp [World.cell?, h1] at h0
theorem Only.atM {κ : Type} {encK : κ → Value} {w w' : World} {b o kb : Nat} {cs : List Value} {m : List (κ × Value)} (O : Only kb w w') (hm : MapE encK w kb m) (h : At w b o cs) : At w' b o cs := by
  cases cs with
  | nil => exact ⟨fun i v hv => by simp at hv⟩
  | cons x cs => exact O.at_ h (h.ne_map hm (by simp))
theorem Only.rowM {κ : Type} {encK : κ → Value} {w w' : World} {kb k : Nat} {agg : Bool} {v : Value} {xs : List Value} {m : List (κ × Value)} (O : Only kb w w') (hm : MapE encK w kb m) (h : RowV w agg k v xs) : RowV w' agg k v xs :=
  ⟨h.len, h.fit, h.at_.imp id fun ⟨b, o, c, hv, hl, hc⟩ => ⟨b, o, c, hv, hl, fun j x hx => O.atM hm (hc j x hx)⟩⟩
theorem OwnL.blockM {κ : Type} {encK : κ → Value} {w : World} {B e kb : Nat} {agg : Bool} {k : Nat} {v : Value} {xs : List Value} {m : List (κ × Value)} (h : OwnL w B e agg k v xs) (hm : MapE encK w kb m) : v.ownBlock ≠ some kb := by
  intro e
  rcases h.own.2 with ⟨rfl, _⟩ | ⟨g, cap, cur, rfl, _, hg, _⟩
  · simp [Value.ownBlock] at e
  · simp only [Value.ownBlock, Option.some.injEq] at e
    subst e
    obtain ⟨es, c, h1, _⟩ := hm.h
    rw [h1] at hg; simp at hg

structure Kc where
  bk : Nat
  bd : Nat
  bf : Nat
  bl : Nat
  kmb : Nat
  a : Option Addr
  c : Nat
  d : List Int
  C : List Int
def Kc.args (q : Kc) : List Value := [.pointer (some ⟨q.bk, 0, none⟩), .pointer (some ⟨q.bd, 0, none⟩), .pointer (some ⟨q.bf, 0, none⟩), .pointer (some ⟨q.bl, 0, none⟩)]
def IsP (q : Kc) (w : World) (k : Nat) (v : Value) : Prop := ∃ a c, v = .slice a (pathK q.d q.C k).length c ∧ OwnL w 0 3 false 1 (.slice a (pathK q.d q.C k).length c) ((pathK q.d q.C k).map intV)
structure KV (q : Kc) (w : World) : Prop where
  kn : At w q.bk 0 [.map (some q.kmb)]
  dd : At w q.bd 0 [.slice q.a q.d.length q.c]
  ff : At w q.bf 0 [.func (.func 86) #[] q.args.toArray]
  lg : At w q.bl 0 [.func (.func 84) #[] #[]]
  row : RowV w false 1 (.slice q.a q.d.length q.c) (q.d.map intV)
  km : ∃ m, MapE (Value.int .i64) w q.kmb m ∧ ∀ n v, mget m n = some v → ∃ k : Nat, n = (k : Int) ∧ k < q.d.length ∧ IsP q w k v
theorem IsP.only {q : Kc} {w w' : World} {k : Nat} {v : Value} {m : List (Int × Value)} (h : IsP q w k v) (hm : MapE (Value.int .i64) w q.kmb m) (o : Only q.kmb w w') : IsP q w' k v := by
  obtain ⟨a, c, e, h⟩ := h
  exact ⟨a, c, e, o.own' h (h.blockM hm)⟩
theorem KV.only {q : Kc} {w w' : World} (f : KV q w) (o : Only q.kmb w w') (h : ∃ m, MapE (Value.int .i64) w' q.kmb m ∧ ∀ n v, mget m n = some v → ∃ k : Nat, n = (k : Int) ∧ k < q.d.length ∧ IsP q w' k v) : KV q w' := by
  obtain ⟨m, hm, _⟩ := f.km
  exact ⟨o.atM hm f.kn, o.atM hm f.dd, o.atM hm f.ff, o.atM hm f.lg, o.rowM hm f.row, h⟩
theorem KV.ext {q : Kc} {w w' : World} (f : KV q w) (e : Ext w w') : KV q w' := f.only (.ofExt e) (by
  obtain ⟨m, hm, h⟩ := f.km
  exact ⟨m, hm.ext e, fun n v hv => by obtain ⟨k, h1, h2, h3⟩ := h n v hv; exact ⟨k, h1, h2, h3.only hm (.ofExt e)⟩⟩)

set_option maxHeartbeats 4000000 in
theorem from_rack (q : Kc) (hb : BegR q.d q.C) (hd : q.d.length ≤ 1000) :
    ∀ (m i : Nat) (w : World), q.d.length - i ≤ m → i < q.d.length → KV q w →
      Calls Tryz.prog 86 ([Value.int .i64 (i : Int)] ++ q.args).toArray w fun e w' => ∃ v, e = .returned v ∧ IsP q w' i v ∧ Only q.kmb w w' ∧ KV q w' := by
  intro m
  induction m using Nat.strongRecOn with
  | _ m ih =>
  intro i w hm hi hK
  have := hK.kn
  have := hK.ff
  have := hK.lg
  have := hK.dd
  refine Calls.ofW (by simp [Kc.args]) ?_
  (refine jjB (jjC (jJ (eS rfl) (jz (jjB (jjB ?_))))); refine jjC (jN rfl rfl rfl (jI (eI rfl) ?_)))
  obtain ⟨mm, hmm, hok⟩ := hK.km
  refine Ops.lookupOk hmm rfl rfl ?_
  cases hg : mget mm (i : Int) with
  | some v =>
    obtain ⟨k, hk1, hk2, hP⟩ := hok _ _ hg
    obtain rfl : i = k := by omega
    (refine jI (eU rfl) (ju rfl rfl (ju rfl rfl (jJ rfl (jJ (eB rfl) (jz ?_))))); refine jjB (jjC (jI (eB rfl) (jz (jjJ rfl (jjB ?_))))); refine jjC (jI rfl (jJ rfl (jz (jjF ?_)))))
    exact jB rfl rfl ⟨_, rfl, hP, .ofExt (.refl w), hK⟩
  | none =>
    (refine jI (eU rfl) (ju rfl rfl (ju rfl rfl (jJ (eS rfl) (jJ (eB rfl) (jz ?_))))); refine jjB (jjC (jI (eB rfl) (jz (jjK rfl (jjG ?_))))); refine jjB (jjC ?_))
    (refine jjP (v := .slice _ _ _) rfl (by exact rfl) (by exact rfl) (by exact rfl) (by exact rfl) ?_; intro b7 w_b7 hb_b7 hs_b7 hS_b7 hk_b7; have hR_b7 := RowV.one (agg := false) (k := 1) rfl hk_b7)
    have hO7 := OwnL.one (agg := false) (k := 1) (B := w.heap.size) rfl (by omega) hk_b7
    (refine jJ (eS rfl) (jz (jjB (jjB (jjC (jI (eI rfl) ?_))))); refine jY rfl rfl (by omega) (jJ (eI rfl) (jz (jjD ?_))))
    have hkm := hmm.lt
    have hE7 : Ext w w_b7 := inferInstance
    have hS1 : ∀ k, i + 1 ≤ k → k < q.d.length → ((upR (i + 1) (k + 1)).filter fun j => decide (gd q.d i ≤ gd q.d j)).map (pathK q.d q.C) = ((upR (i + 1) k).filter fun j => decide (gd q.d i ≤ gd q.d j)).map (pathK q.d q.C) ++ if gd q.d i ≤ gd q.d k then [pathK q.d q.C k] else [] := by
      intro k h1 h2
      rw [upR_snoc h1, List.filter_append, List.map_append]
      congr 1
      by_cases hh : gd q.d i ≤ gd q.d k
      · rw [if_pos hh, List.filter_cons_of_pos (by rw [decide_eq_true_eq]; exact hh)]; rfl
      · rw [if_neg hh, List.filter_cons_of_neg (by rw [decide_eq_true_eq]; exact hh)]; rfl
    refine W.loopG (22 :: 23 :: 24 :: 25 :: 28 :: 29 :: 30 :: 31 :: 32 :: 33 :: 34 :: 35 :: 36 :: 37 :: 38 :: 39 :: 40 :: 41 :: 42 :: 9 :: 26 :: 27 :: 10 :: []) (fun g s' w' => ∃ (k : Nat) (v : Value) (rs : List Rw), s' 10 = .int .i64 ((k : Nat) : Int) ∧ s' 9 = v ∧ i + 1 ≤ k ∧ k ≤ q.d.length ∧ g = q.d.length - k ∧ rs.length ≤ k + 1 ∧ Only q.kmb w w' ∧ KV q w' ∧ OwnL w' w.heap.size 50 false 1 v (rs.map encW) ∧ (∀ x ∈ rs, OwnL w' 0 3 false 1 (encW x) (x.2.2.map intV)) ∧ rs.map (·.2.2) = [] :: ((upR (i + 1) k).filter fun j => decide (gd q.d i ≤ gd q.d j)).map (pathK q.d q.C)) (q.d.length - (i + 1)) ⟨i + 1, _, [(none, 0, [])], congrArg (Value.int .i64) (by omega), rfl, Nat.le_refl _, hi, rfl, by simp, .ofExt hE7, hK.ext hE7, hO7, by intro x hx; simp at hx; subst hx; exact OwnL.nil _ _ _ _ _, by rw [upR_nil (Nat.le_refl _)]; rfl⟩ ?_
    rintro _ sd w' ⟨k, v, rs, h10, h9, hik, hkn, rfl, hrl, hOn, hKk, hO, hRs, hrs⟩
    refine W.fix h10 (W.fix (d := 9) h9 ?_)
    clear h10 h9
    have z' := hOn.size
    have hEd := hKk.dd
    by_cases hkl : k < q.d.length
    · (refine jjB (jjB (jjC (jI (eI rfl) (jN rfl rfl rfl (jh rfl ?_))))); refine jjZ rfl rfl (by omega) (jz (jjJ rfl (jjG (jjB (jjD ?_))))); refine jjB ?_)
      refine W.draw (fun wq => Ext w' wq) ?_
      intro w1 hS1'
      have hz := hKk.row.place' (map_get hkl)
      obtain ⟨p1, o1, e1, hA1⟩ := hz
      have hz := hKk.row.place' (map_get hi)
      obtain ⟨p2, o2, e2, hA2⟩ := hz
      have e3 := e1.symm.trans e2
      cases e3
      rw [Nat.mul_one] at hA1 hA2
      have hdd : At w' q.bd 0 [.slice (some ⟨p1, o1, none⟩) q.d.length q.c] := by rw [← e1]; exact hKk.dd
      clear hEd
      refine jjV [0, 1, 2, 3, 4, 5, 6, 7, 8] (by decide +kernel) hS1'.ext ?_
      (((apply jjT; exact rfl; rintro wq hq; have := hq.toStep; refine jN rfl rfl rfl (jz ?_); exact ⟨rfl, rfl⟩; apply jjT; exact rfl; rintro wq hq; have := hq.toStep; refine jI (eI rfl) (jz ?_); exact ⟨rfl, rfl⟩; apply jjT; exact rfl; rintro wq hq; have := hq.toStep; refine jG rfl rfl rfl (by omega) (jz ?_); exact ⟨rfl, rfl⟩; apply jjT; exact rfl; rintro wq hq; have := hq.toStep; refine jQ rfl rfl (jz ?_); exact ⟨rfl, rfl⟩; apply jjT; exact rfl; rintro wq hq; have := hq.toStep; refine jN rfl rfl rfl (jz ?_); exact ⟨rfl, rfl⟩; apply jjT; exact rfl; rintro wq hq; have := hq.toStep; refine jI (eI rfl) (jz ?_); exact ⟨rfl, rfl⟩; apply jjT; exact rfl; rintro wq hq; have := hq.toStep; refine jG rfl rfl rfl (by omega) (jz ?_); exact ⟨rfl, rfl⟩; apply jjT; exact rfl; rintro wq hq; have := hq.toStep; refine jQ rfl rfl (jz ?_); exact ⟨rfl, rfl⟩; apply jjT; exact rfl; rintro wq hq; have := hq.toStep; refine jf rfl rfl (jz ?_); exact ⟨rfl, rfl⟩; refine jjU ?_)))
      refine jjX (by decide +kernel) hS1'.ext ?_
      have hK1 := hKk.ext hS1'.ext
      have hOn1 := hOn.trans (.ofExt hS1'.ext)
      have g1 : gd q.d k = q.d[k] := gd_lt hkl
      have g2 : gd q.d i = q.d[i] := gd_lt hi
      have hlg := hK1.lg
      have hff := hK1.ff
      repeat' (first|((first|apply jI|apply jJ); (first|exact eI rfl|exact rfl))|(refine jM (jN rfl rfl rfl ?_))|(refine jW (jY rfl rfl (by omega) ?_))|refine jz ?_|(refine jjA ?_; (first|refine jjC ?_|refine jjG ?_))|(refine jjA ?_; (refine jjN rfl ?_ ?_ <;> intro _)))
      · have hh : gd q.d i ≤ gd q.d k := by rw [g1, g2]; assumption
        refine Ops.callR rfl (Enters.h (P := Tryz.prog) (g := 86)) rfl (ih (m - 1) (by omega) k _ (by omega) hkl hK1) ?_
        rintro _ w2 ⟨v2, rfl, ⟨a2, c2, rfl, hR2⟩, hOn2, hK2⟩
        refine ⟨_, rfl, ?_⟩
        (refine jjP (v := .slice _ _ _) rfl (by exact rfl) (by exact rfl) (by exact rfl) (by exact rfl) ?_; intro b8 w_b8 hb_b8 hs_b8 hS_b8 hk_b8; have hR_b8 := RowV.one (agg := false) (k := 1) rfl hk_b8)
        have z2 := hOn2.size
        have z1 := hOn1.size
        have z8 := hS_b8.size
        have hOn28 := hOn2.trans (.ofExt hS_b8.ext)
        obtain ⟨m1, hm1, _⟩ := hK1.km
        obtain ⟨m2, hm2, _⟩ := hK2.km
        have hOr := hOn2.own (hO.ext hS1'.ext) hkm
        refine Ops.appendL (hOr.ext hS_b8.ext) (by omega) hR_b8 rfl rfl rfl rfl rfl ?_ ?_ ?_
        · simp only [List.length_map, List.length_cons, List.length_nil]; omega
        · simp only [List.length_map, List.length_cons, List.length_nil]; omega
        intro v9 w9 hA9 hO9 _ _
        have hEA : Only q.kmb w w9 := (hOn1.trans hOn28).app hA9 (Nat.le_refl _)
        have hKb : v.ownBlock ≠ some q.kmb := fun e => by have := (hO.block _ e).1; omega
        have hrow : ∀ (x : Rw), OwnL w2 0 3 false 1 (encW x) (x.2.2.map intV) → OwnL w9 0 3 false 1 (encW x) (x.2.2.map intV) := fun x hx => (hx.ext hS_b8.ext).app hA9 ((hx.ext hS_b8.ext).ne (hOr.ext hS_b8.ext) (by decide))
        have hK9 : KV q w9 := hK.only hEA (by
          obtain ⟨m2, hm2, hok2⟩ := hK2.km
          refine ⟨m2, (hm2.ext hS_b8.ext).app hA9 hKb, fun n u hu => ?_⟩
          obtain ⟨k', h1, h2, a', c', h3, h4⟩ := hok2 n u hu
          exact ⟨k', h1, h2, a', c', h3, hrow (a', c', pathK q.d q.C k') h4⟩)
        (refine jJ rfl (jz (jjC (jI (eI rfl) (jY rfl rfl (by omega) (jJ (eI rfl) ?_))))); refine jz ?_)
        refine ⟨rfl, by (((iterate 25 refine Same.upd rfl ?_); exact Same.ovN)), q.d.length - (k + 1), by omega, k + 1, v9, rs ++ [(a2, c2, pathK q.d q.C k)], congrArg (Value.int .i64) (by omega), rfl, by omega, by omega, rfl, by rw [List.length_append]; simp only [List.length_cons, List.length_nil]; omega, hEA, hK9, by rw [List.map_append]; exact hO9, ?_, ?_⟩
        · intro x hx
          rcases List.mem_append.1 hx with hx | hx
          · exact hrow x (hOn2.own' ((hRs x hx).ext hS1'.ext) (((hRs x hx).ext hS1'.ext).blockM hm1))
          · have : x = (a2, c2, pathK q.d q.C k) := by simpa using hx
            subst this
            exact hrow (a2, c2, pathK q.d q.C k) hR2
        · rw [hS1 k hik hkl, if_pos hh, List.map_append, hrs]; rfl
      · have hh : ¬ gd q.d i ≤ gd q.d k := by rw [g1, g2]; assumption
        refine ⟨rfl, by (((iterate 18 refine Same.upd rfl ?_); exact Same.ovN)), q.d.length - (k + 1), by omega, k + 1, v, rs, congrArg (Value.int .i64) (by omega), rfl, by omega, by omega, rfl, by omega, hOn1, hK1, hO.ext hS1'.ext, fun x hx => (hRs x hx).ext hS1'.ext, ?_⟩
        rw [hS1 k hik hkl, if_neg hh, List.append_nil]; exact hrs
    · obtain rfl : k = q.d.length := by omega
      obtain ⟨m', hm', hok'⟩ := hKk.km
      have hil : ∀ x ∈ rs, x.2.2.length ≤ 1000 := by
        intro x hx
        have h1 : x.2.2 ∈ rs.map (·.2.2) := List.mem_map.2 ⟨x, hx, rfl⟩
        rw [hrs, List.mem_cons] at h1
        rcases h1 with h1 | h1
        · rw [h1]; simp
        · obtain ⟨j, hj, h2⟩ := List.mem_map.1 h1
          have hj2 := (upR_mem.1 (List.mem_filter.1 hj).1).2
          have h3 := pathK_len hb j hj2
          have h4 := hb.le j hj2
          rw [← h2]; omega
      have hne : rs ≠ [] := by rintro rfl; simp at hrs
      obtain ⟨av, cv, rfl⟩ := hO.slice
      rw [List.length_map] at hO
      rw [List.length_map]
      (refine jjB (jjB (jjC (jI (eI rfl) (jN rfl rfl rfl (jh rfl ?_))))); refine jja rfl rfl (by omega) (jz (jjK rfl (jjE (jjB ?_)))))
      refine W.draw (fun wq => Only q.kmb w' wq) ?_
      intro w1 hS1'
      have hO1 : Only q.kmb w' w1 := .ofExt hS1'.ext
      refine jjV [0, 1, 2, 4, 5] (by decide +kernel) hO1 ?_
      (((apply jjT; exact rfl; rintro wq hq; have := hq.atM hm' hKk.kn; have := hq.atM hm' hKk.lg; refine jN rfl rfl rfl (jz ?_); exact ⟨rfl, rfl⟩; apply jjT; exact rfl; rintro wq hq; have := hq.atM hm' hKk.kn; have := hq.atM hm' hKk.lg; refine jI (eI rfl) (jz ?_); exact ⟨rfl, rfl⟩; apply jjT; exact rfl; rintro wq hq; have := hq.atM hm' hKk.kn; have := hq.atM hm' hKk.lg; refine jI (eI rfl) (jz ?_); exact ⟨rfl, rfl⟩; apply jjT; exact rfl; rintro wq hq; have := hq.atM hm' hKk.kn; have := hq.atM hm' hKk.lg; refine jI (eS rfl) (jz ?_); exact ⟨rfl, rfl⟩; apply jjT; exact rfl; rintro wq hq; have := hq.atM hm' hKk.kn; have := hq.atM hm' hKk.lg; refine jN rfl rfl rfl (jz ?_); exact ⟨rfl, rfl⟩; refine jjU ?_)))
      have z1 := hS1'.size
      refine jjl 3 6 (by decide +kernel) rfl rfl hO1 ?b1 ?b2
      case b1 =>
        (refine jjP (v := .int _ _) rfl (by exact rfl) (by exact rfl) (by exact rfl) (by exact rfl) ?_; intro b8 w_b8 hb_b8 hs_b8 hS_b8 hk_b8; have hR_b8 := RowV.one (agg := false) (k := 1) rfl hk_b8)
        have z8 := hS_b8.size
        refine jz ?_
        have hE18 : Ext w' w_b8 := hS1'.ext.trans hS_b8.ext
        apply jjW 6 (by decide +kernel) rfl (Only.ofExt hE18)
        have i1 : RowI w_b8 (.slice av rs.length cv) false 1 (rs.map encW) := ⟨(hO.ext hE18).row⟩
        have i2 : RowsI w_b8 rs := ⟨fun x hx => ((hRs x hx).ext hE18).row⟩
        refine jjQ (first_rack av cv rs _ (by omega) hne (fun x hx => by have := hil x hx; omega)) rfl rfl ?_
        rintro _ w3 hS3 ⟨x, hx, rfl, hxe⟩
        refine jz ?_
        have hE8 : Ext w' w3 := hE18.trans hS3.ext
        have z3 := hE8.size
        apply jjW 7 (by decide +kernel) rfl (Only.ofExt hE8)
        have hO8 := (OwnL.one (agg := false) (k := 1) (B := w'.heap.size) rfl (by omega) hk_b8).ext hS3.ext
        have hRx := ((hRs x hx).ext hE8).row
        have hLn : ([Value.int .i64 (i : Int)] ++ x.2.2.map intV) = (pathK q.d q.C i).map intV := by rw [pathK_first hb hi, hxe, hrs]; rfl
        have hxl : x.2.2.length ≤ 1000 := hil x hx
        refine Ops.appendL hO8 (by omega) hRx rfl rfl rfl rfl (all_ints' _) ?_ ?_ ?_
        · simp only [List.length_map, List.length_cons, List.length_nil]; omega
        · simp only [List.length_map, List.length_cons, List.length_nil]; omega
        intro v9 w9 hA9 hO9 _ _
        rw [hLn] at hO9
        obtain ⟨a9, c9, e9⟩ := hO9.slice
        rw [List.length_map] at e9
        subst e9
        refine jz ?_
        have hE9 : Ext w' w9 := hA9.ext hE8 (Nat.le_refl _)
        have hm9 := hm'.ext hE9
        apply jjW 8 (by decide +kernel) rfl (Only.ofExt hE9)
        refine Ops.mapUpdate hm9 rfl rfl rfl ?_
        intro w10 o10 hp10 hm10
        refine jz ?_
        have hO10 : Only q.kmb w' w10 := (Only.ofExt hE9).trans (.ofPut hp10)
        refine jjX (by decide +kernel) hO10 ?_
        have hP10 : IsP q w10 i (.slice a9 (pathK q.d q.C i).length c9) := ⟨a9, c9, rfl, (Only.ofPut hp10).own' (hO9.mono (Nat.zero_le _)) (hO9.blockM hm9)⟩
        have hK10 : KV q w10 := hKk.only hO10 (by
          refine ⟨_, hm10, fun n u hu => ?_⟩
          by_cases hn : n = (i : Int)
          · subst hn
            rw [mget_set_same] at hu
            obtain rfl := Option.some.inj hu
            exact ⟨i, rfl, hi, hP10⟩
          · rw [mget_set_other _ _ hn] at hu
            obtain ⟨k', h1, h2, h3⟩ := hok' n u hu
            exact ⟨k', h1, h2, h3.only hm' hO10⟩)
        have hkn10 := hK10.kn
        (refine jjB (jjC (jN rfl rfl rfl (jI (eI rfl) ?_))))
        refine Ops.lookup hm10 rfl rfl ?_
        rw [mget_set_same]
        (refine jJ (eS rfl) (jz (jjF ?_)))
        exact jB rfl rfl ⟨_, rfl, hP10, hOn.trans hO10, hK10⟩
      case b2 =>
        have i1 : RowI w1 (.slice av rs.length cv) false 1 (rs.map encW) := ⟨(hO.ext hS1'.ext).row⟩
        have i2 : RowsI w1 rs := ⟨fun x hx => ((hRs x hx).ext hS1'.ext).row⟩
        refine jjQ (first_rack av cv rs _ (by omega) hne (fun x hx => by have := hil x hx; omega)) rfl rfl ?_
        rintro _ w3 hS3 ⟨x, hx, rfl, hxe⟩
        refine jz ?_
        have hE13 : Ext w' w3 := hS1'.ext.trans hS3.ext
        have z3 := hE13.size
        apply jjW 3 (by decide +kernel) rfl (Only.ofExt hE13)
        (refine jjP (v := .int _ _) rfl (by exact rfl) (by exact rfl) (by exact rfl) (by exact rfl) ?_; intro b8 w_b8 hb_b8 hs_b8 hS_b8 hk_b8; have hR_b8 := RowV.one (agg := false) (k := 1) rfl hk_b8)
        have z8 := hS_b8.size
        refine jz ?_
        have hE8 : Ext w' w_b8 := hE13.trans hS_b8.ext
        apply jjW 7 (by decide +kernel) rfl (Only.ofExt hE8)
        have hO8 := OwnL.one (agg := false) (k := 1) (B := w'.heap.size) rfl (by omega) hk_b8
        have hRx := ((hRs x hx).ext hE8).row
        have hLn : ([Value.int .i64 (i : Int)] ++ x.2.2.map intV) = (pathK q.d q.C i).map intV := by rw [pathK_first hb hi, hxe, hrs]; rfl
        have hxl : x.2.2.length ≤ 1000 := hil x hx
        refine Ops.appendL hO8 (by omega) hRx rfl rfl rfl rfl (all_ints' _) ?_ ?_ ?_
        · simp only [List.length_map, List.length_cons, List.length_nil]; omega
        · simp only [List.length_map, List.length_cons, List.length_nil]; omega
        intro v9 w9 hA9 hO9 _ _
        rw [hLn] at hO9
        obtain ⟨a9, c9, e9⟩ := hO9.slice
        rw [List.length_map] at e9
        subst e9
        refine jz ?_
        have hE9 : Ext w' w9 := hA9.ext hE8 (Nat.le_refl _)
        have hm9 := hm'.ext hE9
        apply jjW 8 (by decide +kernel) rfl (Only.ofExt hE9)
        refine Ops.mapUpdate hm9 rfl rfl rfl ?_
        intro w10 o10 hp10 hm10
        refine jz ?_
        have hO10 : Only q.kmb w' w10 := (Only.ofExt hE9).trans (.ofPut hp10)
        refine jjX (by decide +kernel) hO10 ?_
        have hP10 : IsP q w10 i (.slice a9 (pathK q.d q.C i).length c9) := ⟨a9, c9, rfl, (Only.ofPut hp10).own' (hO9.mono (Nat.zero_le _)) (hO9.blockM hm9)⟩
        have hK10 : KV q w10 := hKk.only hO10 (by
          refine ⟨_, hm10, fun n u hu => ?_⟩
          by_cases hn : n = (i : Int)
          · subst hn
            rw [mget_set_same] at hu
            obtain rfl := Option.some.inj hu
            exact ⟨i, rfl, hi, hP10⟩
          · rw [mget_set_other _ _ hn] at hu
            obtain ⟨k', h1, h2, h3⟩ := hok' n u hu
            exact ⟨k', h1, h2, h3.only hm' hO10⟩)
        have hkn10 := hK10.kn
        (refine jjB (jjC (jN rfl rfl rfl (jI (eI rfl) ?_))))
        refine Ops.lookup hm10 rfl rfl ?_
        rw [mget_set_same]
        (refine jJ (eS rfl) (jz (jjF ?_)))
        exact jB rfl rfl ⟨_, rfl, hP10, hOn.trans hO10, hK10⟩

theorem beg_exists : ∀ d : List Int, ∃ C, BegR d C
  | [] => ⟨[], rfl, by simp, by simp, by simp⟩
  | x :: d => by
    obtain ⟨C, h⟩ := beg_exists d
    have hv : ∀ n, n ≤ d.length → ∃ v : Int, 1 ≤ v ∧ (∀ k, k < n → x ≤ gd d k → gd C k + 1 ≤ v) ∧ (v = 1 ∨ ∃ k, k < n ∧ x ≤ gd d k ∧ v = gd C k + 1) := by
      intro n
      induction n with
      | zero => intro _; exact ⟨1, by omega, by intros; omega, .inl rfl⟩
      | succ n ih =>
        intro hn
        obtain ⟨v, h1, h2, h3⟩ := ih (by omega)
        by_cases hc : x ≤ gd d n ∧ v < gd C n + 1
        · refine ⟨gd C n + 1, by omega, fun k hk hx => ?_, .inr ⟨n, by omega, hc.1, rfl⟩⟩
          by_cases e : k = n
          · subst e; omega
          · have := h2 k (by omega) hx; omega
        · refine ⟨v, h1, fun k hk hx => ?_, ?_⟩
          · by_cases e : k = n
            · subst e; omega
            · exact h2 k (by omega) hx
          · rcases h3 with h3 | ⟨k, hk, h4⟩
            · exact .inl h3
            · exact .inr ⟨k, by omega, h4⟩
    obtain ⟨v, h1, h2, h3⟩ := hv d.length (Nat.le_refl _)
    have gs : ∀ (y : Int) (l : List Int) (k : Nat), gd (y :: l) (k + 1) = gd l k := fun y l k => by simp [gd]
    have gz : ∀ (y : Int) (l : List Int), gd (y :: l) 0 = y := fun y l => by simp [gd]
    refine ⟨v :: C, by simp [h.len], ?_, ?_, ?_⟩
    · intro i hi
      cases i with
      | zero => rw [gz]; exact h1
      | succ i => rw [gs]; exact h.pos i (by simpa using hi)
    · intro i k hik hk hd
      obtain ⟨k, rfl⟩ : ∃ k', k = k' + 1 := ⟨k - 1, by omega⟩
      rw [List.length_cons] at hk
      cases i with
      | zero =>
        rw [gz, gs] at hd ⊢
        exact h2 k (by omega) hd
      | succ i =>
        rw [gs, gs] at hd ⊢
        exact h.up i k (by omega) (by omega) hd
    · intro i hi
      rw [List.length_cons] at hi
      cases i with
      | zero =>
        rw [gz]
        rcases h3 with h3 | ⟨k, hk, h4, h5⟩
        · exact .inl h3
        · exact .inr ⟨k + 1, by omega, by simp; omega, by rw [gz, gs]; exact h4, by rw [gs]; exact h5⟩
      | succ i =>
        rw [gs]
        rcases h.ex i (by omega) with h3 | ⟨k, hk, h4, h5, h6⟩
        · exact .inl h3
        · exact .inr ⟨k + 1, by omega, by simp; omega, by rw [gs, gs]; exact h5, by rw [gs]; exact h6⟩

set_option maxHeartbeats 4000000 in
theorem keep_rack (a : Option Addr) (c : Nat) (d C : List Int) (w : World) (hb : BegR d C) (hd : d.length ≤ 1000) [hrow : RowI w (.slice a d.length c) false 1 (d.map intV)] :
    Ct Tryz.prog 44 [.slice a d.length c] w fun v w' => ∃ a' c', v = .slice a' (keepK d C).length c' ∧ OwnL w' w.heap.size 3 false 1 (.slice a' (keepK d C).length c') ((keepK d C).map intV) := by
  refine Ct.ofW (by simp) ?_
  (refine jjB (jjC ?_))
  (refine jy rfl ?_; intro b1 w_b1 hb_b1 hs_b1 hS_b1 hk_b1; have hA_b1 := At.ofBlock hk_b1)
  (refine jJ (eS rfl) (jz (jjB (jjC ?_))))
  (apply jjR rfl; (intro _; first|exact eI rfl|exact eB rfl|exact eP rfl|exact eS rfl|exact eT rfl|exact eA rfl|exact eU rfl|exact eF rfl|exact eM rfl|exact eN rfl|exact rfl); exact rfl; exact rfl; exact rfl; exact rfl; intro b3 w_b3 hb_b3 hs_b3 hS_b3 hk_b3; have hA_b3 := Bk.of hk_b3)
  (refine jz (jjB (jjC ?_)))
  refine Ops.makeMap (Value.int .i64) ?_
  intro kmb w1 hkb hs1 hS1 hM1
  skip
  (apply jjR rfl; (intro _; first|exact eI rfl|exact eB rfl|exact eP rfl|exact eS rfl|exact eT rfl|exact eA rfl|exact eU rfl|exact eF rfl|exact eM rfl|exact eN rfl|exact rfl); exact rfl; exact rfl; exact rfl; exact rfl; intro b4 w_b4 hb_b4 hs_b4 hS_b4 hk_b4; have hA_b4 := Bk.of hk_b4)
  (((refine jz (jjB (jjC ?_)))); refine jjY ?_; intro b5 w_b5 hb_b5 hs_b5 hS_b5 hk_b5; have hA_b5 := Bk.of hk_b5)
  (refine jz (jjB (jjC (jv ?_))))
  refine Ops.store rfl rfl rfl rfl rfl ?_
  intro w4 hp4
  have hS4 : Step w_b4 w4 := (hp4.ext hS_b5.ext (by omega)).toStep
  have z4 := hp4.size
  have hlt := hrow
  have e4 : Ext w1 w4 := (hS_b4.ext).trans hS4.ext
  have hE4 : Ext w w4 := inferInstance
  have hm4 : MapE (Value.int .i64) w4 kmb [] := hM1.ext e4
  have hK : KV ⟨b4, b1, b5, b3, kmb, a, c, d, C⟩ w4 := ⟨inferInstance, inferInstance, (Bk.of (cs := [.func (.func 86) #[] [.pointer (some ⟨b4, 0, none⟩), .pointer (some ⟨b1, 0, none⟩), .pointer (some ⟨b5, 0, none⟩), .pointer (some ⟨b3, 0, none⟩)].toArray]) hp4.new).toAt, inferInstance, hrow.h.ext hE4, ⟨[], hm4, fun n v hv => by simp [mget] at hv⟩⟩
  have hkmb : w.heap.size ≤ kmb := by have := (inferInstance : Ext w w_b3).size; omega
  have hkm4 : kmb < w4.heap.size := hm4.lt
  have hfrom : ∀ (m i : Nat) (w : World), d.length - i ≤ m → i < d.length → KV ⟨b4, b1, b5, b3, kmb, a, c, d, C⟩ w → Calls Tryz.prog 86 ([Value.int .i64 (i : Int)] ++ [Value.pointer (some ⟨b4, 0, none⟩), .pointer (some ⟨b1, 0, none⟩), .pointer (some ⟨b5, 0, none⟩), .pointer (some ⟨b3, 0, none⟩)]).toArray w fun e w' => ∃ v, e = .returned v ∧ (∃ a c, v = .slice a (pathK d C i).length c ∧ OwnL w' 0 3 false 1 (.slice a (pathK d C i).length c) ((pathK d C i).map intV)) ∧ Only kmb w w' ∧ KV ⟨b4, b1, b5, b3, kmb, a, c, d, C⟩ w' := from_rack ⟨b4, b1, b5, b3, kmb, a, c, d, C⟩ hb hd
  (refine jz (jjB (jjC ?_)))
  (refine jjP (v := .slice _ _ _) rfl (by exact rfl) (by exact rfl) (by exact rfl) (by exact rfl) ?_; intro b6 w_b6 hb_b6 hs_b6 hS_b6 hk_b6; have hR_b6 := RowV.one (agg := false) (k := 1) rfl hk_b6)
  have hO6 := OwnL.one (agg := false) (k := 1) (B := w4.heap.size) rfl (by omega) hk_b6
  (refine jJ (eS rfl) (jz (jjB (jjB (jjC (jN rfl rfl rfl ?_))))); refine jh rfl (jI (eI rfl) (jz (jjD ?_))))
  have hE6 : Ext w4 w_b6 := inferInstance
  refine W.keep0 [(3, .pointer (some ⟨b3, 0, none⟩)), (5, .pointer (some ⟨b5, 0, none⟩)), (6, .slice (some ⟨b6, 0, none⟩) 1 1), (12, .int .i64 ((d.length : Nat) : Int)), (13, .int .i64 ((0 : Nat) : Int))] ⟨eP rfl, eP rfl, eS rfl, eI rfl, eI rfl, trivial⟩ fun s0 => ?_
  refine W.loopG (14 :: 15 :: 7 :: 16 :: 17 :: 18 :: 19 :: 20 :: 21 :: 6 :: 22 :: 13 :: []) (fun g s' w' => ∃ (k : Nat) (v : Value) (rs : List Rw), s' 13 = .int .i64 ((k : Nat) : Int) ∧ s' 6 = v ∧ k ≤ d.length ∧ g = d.length - k ∧ rs.length ≤ k + 1 ∧ Only kmb w4 w' ∧ KV ⟨b4, b1, b5, b3, kmb, a, c, d, C⟩ w' ∧ OwnL w' w4.heap.size 50 false 1 v (rs.map encW) ∧ (∀ x ∈ rs, OwnL w' 0 3 false 1 (encW x) (x.2.2.map intV)) ∧ rs.map (·.2.2) = [] :: (upR 0 k).map (pathK d C)) d.length ⟨0, _, [(none, 0, [])], rfl, rfl, Nat.zero_le _, rfl, by simp, .ofExt hE6, hK.ext hE6, hO6, by intro x hx; simp at hx; subst hx; exact OwnL.nil _ _ _ _ _, by rw [upR_nil (Nat.le_refl _)]; rfl⟩ ?_
  rintro _ sd w' ⟨k, v, rs, h13, h6, hkn, rfl, hrl, hOn, hKk, hO, hRs, hrs⟩
  refine W.fix h13 (W.fix (d := 6) h6 ?_)
  clear h13 h6
  have z' := hOn.size
  have hff : At w' b5 0 [.func (.func 86) #[] [.pointer (some ⟨b4, 0, none⟩), .pointer (some ⟨b1, 0, none⟩), .pointer (some ⟨b5, 0, none⟩), .pointer (some ⟨b3, 0, none⟩)].toArray] := hKk.ff
  have hlg : At w' b3 0 [.func (.func 84) #[] #[]] := hKk.lg
  by_cases hkl : k < d.length
  · (refine jjB (jjC (jjZ rfl rfl (by omega) (jz (jjB (jjJ rfl ?_))))); refine jjG (jjB (jjD (jjB (jjC (jI (eI rfl) ?_))))); refine jJ (eI rfl) (jz (jjC (jI rfl (jN rfl rfl rfl (jI (eI rfl) ?_))))))
    refine Ops.callR rfl (Enters.h (P := Tryz.prog) (g := 86)) rfl (hfrom _ k _ (Nat.le_refl _) hkl hKk) ?_
    rintro _ w2 ⟨v2, rfl, ⟨a2, c2, rfl, hR2⟩, hOn2, hK2⟩
    refine ⟨_, rfl, ?_⟩
    (refine jjP (v := .slice _ _ _) rfl (by exact rfl) (by exact rfl) (by exact rfl) (by exact rfl) ?_; intro b8 w_b8 hb_b8 hs_b8 hS_b8 hk_b8; have hR_b8 := RowV.one (agg := false) (k := 1) rfl hk_b8)
    have z2 := hOn2.size
    have z8 := hS_b8.size
    obtain ⟨m1, hm1, _⟩ := hKk.km
    have hm1' : MapE (Value.int .i64) w' kmb m1 := hm1
    have hOr := hOn2.own hO hkm4
    refine Ops.appendL (hOr.ext hS_b8.ext) (by omega) hR_b8 rfl rfl rfl rfl rfl ?_ ?_ ?_
    · simp only [List.length_map, List.length_cons, List.length_nil]; omega
    · simp only [List.length_map, List.length_cons, List.length_nil]; omega
    intro v9 w9 hA9 hO9 _ _
    have hEA : Only kmb w4 w9 := (hOn.trans (hOn2.trans (.ofExt hS_b8.ext))).app hA9 (Nat.le_refl _)
    have hKb : v.ownBlock ≠ some kmb := fun e => by have := (hO.block _ e).1; omega
    have hrow9 : ∀ (x : Rw), OwnL w2 0 3 false 1 (encW x) (x.2.2.map intV) → OwnL w9 0 3 false 1 (encW x) (x.2.2.map intV) := fun x hx => (hx.ext hS_b8.ext).app hA9 ((hx.ext hS_b8.ext).ne (hOr.ext hS_b8.ext) (by decide))
    have hK9 : KV ⟨b4, b1, b5, b3, kmb, a, c, d, C⟩ w9 := hK.only hEA (by
      obtain ⟨m2, hm2, hok2⟩ := hK2.km
      refine ⟨m2, (hm2.ext hS_b8.ext).app hA9 hKb, fun n u hu => ?_⟩
      obtain ⟨k', h1, h2, a', c', h3, h4⟩ := hok2 n u hu
      exact ⟨k', h1, h2, a', c', h3, hrow9 (a', c', pathK d C k') h4⟩)
    (refine jJ rfl (jz (jjC (jY rfl rfl (by omega) (jI (eI rfl) (jz ?_))))))
    refine ⟨rfl, by (((iterate 14 refine Same.upd rfl ?_); exact Same.ovN)), d.length - (k + 1), by omega, k + 1, v9, rs ++ [(a2, c2, pathK d C k)], congrArg (Value.int .i64) (by omega), rfl, by omega, rfl, by rw [List.length_append]; simp only [List.length_cons, List.length_nil]; omega, hEA, hK9, by rw [List.map_append]; exact hO9, ?_, ?_⟩
    · intro x hx
      rcases List.mem_append.1 hx with hx | hx
      · exact hrow9 x (hOn2.own' (hRs x hx) ((hRs x hx).blockM hm1'))
      · have : x = (a2, c2, pathK d C k) := by simpa using hx
        subst this
        exact hrow9 (a2, c2, pathK d C k) hR2
    · rw [upR_snoc (Nat.zero_le _), List.map_append, List.map_append, hrs]; rfl
  · obtain rfl : k = d.length := by omega
    have hil : ∀ x ∈ rs, x.2.2.length ≤ 1000 := by
      intro x hx
      have h1 : x.2.2 ∈ rs.map (·.2.2) := List.mem_map.2 ⟨x, hx, rfl⟩
      rw [hrs, List.mem_cons] at h1
      rcases h1 with h1 | h1
      · rw [h1]; simp
      · obtain ⟨j, hj, h2⟩ := List.mem_map.1 h1
        have hj2 := (upR_mem.1 hj).2
        have h3 := pathK_len hb j hj2
        have h4 := hb.le j hj2
        rw [← h2]; omega
    have hne : rs ≠ [] := by rintro rfl; simp at hrs
    obtain ⟨av, cv, rfl⟩ := hO.slice
    rw [List.length_map] at hO
    rw [List.length_map]
    have i1 : RowI w' (.slice av rs.length cv) false 1 (rs.map encW) := ⟨hO.row⟩
    have i2 : RowsI w' rs := ⟨fun x hx => (hRs x hx).row⟩
    (refine jjB (jjC (jja rfl rfl (by omega) (jz (jjB (jjK rfl ?_))))); refine jjE (jjB (jjC (jI (eS rfl) (jN rfl rfl rfl ?_)))))
    refine jjQ (first_rack av cv rs _ (by omega) hne (fun x hx => by have := hil x hx; omega)) rfl rfl ?_
    rintro _ w3 hS3 ⟨x, hx, rfl, hxe⟩
    have hxl := hil x hx
    have hRx : RowI w3 (.slice x.1 x.2.2.length x.2.1) false 1 (x.2.2.map intV) := ⟨((hRs x hx).ext hS3.ext).row⟩
    have hke : x.2.2 = keepK d C := by rw [hxe, hrs]; rfl
    have hEw : Ext w w' := hOn.ext hE4 hkmb
    have hE3 := hEw.trans hS3.ext
    have z3 := hE3.size
    skip
    refine jjQ (Clone_int x.1 x.2.1 x.2.2 _ (by omega)) rfl rfl ?_
    intro v10 w10 hS10 hO10
    rw [hke] at hO10
    obtain ⟨a10, c10, rfl⟩ := OwnL.slice hO10
    rw [List.length_map] at hO10
    have hE10 := hE3.trans hS10.ext
    (refine jJ (eS rfl) (jz (jjF ?_)); refine jB rfl rfl ⟨inferInstance, ?_⟩)
    exact ⟨a10, c10, by rw [List.length_map]; exact rfl, hO10.mono z3⟩


theorem Only.thru {kb g : Nat} {w0 w w' : World} (h : Only kb w0 w) (o : Only g w w') (hg : w0.heap.size ≤ g) : Only kb w0 w' :=
  ⟨o.os.trans h.os, o.tape.trans h.tape, o.output.trans h.output, Nat.le_trans h.size o.size, fun k hk hne => (o.other k (by have := h.size; omega) (by omega)).trans (h.other k hk hne)⟩
abbrev NdK (m : List (Int × Value)) : Prop := (m.map (·.1)).Nodup
theorem mset_keys (m : List (Int × Value)) (k : Int) (v : Value) : ∀ x, x ∈ (mset m k v).map (·.1) → x = k ∨ x ∈ m.map (·.1) := by
  induction m with
  | nil => intro x hx; simp [mset] at hx; exact .inl hx
  | cons p m ih =>
    obtain ⟨y, u⟩ := p
    intro x hx
    rw [mset] at hx
    split at hx
    · subst_vars; exact .inr hx
    · simp only [List.map_cons, List.mem_cons] at hx ⊢
      rcases hx with hx | hx
      · exact .inr (.inl hx)
      · rcases ih x hx with h | h
        · exact .inl h
        · exact .inr (.inr h)
theorem NdK.set {m : List (Int × Value)} (h : NdK m) (k : Int) (v : Value) : NdK (mset m k v) := by
  induction m with
  | nil => simp [NdK, mset]
  | cons p m ih =>
    obtain ⟨y, u⟩ := p
    simp only [NdK, List.map_cons, List.nodup_cons] at h
    rw [mset]
    split
    · subst_vars; simp only [NdK, List.map_cons, List.nodup_cons]; exact h
    · simp only [NdK, List.map_cons, List.nodup_cons]
      refine ⟨fun hc => ?_, ih h.2⟩
      rcases mset_keys m k v y hc with e | e
      · rename_i hne; exact hne e.symm
      · exact h.1 e
theorem mget_no {m : List (Int × Value)} {k : Int} (h : k ∉ m.map (·.1)) : mget m k = none := by
  induction m with
  | nil => rfl
  | cons p m ih =>
    obtain ⟨y, u⟩ := p
    simp only [List.map_cons, List.mem_cons, not_or] at h
    rw [mget, if_neg h.1, ih h.2]
theorem NdK.del {m : List (Int × Value)} (h : NdK m) (k : Int) : NdK (mdel m k) ∧ (∀ x, x ∈ (mdel m k).map (·.1) → x ∈ m.map (·.1)) ∧ ∀ x, mget (mdel m k) x = if x = k then none else mget m x := by
  induction m with
  | nil => simp [NdK, mdel, mget]
  | cons p m ih =>
    obtain ⟨y, u⟩ := p
    simp only [NdK, List.map_cons, List.nodup_cons] at h
    obtain ⟨i1, i2, i3⟩ := ih h.2
    rw [mdel]
    split
    · subst_vars
      refine ⟨h.2, fun x hx => by simp only [List.map_cons, List.mem_cons]; exact .inr hx, fun x => ?_⟩
      rw [mget]
      by_cases e : x = y
      · subst e; rw [if_pos rfl, mget_no h.1]
      · rw [if_neg e, if_neg e]
    · rename_i hne
      refine ⟨?_, fun x hx => ?_, fun x => ?_⟩
      · simp only [NdK, List.map_cons, List.nodup_cons]
        exact ⟨fun hc => h.1 (i2 y hc), i1⟩
      · simp only [List.map_cons, List.mem_cons] at hx ⊢
        exact hx.imp id (i2 x)
      · rw [mget, mget, i3]
        by_cases e : x = y
        · subst e; rw [if_pos rfl, if_pos rfl, if_neg (fun h => hne h.symm)]
        · rw [if_neg e, if_neg e]
structure fallM (n : Nat) (S : List Int) (m : List (Int × Value)) : Prop where
  nd : NdK m
  get : ∀ x : Int, mget m x = if (0 ≤ x ∧ x < n) ∧ x ∉ S then some (.bool true) else none
theorem fallM.del {n : Nat} {S : List Int} {m : List (Int × Value)} (h : fallM n S m) (k : Int) : fallM n (k :: S) (mdel m k) := by
  obtain ⟨h1, _, h2⟩ := h.nd.del k
  refine ⟨h1, fun x => ?_⟩
  rw [h2, h.get]
  by_cases e : x = k
  · rw [if_pos e, if_neg (fun c => c.2 (by rw [e]; exact List.mem_cons_self))]
  · rw [if_neg e]
    congr 1
    simp [e]
theorem fallM.set {i : Nat} {m : List (Int × Value)} (h : fallM i [] m) : fallM (i + 1) [] (mset m (i : Int) (.bool true)) := by
  refine ⟨h.nd.set _ _, fun x => ?_⟩
  by_cases e : x = (i : Int)
  · subst e
    rw [mget_set_same, if_pos ⟨by omega, by simp⟩]
  · rw [mget_set_other _ _ e, h.get]
    by_cases c : 0 ≤ x ∧ x < (i : Int)
    · rw [if_pos ⟨c, by simp⟩, if_pos ⟨by omega, by simp⟩]
    · rw [if_neg (fun h => c h.1), if_neg (fun h => c (by omega))]

set_option maxHeartbeats 1000000 in
theorem Mend1_rack (b5 b1 b11 mb : Nat) (a : Option Addr) (c : Nat) (d S : List Int) (i k : Nat) (m : List (Int × Value)) (w : World) [h5 : At w b5 0 [.map (some mb)]] [h1 : At w b1 0 [.slice a d.length c]] [h11 : At w b11 0 [.int .i64 (i : Int)]] (hm : MapE (Value.int .i64) w mb m) (hf : fallM d.length S m) (hi : i < d.length) (hk : k < d.length) [hrow : RowI w (.slice a d.length c) false 1 (d.map intV)] :
    Ct Tryz.prog 48 [.int .i64 (k : Int), .pointer (some ⟨b5, 0, none⟩), .pointer (some ⟨b1, 0, none⟩), .pointer (some ⟨b11, 0, none⟩)] w fun v _ => v = .bool (pM d S i (k : Int)) := by
  refine Ct.ofW (by simp) ?_
  have g1 : gd d k = d[k] := gd_lt hk
  have g2 : gd d i = d[i] := gd_lt hi
  have hz := hrow.h.place' (map_get hk)
  obtain ⟨p1, o1, e1, hA1⟩ := hz
  subst e1
  have hz := hrow.h.place' (map_get hi)
  obtain ⟨p2, o2, e2, hA2⟩ := hz
  cases e2
  rw [Nat.mul_one] at hA1 hA2
  (refine jjB (jjC (jJ (eB rfl) (jz (jjB ?_)))))
  refine W.draw (fun w' => Ext w w') ?_
  intro w1 hS1
  refine jjV [0, 1] (by decide +kernel) hS1.ext ?_
  (((apply jjT; exact rfl; rintro w' hq; have := hq.toStep; refine jN rfl rfl rfl (jz ?_); exact ⟨rfl, rfl⟩; refine jjT rfl (fun _ _ => jI (eI rfl) (jz ⟨rfl, rfl⟩)) (jjU ?_))))
  by_cases hS : (k : Int) ∈ S
  · have hv : mget m (k : Int) = none := by rw [hf.get, if_neg (fun h => h.2 hS)]
    refine jjV [2] (by decide +kernel) hS1.ext ?_
    apply jjT
    · exact rfl
    · intro wq hq
      refine Ops.lookup (hm.ext hq) rfl rfl ?_
      rw [hv]
      refine jz ?_
      exact ⟨rfl, rfl⟩
    refine jjU ?_
    refine jjV [3, 4, 5, 6, 7, 8, 9, 10, 11, 12, 13, 14, 15] (by decide +kernel) hS1.ext ?_
    (((refine jjT rfl (fun _ _ => jq rfl (jz ⟨rfl, rfl⟩)) (jjT rfl (fun _ _ => jI (eB rfl) (jz ⟨rfl, rfl⟩)) ?_); apply jjT; exact rfl; rintro w' hq; have := hq.toStep; refine jT rfl rfl rfl (jN rfl rfl rfl (jz ?_)); exact ⟨rfl, rfl⟩; refine jjT rfl (fun _ _ => jT rfl rfl rfl (jI (eI rfl) (jz ⟨rfl, rfl⟩))) ?_; apply jjT; exact rfl; rintro w' hq; have := hq.toStep; refine jT rfl rfl rfl (jG rfl rfl rfl (by omega) (jz ?_)); exact ⟨rfl, rfl⟩; apply jjT; exact rfl; rintro w' hq; have := hq.toStep; refine jT rfl rfl rfl (jQ rfl rfl (jz ?_)); exact ⟨rfl, rfl⟩; apply jjT; exact rfl; rintro w' hq; have := hq.toStep; refine jT rfl rfl rfl (jN rfl rfl rfl (jz ?_)); exact ⟨rfl, rfl⟩; apply jjT; exact rfl; rintro w' hq; have := hq.toStep; refine jT rfl rfl rfl (jN rfl rfl rfl (jz ?_)); exact ⟨rfl, rfl⟩; apply jjT; exact rfl; rintro w' hq; have := hq.toStep; refine jT rfl rfl rfl (jG rfl rfl rfl (by omega) (jz ?_)); exact ⟨rfl, rfl⟩; apply jjT; exact rfl; rintro w' hq; have := hq.toStep; refine jT rfl rfl rfl (jQ rfl rfl (jz ?_)); exact ⟨rfl, rfl⟩; refine jjT rfl (fun _ _ => jT rfl rfl rfl (je rfl rfl (jz ⟨rfl, rfl⟩))) (jjT rfl (fun _ _ => jK rfl (eB rfl) (jz ⟨rfl, rfl⟩)) (jjT rfl (fun _ _ => jJ (eB rfl) (jz ⟨rfl, rfl⟩)) (jjU ?_))))))
    refine jjX (by decide +kernel) hS1.ext ?_
    (refine jjF ?_; refine jB rfl rfl ⟨inferInstance, ?_⟩)
    exact congrArg Value.bool (by rw [pM, decide_eq_true hS, Bool.true_and, Int.toNat_natCast, g1, g2])
  · have hv : mget m (k : Int) = some (.bool true) := by rw [hf.get, if_pos ⟨by omega, hS⟩]
    refine jjV [2] (by decide +kernel) hS1.ext ?_
    apply jjT
    · exact rfl
    · intro wq hq
      refine Ops.lookup (hm.ext hq) rfl rfl ?_
      rw [hv]
      refine jz ?_
      exact ⟨rfl, rfl⟩
    refine jjU ?_
    refine jjV [3, 4, 5, 6, 7, 8, 9, 10, 11, 12, 13, 14, 15] (by decide +kernel) hS1.ext ?_
    (((refine jjT rfl (fun _ _ => jp rfl (jz ⟨rfl, rfl⟩)) (jjT rfl (fun _ _ => jI (eB rfl) (jz ⟨rfl, rfl⟩)) (jjT rfl (fun _ _ => jU rfl rfl rfl rfl (jz ⟨rfl, rfl⟩)) (jjT rfl (fun _ _ => jU rfl rfl rfl rfl (jz ⟨rfl, rfl⟩)) (jjT rfl (fun _ _ => jU rfl rfl rfl rfl (jz ⟨rfl, rfl⟩)) (jjT rfl (fun _ _ => jU rfl rfl rfl rfl (jz ⟨rfl, rfl⟩)) ?_))))); refine jjT rfl (fun _ _ => jU rfl rfl rfl rfl (jz ⟨rfl, rfl⟩)) (jjT rfl (fun _ _ => jU rfl rfl rfl rfl (jz ⟨rfl, rfl⟩)) (jjT rfl (fun _ _ => jU rfl rfl rfl rfl (jz ⟨rfl, rfl⟩)) (jjT rfl (fun _ _ => jU rfl rfl rfl rfl (jz ⟨rfl, rfl⟩)) (jjT rfl (fun _ _ => jU rfl rfl rfl rfl (jz ⟨rfl, rfl⟩)) (jjT rfl (fun _ _ => jL rfl (eB rfl) (jz ⟨rfl, rfl⟩)) ?_))))); refine jjT rfl (fun _ _ => jJ (eB rfl) (jz ⟨rfl, rfl⟩)) (jjU ?_))))
    refine jjX (by decide +kernel) hS1.ext ?_
    (refine jjF ?_; refine jB rfl rfl ⟨inferInstance, ?_⟩)
    exact congrArg Value.bool (by simp [pM, hS])

def MendR (d : List Int) (v : Value) (w' : World) : Prop := ∃ (l : List (Int × Int)) (e : Int) (a : Option Addr) (c : Nat), v = .tuple #[.slice a l.length c, .int .i64 e] ∧ RowV w' true 2 (.slice a l.length c) (l.map encII) ∧
  ((deckB d = false ∧ l = [] ∧ e = 60) ∨ (deckB d = true ∧ e = 0 ∧ ∃ C, BegR d C ∧ l = (mendF d (keepK d C) d.length).2.2))
theorem keepK_mem {d C : List Int} (h : BegR d C) : ∀ x ∈ keepK d C, 0 ≤ x ∧ x < d.length := by
  have hp : ∀ (m i : Nat), d.length - i = m → i < d.length → ∀ x ∈ pathK d C i, 0 ≤ x ∧ x < d.length := by
    intro m
    induction m using Nat.strongRecOn with
    | ind m ih =>
      intro i hm hi x hx
      rw [pathK_eq hi, List.mem_cons] at hx
      rcases hx with rfl | hx
      · omega
      · cases hk : nextK d C i with
        | none => rw [hk] at hx; simp at hx
        | some k =>
          rw [hk] at hx
          have h1 := nextK_some hk
          exact ih (d.length - k) (by omega) k rfl h1.2.1 x hx
  intro x hx
  rw [keepK_rest h, restK] at hx
  cases hf : (upR 0 d.length).find? (nxB d C none (maxC C)) with
  | none => rw [hf] at hx; simp at hx
  | some k =>
    rw [hf] at hx
    have := upR_mem.1 (List.mem_of_find?_eq_some hf)
    exact hp _ k rfl this.2 x hx

set_option maxHeartbeats 8000000 in
theorem Mend_rack (a : Option Addr) (c : Nat) (d : List Int) (w : World) [hrow : RowI w (.slice a d.length c) false 1 (d.map intV)] (hl : d.length ≤ 1000000) :
    Ct Tryz.prog 13 [.slice a d.length c] w fun v w' => MendR d v w' := by
  refine Ct.ofW (by simp) ?_
  (refine jjB (jjC ?_))
  (refine jy rfl ?_; intro b1 w_b1 hb_b1 hs_b1 hS_b1 hk_b1; have hA_b1 := At.ofBlock hk_b1)
  (refine jJ (eS rfl) (jJ (eI rfl) (jz (jjB (jjB (jjC ?_))))); refine jN rfl rfl rfl ?_)
  refine jjQ (Check_rack a c d _ hl) rfl rfl ?_
  rintro _ w2 hS2 rfl
  cases hd : deckB d
  · (refine jJ (eI rfl) (jz (jjB (jjC (jI (eI rfl) (jc rfl rfl ?_))))); refine jz (jjJ rfl (jjB (jjC (jI (eI rfl) (jJ (eS rfl) ?_))))); refine jJ (eI rfl) (jz (jjF ?_)); refine jC rfl rfl rfl ⟨inferInstance, ?_⟩)
    exact ⟨[], 60, none, 0, rfl, RowV.nilS _ _ _ _ _, .inl ⟨hd, rfl, rfl⟩⟩
  have hd60 := deckB_len hd
  obtain ⟨C, hC⟩ := beg_exists d
  (refine jJ (eI rfl) (jz (jjB (jjC (jI (eI rfl) (jc rfl rfl ?_))))); refine jz (jjK rfl (jjG (jjB (jjC ?_)))))
  refine Ops.makeMap (Value.int .i64) ?_
  intro mb w3 hmb hs3 hS3 hM3
  skip
  (apply jjR rfl; (intro _; first|exact eI rfl|exact eB rfl|exact eP rfl|exact eS rfl|exact eT rfl|exact eA rfl|exact eU rfl|exact eF rfl|exact eM rfl|exact eN rfl|exact rfl); exact rfl; exact rfl; exact rfl; exact rfl; intro b5 w_b5 hb_b5 hs_b5 hS_b5 hk_b5; have hA_b5 := Bk.of hk_b5)
  (refine jz (jjB (jjC (jJ (eS rfl) (jz (jjB ?_))))); refine jjB (jjC (jN rfl rfl rfl (jh rfl (jI (eI rfl) (jz ?_))))); refine jjD ?_)
  have hE5 : Ext w w_b5 := inferInstance
  have hM5 : MapE (Value.int .i64) w_b5 mb [] := hM3.ext inferInstance
  have z5 := hE5.size
  have zmb : w.heap.size ≤ mb := by have := (inferInstance : Ext w w2).size; omega
  have hA1 : At w_b5 b1 0 [.slice a d.length c] := inferInstance
  have hA5 : At w_b5 b5 0 [.map (some mb)] := inferInstance
  have hn1 : b1 ≠ mb := hA1.ne_map hM5 (by simp)
  have hn5 : b5 ≠ mb := hA5.ne_map hM5 (by simp)
  have lmb := hM5.lt
  have hr5 : RowV w_b5 false 1 (.slice a d.length c) (d.map intV) := hrow.h.ext hE5
  refine W.keep0 [(1, .pointer (some ⟨b1, 0, none⟩)), (5, .pointer (some ⟨b5, 0, none⟩)), (6, .slice none 0 0), (21, .int .i64 ((d.length : Nat) : Int)), (22, .int .i64 ((0 : Nat) : Int))] ⟨eP rfl, eP rfl, eS rfl, eI rfl, eI rfl, trivial⟩ fun s0 => ?_
  refine W.loopG (23 :: 24 :: 7 :: 25 :: 26 :: 27 :: 28 :: 29 :: 30 :: 6 :: 31 :: 22 :: []) (fun g s' V => ∃ (i : Nat) (v : Value) (m : List (Int × Value)), s' 22 = .int .i64 ((i : Nat) : Int) ∧ s' 6 = v ∧ g = d.length - i ∧ i ≤ d.length ∧ Only mb w_b5 V ∧ MapE (Value.int .i64) V mb m ∧ fallM i [] m ∧ OwnL V w_b5.heap.size 3 false 1 v ((upN i).map intV)) d.length ⟨0, _, [], rfl, rfl, rfl, Nat.zero_le _, .ofExt (.refl _), hM5, ⟨List.Pairwise.nil, fun x => by rw [if_neg (by omega)]; rfl⟩, OwnL.nil _ _ _ _ _⟩ ?_
  rintro _ sd V ⟨i, v, m, h22, h6, rfl, hi, hOn, hM, hF, hO⟩
  refine W.fix h22 (W.fix (d := 6) h6 ?_)
  clear h22 h6
  have zV := hOn.size
  have hB5 := hOn.at_ hA5 hn5
  have hB1 := hOn.at_ hA1 hn1
  by_cases hid : i < d.length
  · (refine jjB (jjC (jjZ rfl rfl (by omega) (jz (jjB (jjJ rfl ?_))))); refine jjG (jjB (jjD (jjB (jjC (jI (eI rfl) ?_))))); refine jJ (eI rfl) (jz (jjB (jjC (jN rfl rfl rfl (jI (eI rfl) ?_))))))
    refine Ops.mapUpdate (k := (i : Int)) hM rfl rfl rfl ?_
    intro w6 o6 hp6 hM6
    have z6 := hp6.size
    (refine jz (jjC (jI rfl (jI (eI rfl) ?_))))
    (refine jjP (v := .int _ _) rfl (by exact rfl) (by exact rfl) (by exact rfl) (by exact rfl) ?_; intro b7 w_b7 hb_b7 hs_b7 hS_b7 hk_b7; have hR_b7 := RowV.one (agg := false) (k := 1) rfl hk_b7)
    have z7 := hS_b7.size
    have hOn6 := (hOn.trans (.ofPut hp6)).trans (.ofExt hS_b7.ext)
    have hO6 := ((Only.ofPut hp6).own' hO (hO.blockM hM)).ext hS_b7.ext
    have hM7 := hM6.ext hS_b7.ext
    refine Ops.appendL hO6 (by omega) hR_b7 rfl rfl rfl rfl (one_int _) ?_ ?_ ?_
    · simp only [List.length_map, upN_len, List.length_cons, List.length_nil]; omega
    · simp only [List.length_map, upN_len, List.length_cons, List.length_nil]; omega
    intro v8 w8 hA8 hO8 _ _
    (refine jJ rfl (jz (jjC (jY rfl rfl (by omega) (jI (eI rfl) (jz ?_))))))
    refine ⟨rfl, by (((iterate 14 refine Same.upd rfl ?_); exact Same.ovN)), d.length - (i + 1), by omega, i + 1, v8, _, congrArg (Value.int .i64) (by omega), rfl, rfl, by omega, hOn6.app hA8 (Nat.le_refl _), hM7.app hA8 (hO6.blockM hM7), hF.set, ?_⟩
    rw [upN_succ, List.map_append]; exact hO8
  obtain rfl : i = d.length := by omega
  clear hid hi
  obtain ⟨lv, lc, e⟩ := hO.slice
  rw [List.length_map, upN_len] at e
  subst e
  have hRV : RowI V (.slice a d.length c) false 1 (d.map intV) := ⟨hOn.rowM hM5 hr5⟩
  (refine jjB (jjC (jja rfl rfl (by omega) (jz (jjB (jjK rfl ?_))))); refine jjE (jjB (jjB (jjC (jN rfl rfl rfl ?_)))))
  refine jjQ (keep_rack a c d C _ hC (by omega)) rfl rfl ?_
  rintro _ w9 hS9 ⟨ka, kc, rfl, hOk⟩
  have z9 := hS9.size
  have hKm := keepK_mem hC
  generalize hKe : keepK d C = K at *
  have hKl := hOk.len
  rw [List.length_map] at hKl
  (refine jh rfl (jI (eI rfl) (jz (jjD ?_))))
  have hOn9 := hOn.trans (.ofExt hS9.ext)
  refine W.keep0 [(1, .pointer (some ⟨b1, 0, none⟩)), (5, .pointer (some ⟨b5, 0, none⟩)), (6, .slice lv d.length lc), (33, .slice ka K.length kc), (34, .int .i64 ((K.length : Nat) : Int)), (35, .int .i64 ((0 : Nat) : Int))] ⟨eP rfl, eP rfl, eS rfl, eS rfl, eI rfl, eI rfl, trivial⟩ fun s1 => ?_
  refine W.loopG (36 :: 37 :: 38 :: 9 :: 39 :: 40 :: 41 :: 35 :: []) (fun g s' V' => ∃ (k : Nat) (m : List (Int × Value)) (S : List Int), s' 35 = .int .i64 ((k : Nat) : Int) ∧ g = K.length - k ∧ k ≤ K.length ∧ Only mb w_b5 V' ∧ MapE (Value.int .i64) V' mb m ∧ (∀ x, x ∈ S ↔ x ∈ K.take k) ∧ fallM d.length S m ∧ OwnL V' w_b5.heap.size 3 false 1 (.slice lv d.length lc) ((upN d.length).map intV) ∧ OwnL V' 0 3 false 1 (.slice ka K.length kc) (K.map intV)) K.length ⟨0, m, [], rfl, rfl, Nat.zero_le _, hOn9, hM.ext hS9.ext, by simp, hF, hO.ext hS9.ext, hOk.mono (Nat.zero_le _)⟩ ?_
  clear hOn9 hM hF hO hOk hOn hRV hB5 hB1 z9 hS9 zV
  rintro _ sd2 V2 ⟨k, m2, S, h35, rfl, hk, hOn, hM, hS, hF, hO, hOk⟩
  refine W.fix h35 ?_
  clear h35
  have zV := hOn.size
  have hB5 := hOn.at_ hA5 hn5
  have hB1 := hOn.at_ hA1 hn1
  by_cases hkl : k < K.length
  · have hgk := List.getElem?_eq_getElem hkl
    have hRK : RowI V2 (.slice ka K.length kc) false 1 (K.map intV) := ⟨hOk.row⟩
    (refine jjB (jjC (jjZ rfl rfl (by omega) (jz (jjB (jjJ rfl ?_))))); refine jjG (jjB (jjD (jjB (jjC ?_)))); refine jF rfl rfl rfl (map_get (by omega)) ?_; intro _ _ _; refine jQ rfl rfl (jJ (eI rfl) (jz (jjC (jN rfl rfl rfl (jI (eI rfl) ?_))))))
    refine Ops.deleteN (k := K[k]) hM rfl rfl ?_
    intro w6 o6 hp6 hM6
    (refine jz (jjC (jY rfl rfl (by omega) (jI (eI rfl) (jz ?_)))))
    refine ⟨rfl, by (((iterate 9 refine Same.upd rfl ?_); exact Same.ovN)), K.length - (k + 1), by omega, k + 1, _, K[k] :: S, congrArg (Value.int .i64) (by omega), rfl, by omega, hOn.trans (.ofPut hp6), hM6, fun x => ?_, hF.del _, (Only.ofPut hp6).own' hO (hO.blockM hM), (Only.ofPut hp6).own' hOk (hOk.blockM hM)⟩
    rw [take_snoc_get hgk, List.mem_cons, List.mem_append, List.mem_singleton, hS]
    exact Or.comm
  obtain rfl : k = K.length := by omega
  rw [List.take_length] at hS
  have hFK : fallM d.length K m2 := ⟨hF.nd, fun x => by simp only [hF.get, hS]⟩
  clear hF hS S hOk hk hkl
  (refine jjB (jjC (jja rfl rfl (by omega) (jz (jjB (jjK rfl ?_))))); refine jjE (jjB (jjC (jJ (eS rfl) (jz (jjB ?_))))); refine jjB (jjC (jN rfl rfl rfl (jh rfl (jI (eI rfl) (jz ?_))))); refine jjD ?_)
  refine W.keep0 [(1, .pointer (some ⟨b1, 0, none⟩)), (5, .pointer (some ⟨b5, 0, none⟩)), (6, .slice lv d.length lc), (10, .slice none 0 0), (43, .int .i64 ((d.length : Nat) : Int)), (44, .int .i64 ((0 : Nat) : Int))] ⟨eP rfl, eP rfl, eS rfl, eS rfl, eI rfl, eI rfl, trivial⟩ fun s2 => ?_
  refine W.loopG (45 :: 46 :: 11 :: 47 :: 48 :: 49 :: 50 :: 51 :: 52 :: 53 :: 12 :: 54 :: 55 :: 56 :: 57 :: 58 :: 6 :: 59 :: 60 :: 61 :: 13 :: 62 :: 63 :: 64 :: 65 :: 66 :: 67 :: 68 :: 69 :: 70 :: 71 :: 72 :: 73 :: 74 :: 75 :: 76 :: 77 :: 78 :: 10 :: 79 :: 44 :: []) (fun g s' V' => ∃ (i : Nat) (m : List (Int × Value)) (ov : Value), s' 44 = .int .i64 ((i : Nat) : Int) ∧ s' 6 = .slice lv d.length lc ∧ s' 10 = ov ∧ g = d.length - i ∧ i ≤ d.length ∧ Only mb w_b5 V' ∧ MapE (Value.int .i64) V' mb m ∧ fallM d.length (mendF d K i).2.1 m ∧ OwnL V' w_b5.heap.size 3 false 1 (.slice lv d.length lc) ((mendF d K i).1.map intV) ∧ OwnL V' w_b5.heap.size 116 true 2 ov ((mendF d K i).2.2.map encII)) d.length ⟨0, m2, _, rfl, rfl, rfl, rfl, Nat.zero_le _, hOn, hM, hFK, hO, OwnL.nil _ _ _ _ _⟩ ?_
  clear hOn hM hFK hO hB5 hB1 zV
  rintro _ sd3 V3 ⟨i, m3, ov, h44, h6, h10, rfl, hi, hOn, hM, hF, hO, hOo⟩
  refine W.fix h44 (W.fix (d := 6) h6 (W.fix (d := 10) h10 ?_))
  clear h44 h6 h10
  have zV := hOn.size
  have hB5 := hOn.at_ hA5 hn5
  have hB1 := hOn.at_ hA1 hn1
  have hRV : RowI V3 (.slice a d.length c) false 1 (d.map intV) := ⟨hOn.rowM hM5 hr5⟩
  have hperm := mendF_perm d K i hi
  have hout := mendF_out d K i
  have hLl : (mendF d K i).1.length = d.length := by rw [hperm.length_eq, upN_len]
  by_cases hid : i < d.length
  · have hsucc := mendF_succ d K i
    generalize hst : mendF d K i = st at *
    obtain ⟨L, S, out⟩ := st
    simp only at hF hO hOo hperm hout hLl
    (refine jjB (jjC (jjZ rfl rfl (by omega) (jz (jjB (jjJ rfl ?_))))); refine jjG (jjB (jjD (jjB (jjC (jI (eI rfl) ?_))))))
    (apply jjR rfl; (intro _; first|exact eI rfl|exact eB rfl|exact eP rfl|exact eS rfl|exact eT rfl|exact eA rfl|exact eU rfl|exact eF rfl|exact eM rfl|exact eN rfl|exact rfl); exact rfl; exact rfl; exact rfl; exact rfl; intro b11 w_b11 hb_b11 hs_b11 hS_b11 hk_b11; have hA_b11 := Bk.of hk_b11)
    (refine jz (jjB (jjB (jjC (jN rfl rfl rfl (jN rfl rfl rfl ?_))))))
    refine Ops.lookup (hM.ext inferInstance) rfl rfl ?_
    by_cases hiS : (i : Int) ∈ S
    · have hv : mget m3 (i : Int) = none := by rw [hF.get, if_neg (fun h => h.2 hiS)]
      have hnx : mendF d K (i + 1) = (L, S, out) := by rw [hsucc, mendS, if_pos hiS]
      rw [hv]
      (refine jq rfl (jz (jjJ rfl (jjE (jjC (jY rfl rfl (by omega) ?_))))); refine jI (eI rfl) (jz ?_))
      refine ⟨rfl, by (((iterate 12 refine Same.upd rfl ?_); exact Same.ovN)), d.length - (i + 1), by omega, i + 1, m3, ov, congrArg (Value.int .i64) (by omega), rfl, rfl, rfl, by omega, hOn.trans (.ofExt hS_b11.ext), hM.ext hS_b11.ext, ?_, ?_, ?_⟩
      · rw [hnx]; exact hF
      · rw [hnx]; exact hO.ext hS_b11.ext
      · rw [hnx]; exact hOo.ext hS_b11.ext
    · have hv : mget m3 (i : Int) = some (.bool true) := by rw [hF.get, if_pos ⟨by omega, hiS⟩]
      rw [hv]
      have hmem : (i : Int) ∈ L := by rw [hperm.mem_iff, upN_mem]; omega
      have hfx := idxOf_facts hmem
      generalize hfe : L.idxOf (i : Int) = f at *
      obtain ⟨hfl, hfg, hff⟩ := hfx
      obtain ⟨g, rfl, hg5, hOg⟩ := hO.self (by rw [List.length_map]; omega)
      have hgl := (hOg.block g rfl).2
      have hrl : (L.eraseIdx f).length = d.length - 1 := by rw [List.length_eraseIdx, if_pos hfl, hLl]
      have hrm : ∀ x ∈ L.eraseIdx f, 0 ≤ x ∧ x < d.length := fun x hx => by
        have : x ∈ L := List.mem_of_mem_eraseIdx hx
        rw [hperm.mem_iff, upN_mem] at this; exact this
      have htl := toM_le d S (L.eraseIdx f) i
      have htd : toM d S (L.eraseIdx f) i = if idxV (pM d S i) (L.eraseIdx f) < 0 then (L.eraseIdx f).length else (idxV (pM d S i) (L.eraseIdx f)).toNat := rfl
      have hnx : mendF d K (i + 1) = (mvF L f (toM d S (L.eraseIdx f) i), (i : Int) :: S, out ++ [((f : Int), ((toM d S (L.eraseIdx f) i : Nat) : Int))]) := by rw [hsucc, mendS, if_neg hiS, hfe]
      have hmv0 : mvF L f (toM d S (L.eraseIdx f) i) = (L.eraseIdx f).take (toM d S (L.eraseIdx f) i) ++ (i : Int) :: (L.eraseIdx f).drop (toM d S (L.eraseIdx f) i) := by
        have hx : L.getD f 0 = (i : Int) := by simp [List.getD_eq_getElem?_getD, hfg]
        rw [mvF, hx]
      generalize toM d S (L.eraseIdx f) i = t at *
      have hmv : mvF L f t = (L.eraseIdx f).take t ++ (i : Int) :: (L.eraseIdx f).drop t := hmv0
      have hcap : d.length ≤ lc := by obtain ⟨cs, _, _, h, _⟩ := hOg.cells; exact h
      have hdl : d.length - 1 + 1 = d.length := by omega
      have i1 : RowI w_b11 (.slice (some ⟨g, 0, none⟩) L.length lc) false 1 (L.map intV) := ⟨by rw [hLl]; exact (hO.ext hS_b11.ext).row⟩
      have hIx := Index_int (some ⟨g, 0, none⟩) lc L (i : Int) w_b11 (by omega) hfg hff
      rw [hLl] at hIx
      clear i1
      have hgm : mb ≠ g := fun e => hOg.blockM hM (by rw [e]; rfl)
      have hgo : ov.ownBlock ≠ some g := fun e => (hO.ne hOo (by decide)) g rfl e
      (refine jp rfl (jz (jjK rfl (jjG (jjB (jjC ?_))))); refine jI (eS rfl) (jN rfl rfl rfl ?_))
      refine jjQ hIx rfl rfl ?_
      rintro _ w12 hS12 rfl
      (refine jJ (eI rfl) (jz (jjB (jjC (jI (eS rfl) (jI (eI rfl) ?_))))); refine jI (eI rfl) (jY rfl rfl (by omega) ?_))
      have hE12 : Ext V3 w12 := hS_b11.ext.trans hS12.ext
      have z12 := hE12.size
      refine Ops.callR rfl (Enters.h (P := Tryz.prog) (g := 46)) rfl (Delete_int g d.length lc f L w12 (hO.ext hE12) (by omega) (by omega)) ?_
      rintro _ w13 ⟨rfl, hO13, hD13⟩
      refine ⟨_, rfl, ?_⟩
      have hOn13 : Only mb w_b5 w13 := (hOn.trans (.ofExt hE12)).thru hO13 hg5
      have hM13 : MapE (Value.int .i64) w13 mb m3 := hO13.map (hM.ext hE12) hgm
      have hOo13 : OwnL w13 w_b5.heap.size 116 true 2 ov (out.map encII) := hO13.own' (hOo.ext hE12) hgo
      have hB513 := hOn13.at_ hA5 hn5
      have hB113 := hOn13.at_ hA1 hn1
      have z13 := hO13.size
      have hB1113 : At w13 b11 0 [.int .i64 (i : Int)] := hO13.at_ ((hA_b11.toAt).ext hS12.ext) (by omega)
      have hRV13 : RowV w13 false 1 (.slice a d.length c) (d.map intV) := hOn13.rowM hM5 hr5
      (refine jJ (eS rfl) (jz (jjB (jjC (jI (eS rfl) (jv ?_))))))
      refine jjQ (IndexFunc_int _ _ (.func (.func 48) #[] [.pointer (some ⟨b5, 0, none⟩), .pointer (some ⟨b1, 0, none⟩), .pointer (some ⟨b11, 0, none⟩)].toArray) intV (L.eraseIdx f) (pM d S i) (by have := hD13.row; exact this) ⟨_, _, rfl, inferInstance, fun w' x hx hs => ?_⟩) rfl rfl ?_
      · obtain ⟨xn, rfl⟩ : ∃ xn : Nat, x = xn := ⟨x.toNat, by have := hrm x hx; omega⟩
        have j5 := hB513.ext hs
        have j1 := hB113.ext hs
        have j11 := hB1113.ext hs
        have jr := RowI.mk (hRV13.ext hs)
        exact Mend1_rack b5 b1 b11 mb a c d S i xn m3 w' (hM13.ext hs) hF hid (by have := hrm _ hx; omega)
      rintro _ w15 hS15 rfl
      have hOn15 := hOn13.trans (.ofExt hS15.ext)
      have hM15 := hM13.ext hS15.ext
      have hOo15 := hOo13.ext hS15.ext
      have hD15 := hD13.ext hS15.ext
      have hB1115 := hB1113.ext hS15.ext
      have hB515 := hB513.ext hS15.ext
      have z15 := hS15.size
      generalize idxV (pM d S i) (L.eraseIdx f) = Z at *
      by_cases hZ : Z < 0
      · rw [if_pos hZ, hrl] at htd
        subst htd
        (refine jJ (eI rfl) (jz (jjB (jjB (jjC (jI (eI rfl) ?_))))); refine jjZ rfl rfl (by omega) (jz (jjJ rfl (jjC (jI (eS rfl) (jh rfl ?_))))); refine jJ (eI rfl) (jz (jjB (jjC (jI (eS rfl) (jI (eI rfl) ?_))))); refine jN rfl rfl rfl ?_)
        (refine jjP (v := .int _ _) rfl (by exact rfl) (by exact rfl) (by exact rfl) (by exact rfl) ?_; intro b14 w_b14 hb_b14 hs_b14 hS_b14 hk_b14; have hR_b14 := RowV.one (agg := false) (k := 1) rfl hk_b14)
        have z14 := hS_b14.size
        have hI := Insert_int g b14 (d.length - 1) lc (d.length - 1) (L.eraseIdx f) (i : Int) w_b14 (hD15.ext hS_b14.ext) ⟨hk_b14⟩ (by omega) (by omega) (by omega) (by omega)
        rw [hdl, ← hmv] at hI
        skip
        refine Ops.callR rfl (Enters.h (P := Tryz.prog) (g := 49)) rfl hI ?_
        rintro _ w16 ⟨rfl, hO16, hD16⟩
        refine ⟨_, rfl, ?_⟩
        have hOn16 : Only mb w_b5 w16 := (hOn15.trans (.ofExt hS_b14.ext)).thru hO16 (by omega)
        have hM16 : MapE (Value.int .i64) w16 mb m3 := hO16.map (hM15.ext hS_b14.ext) hgm
        have hOo16 : OwnL w16 w_b5.heap.size 116 true 2 ov (out.map encII) := hO16.own' (hOo15.ext hS_b14.ext) hgo
        have hB516 := hOn16.at_ hA5 hn5
        have hB116 : At w16 b11 0 [.int .i64 (i : Int)] := hO16.at_ (hB1115.ext hS_b14.ext) (by omega)
        (refine jJ (eS rfl) (jz (jjB (jjC (jN rfl rfl rfl (jN rfl rfl rfl ?_))))))
        refine Ops.deleteN (k := (i : Int)) hM16 rfl rfl ?_
        intro w17 o17 hp17 hM17
        have hOn17 := hOn16.trans (.ofPut hp17)
        have hO17 := (Only.ofPut hp17).own' hD16 (hD16.blockM hM16)
        have hOo17 := (Only.ofPut hp17).own' hOo16 (hOo16.blockM hM16)
        have z17 := hOn17.size
        (refine jz (jjC (jI rfl (jI (eI rfl) (jI (eI rfl) ?_)))))
        (refine jjS (cells := [.int .i64 ((f : Nat) : Int), .int .i64 ((d.length - 1 : Nat) : Int)]) ?_ ?_; exact rfl)
        (refine jjP (v := .agg _) rfl (by exact rfl) (by exact rfl) (by exact rfl) (by exact rfl) ?_; intro b18 w_b18 hb_b18 hs_b18 hS_b18 hk_b18; have hR_b18 := RowV.one (agg := true) (k := 2) rfl hk_b18)
        have z18 := hS_b18.size
        have hO18 := hO17.ext hS_b18.ext
        have hM18 := hM17.ext hS_b18.ext
        refine Ops.appendL (hOo17.ext hS_b18.ext) (by omega) hR_b18 rfl rfl rfl rfl rfl ?_ ?_ ?_
        · simp only [List.length_map, List.length_cons, List.length_nil]; omega
        · simp only [List.length_map, List.length_cons, List.length_nil]; omega
        intro v19 w19 hA19 hO19 _ _
        (refine jJ rfl (jz (jjC (jY rfl rfl (by omega) (jI (eI rfl) (jz ?_))))))
        refine ⟨rfl, by (((iterate 46 refine Same.upd rfl ?_); exact Same.ovN)), d.length - (i + 1), by omega, i + 1, _, v19, congrArg (Value.int .i64) (by omega), rfl, rfl, rfl, by omega, (hOn17.trans (.ofExt hS_b18.ext)).app hA19 (Nat.le_refl _), hM18.app hA19 ((hOo17.ext hS_b18.ext).blockM hM18), ?_, ?_, ?_⟩
        · rw [hnx]; exact hF.del _
        · rw [hnx]; exact hO18.app hA19 (hO18.ne (hOo17.ext hS_b18.ext) (by decide))
        · rw [hnx, List.map_append]; exact hO19
      · rw [if_neg hZ] at htd
        obtain ⟨Zn, rfl⟩ : ∃ Zn : Nat, Z = Zn := ⟨Z.toNat, by omega⟩
        rw [Int.toNat_natCast] at htd
        subst htd
        (refine jJ (eI rfl) (jz (jjB (jjB (jjC (jI (eI rfl) ?_))))); refine jja rfl rfl (by omega) (jz (jjK rfl (jjG (jjB (jjC ?_))))); refine jI (eS rfl) (jI (eI rfl) (jN rfl rfl rfl ?_)))
        (refine jjP (v := .int _ _) rfl (by exact rfl) (by exact rfl) (by exact rfl) (by exact rfl) ?_; intro b14 w_b14 hb_b14 hs_b14 hS_b14 hk_b14; have hR_b14 := RowV.one (agg := false) (k := 1) rfl hk_b14)
        have z14 := hS_b14.size
        have hI := Insert_int g b14 (d.length - 1) lc t (L.eraseIdx f) (i : Int) w_b14 (hD15.ext hS_b14.ext) ⟨hk_b14⟩ (by omega) (by omega) (by omega) (by omega)
        rw [hdl, ← hmv] at hI
        skip
        refine Ops.callR rfl (Enters.h (P := Tryz.prog) (g := 49)) rfl hI ?_
        rintro _ w16 ⟨rfl, hO16, hD16⟩
        refine ⟨_, rfl, ?_⟩
        have hOn16 : Only mb w_b5 w16 := (hOn15.trans (.ofExt hS_b14.ext)).thru hO16 (by omega)
        have hM16 : MapE (Value.int .i64) w16 mb m3 := hO16.map (hM15.ext hS_b14.ext) hgm
        have hOo16 : OwnL w16 w_b5.heap.size 116 true 2 ov (out.map encII) := hO16.own' (hOo15.ext hS_b14.ext) hgo
        have hB516 := hOn16.at_ hA5 hn5
        have hB116 : At w16 b11 0 [.int .i64 (i : Int)] := hO16.at_ (hB1115.ext hS_b14.ext) (by omega)
        (refine jJ (eS rfl) (jz (jjB (jjC (jN rfl rfl rfl (jN rfl rfl rfl ?_))))))
        refine Ops.deleteN (k := (i : Int)) hM16 rfl rfl ?_
        intro w17 o17 hp17 hM17
        have hOn17 := hOn16.trans (.ofPut hp17)
        have hO17 := (Only.ofPut hp17).own' hD16 (hD16.blockM hM16)
        have hOo17 := (Only.ofPut hp17).own' hOo16 (hOo16.blockM hM16)
        have z17 := hOn17.size
        (refine jz (jjC (jI rfl (jI (eI rfl) (jI (eI rfl) ?_)))))
        (refine jjS (cells := [.int .i64 ((f : Nat) : Int), .int .i64 ((t : Nat) : Int)]) ?_ ?_; exact rfl)
        (refine jjP (v := .agg _) rfl (by exact rfl) (by exact rfl) (by exact rfl) (by exact rfl) ?_; intro b18 w_b18 hb_b18 hs_b18 hS_b18 hk_b18; have hR_b18 := RowV.one (agg := true) (k := 2) rfl hk_b18)
        have z18 := hS_b18.size
        have hO18 := hO17.ext hS_b18.ext
        have hM18 := hM17.ext hS_b18.ext
        refine Ops.appendL (hOo17.ext hS_b18.ext) (by omega) hR_b18 rfl rfl rfl rfl rfl ?_ ?_ ?_
        · simp only [List.length_map, List.length_cons, List.length_nil]; omega
        · simp only [List.length_map, List.length_cons, List.length_nil]; omega
        intro v19 w19 hA19 hO19 _ _
        (refine jJ rfl (jz (jjC (jY rfl rfl (by omega) (jI (eI rfl) (jz ?_))))))
        refine ⟨rfl, by (((iterate 43 refine Same.upd rfl ?_); exact Same.ovN)), d.length - (i + 1), by omega, i + 1, _, v19, congrArg (Value.int .i64) (by omega), rfl, rfl, rfl, by omega, (hOn17.trans (.ofExt hS_b18.ext)).app hA19 (Nat.le_refl _), hM18.app hA19 ((hOo17.ext hS_b18.ext).blockM hM18), ?_, ?_, ?_⟩
        · rw [hnx]; exact hF.del _
        · rw [hnx]; exact hO18.app hA19 (hO18.ne (hOo17.ext hS_b18.ext) (by decide))
        · rw [hnx, List.map_append]; exact hO19
  · obtain rfl : i = d.length := by omega
    obtain ⟨oa, oc, rfl⟩ := hOo.slice
    rw [List.length_map]
    rw [List.length_map] at hOo
    have hEw : Ext w V3 := hOn.ext hE5 zmb
    (refine jjB (jjC (jja rfl rfl (by omega) (jz (jjB (jjK rfl ?_))))); refine jjE (jjB (jjC (jI (eS rfl) (jJ (eS rfl) (jJ (eI rfl) ?_))))); refine jz (jjF ?_); refine jC rfl rfl rfl ⟨inferInstance, ?_⟩)
    exact ⟨_, 0, oa, oc, rfl, hOo.row, .inr ⟨hd, rfl, C, hC, by rw [hKe]⟩⟩

section
variable (b : Nat) (w : World) (h : RowV w false 1 (.slice (some ⟨b, 0, none⟩) 4 4) (exD.map intV))
include h
end
section
variable (b : Nat) (w : World) (h : RowV w true 6 (.slice (some ⟨b, 0, none⟩) 4 4) (exS.map encSl)) [hgb : At w 0 0 bysC] [hmx : MxI w]
include h
end

set_option maxHeartbeats 2000000 in
theorem SameSl_yes (a1 a2 : Option Addr) (c1 c2 : Nat) (l : List Slp) (w : World) (hl : l.length ≤ 1000000) [h1 : RowI w (.slice a1 l.length c1) true 6 (l.map encSl)] [h2 : RowI w (.slice a2 l.length c2) true 6 (l.map encSl)] :
    Ct Tryz.prog 17 [.slice a1 l.length c1, .slice a2 l.length c2] w fun v _ => v = .bool true := by
  refine Ct.ofW (by simp) ?_
  (refine jjB (jjC (jJ (eB rfl) (jz (jjB (jjB ?_))))); refine jjC (jI (eS rfl) (jh rfl (jI (eS rfl) (jh rfl (jjk rfl rfl (by omega) ?_))))); refine jz (jjK rfl (jjG (jjB (jjB (jjC ?_))))); refine jJ (eI rfl) (jz (jjD ?_)))
  refine W.loop (11 :: 12 :: 13 :: 14 :: 17 :: 18 :: 19 :: 20 :: 21 :: 22 :: 23 :: 24 :: 25 :: 4 :: 15 :: 16 :: 5 :: []) (fun g s' V => ∃ k : Nat, s' 5 = .int .i64 ((k : Nat) : Int) ∧ g = l.length - k ∧ k ≤ l.length) l.length ⟨0, rfl, rfl, Nat.zero_le _⟩ ?_
  rintro _ sd w1 hS1 ⟨k, h5, rfl, hk⟩
  refine W.fix h5 ?_
  clear h5
  by_cases k1 : k < l.length
  · (refine jjB (jjB (jjC (jI (eI rfl) (jI (eS rfl) (jh rfl ?_))))); refine jjZ rfl rfl (by omega) (jz (jjJ rfl (jjG (jjB (jjD ?_))))); refine jjB ?_)
    refine W.draw (fun w' => Ext w1 w') ?_
    intro w2 hS2
    have hz := (h1.h.ext hS1.ext).place' (map_get k1)
    obtain ⟨q1, o1, rfl, hA1⟩ := hz
    have hz := (h2.h.ext hS1.ext).place' (map_get k1)
    obtain ⟨q2, o2, rfl, hA2⟩ := hz
    refine jjV [0, 1, 2, 3, 4, 5, 6, 7] (by decide +kernel) hS2.ext ?_
    (((refine jjT rfl (fun _ _ => jI (eS rfl) (jz ⟨rfl, rfl⟩)) (jjT rfl (fun _ _ => jI (eI rfl) (jz ⟨rfl, rfl⟩)) ?_); apply jjT; exact rfl; rintro w' hq; have := hq.toStep; refine jH _ rfl rfl rfl (by omega) (jz ?_); exact ⟨rfl, rfl⟩; apply jjT; exact rfl; rintro w' hq; have := hq.toStep; refine jQ rfl rfl (jz ?_); exact ⟨rfl, rfl⟩; refine jjT rfl (fun _ _ => jI (eS rfl) (jz ⟨rfl, rfl⟩)) (jjT rfl (fun _ _ => jI (eI rfl) (jz ⟨rfl, rfl⟩)) ?_); apply jjT; exact rfl; rintro w' hq; have := hq.toStep; refine jH _ rfl rfl rfl (by omega) (jz ?_); exact ⟨rfl, rfl⟩; apply jjT; exact rfl; rintro w' hq; have := hq.toStep; refine jQ rfl rfl (jz ?_); exact ⟨rfl, rfl⟩; refine jjU ?_)))
    apply jjW 8 (by decide +kernel) rfl hS2.ext
    refine Ops.neqTN (enc := encSl) l[k] rfl rfl ?_
    refine jz ?_
    refine jjX (by decide +kernel) hS2.ext ?_
    (refine jjK rfl (jjG (jjC (jI (eI rfl) (jY rfl rfl (by omega) (jJ (eI rfl) ?_))))); refine jz ?_)
    exact ⟨rfl, by (((iterate 17 refine Same.upd rfl ?_); exact Same.ovN)), l.length - (k + 1), by omega, hS1.ext.trans hS2.ext, k + 1, congrArg (Value.int .i64) (by omega), rfl, by omega⟩
  · (refine jjB (jjB (jjC (jI (eI rfl) (jI (eS rfl) (jh rfl ?_))))); refine jja rfl rfl (by omega) (jz (jjK rfl (jjE (jjB (jjC ?_))))); refine jJ (eB rfl) (jz (jjF ?_)); refine jB rfl rfl ⟨inferInstance, ?_⟩)
    exact rfl
end Go.Proofs.YtgnkloloehlfnaaGreatDoor

namespace Go.Proofs.YtgnkloloehlfnaaGreatDoor
open Go Go.RowKit

def Rw' {α : Type} : Result α → World
  | .ok _ w => w
  | .halt _ w => w
theorem ask_drawn {α : Type} (m : Ask α) : ∀ (w : World), w.drawn ≤ (w.ask m).2.drawn := by
  induction m with
  | done a => intro w; exact Nat.le_refl _
  | ask what range k ih =>
    intro w
    simp only [World.ask]
    split
    · exact ih _ w
    · exact Nat.le_trans (Nat.le_succ _) (ih ((Question.extern what range).cut (w.tape w.drawn (Question.extern what range))) { w with drawn := w.drawn + 1 })
theorem sys_drawn (w : World) (c : Sys) : w.drawn ≤ (w.sys c).2.drawn := by
  unfold World.sys
  have := ask_drawn (Kernel.perform c w.os) w
  split
  · exact Nat.le_refl _
  · rename_i h; rw [h] at this; exact this
theorem view_drawn {P : Program} {w w' : World} {x : Addr} {y : TypeId} {a : Addr} {v : Value} {t : Bool} {l : List Addr} (h : World.viewStore P w x y a v t = .ok (w', l)) : w'.drawn = w.drawn := by
  unfold World.viewStore at h
  simp only [bind, Except.bind, pure, Except.pure] at h
  (repeat' split at h) <;> simp_all
  obtain ⟨h1, _⟩ := h
  rw [← h1]
theorem far_drawn {P : Program} {w w' : World} {a : Addr} {v : Value} {t : Bool} {l : List Addr} (h : w.farStore P a v t = .ok (w', l)) : w'.drawn = w.drawn := by
  unfold World.farStore at h
  (repeat' split at h) <;> simp_all
  rename_i h1
  exact view_drawn h1
theorem frz_drawn (w : World) (a : Addr) (n : Nat) : (w.freeze a n).drawn = w.drawn := by unfold World.freeze; (repeat' split) <;> rfl
theorem runT_drawn {α : Type} {P : Program} (m : Sem α) : ∀ (w : World) (es : Array Event), w.drawn ≤ (Rw' (m.runT P w es).1).drawn := by
  induction m with
  | pure a => intro w es; exact Nat.le_refl _
  | load m a k ih => intro w es; simp only [Sem.runT]; (repeat' split) <;> first | exact ih _ _ _ | exact Nat.le_refl _
  | store m a v k ih =>
    intro w es
    cases v <;> simp only [Sem.runT] <;> (repeat' split) <;> first
      | exact Nat.le_refl _
      | exact ih (w.setCell a _) _
      | (rename_i hf; have := far_drawn hf; rw [← this]; exact ih _ _)
  | new o k ih => intro w es; exact ih w.heap.size { w with heap := w.heap.push o } es
  | shape r k ih => intro w es; exact ih _ _ _
  | freeze a n k ih => intro w es; have := ih (w.freeze a n) es; rw [frz_drawn] at this; exact this
  | frozen a k ih => intro w es; exact ih _ _ _
  | getObj r k ih => intro w es; simp only [Sem.runT]; (repeat' split) <;> first | exact ih _ _ _ | exact Nat.le_refl _
  | setObj r o k ih => intro w es; simp only [Sem.runT]; (repeat' split) <;> first | exact ih { w with heap := w.heap.setIfInBounds r o } _ | exact Nat.le_refl _
  | choose q k ih =>
    intro w es
    simp only [Sem.runT]
    split
    · exact ih _ _ _
    · exact Nat.le_trans (Nat.le_succ _) (ih (q.cut (w.tape w.drawn q)) { w with drawn := w.drawn + 1 } es)
  | sys c k ih => intro w es; exact Nat.le_trans (sys_drawn w c) (ih _ _ _)
  | program k ih => intro w es; exact ih _ _ _
  | mark m k ih => intro w es; exact ih _ _
  | halt h => intro w es; exact Nat.le_refl _
theorem run_drawn {α : Type} {P : Program} (m : Sem α) : ∀ (w : World), w.drawn ≤ (Rw' (m.run P w)).drawn := by
  induction m with
  | pure a => intro w; exact Nat.le_refl _
  | load m a k ih => intro w; simp only [Sem.run]; (repeat' split) <;> first | exact ih _ _ | exact Nat.le_refl _
  | store m a v k ih =>
    intro w
    cases v <;> simp only [Sem.run] <;> (repeat' split) <;> first
      | exact Nat.le_refl _
      | exact ih (w.setCell a _)
      | (rename_i hf; have := far_drawn hf; rw [← this]; exact ih _)
  | new o k ih => intro w; exact ih w.heap.size { w with heap := w.heap.push o }
  | shape r k ih => intro w; exact ih _ _
  | freeze a n k ih => intro w; have := ih (w.freeze a n); rw [frz_drawn] at this; exact this
  | frozen a k ih => intro w; exact ih _ _
  | getObj r k ih => intro w; simp only [Sem.run]; (repeat' split) <;> first | exact ih _ _ | exact Nat.le_refl _
  | setObj r o k ih => intro w; simp only [Sem.run]; (repeat' split) <;> first | exact ih { w with heap := w.heap.setIfInBounds r o } | exact Nat.le_refl _
  | choose q k ih =>
    intro w
    simp only [Sem.run]
    split
    · exact ih _ _
    · exact Nat.le_trans (Nat.le_succ _) (ih (q.cut (w.tape w.drawn q)) { w with drawn := w.drawn + 1 })
  | sys c k ih => intro w; exact Nat.le_trans (sys_drawn w c) (ih _ _)
  | program k ih => intro w; exact ih _ _
  | mark m k ih => intro w; exact ih _
  | halt h => intro w; exact Nat.le_refl _

theorem run_ok {α : Type} {P : Program} {m : Sem α} {w w' : World} {v : α} (h : m.run P w = .ok v w') : w.drawn ≤ w'.drawn := by
  have := run_drawn (P := P) m w
  rwa [h] at this
theorem run_halt {α : Type} {P : Program} {m : Sem α} {w w' : World} {e : Halt} (h : m.run P w = .halt e w') : w.drawn ≤ w'.drawn := by
  have := run_drawn (P := P) m w
  rwa [h] at this
theorem runT_eq {α : Type} {P : Program} {m : Sem α} {w : World} {es es' : Array Event} {r : Result α} (h : m.runT P w es = (r, es')) : w.drawn ≤ (Rw' r).drawn := by
  have := runT_drawn (P := P) m w es
  rwa [h] at this
def GOk (n : Nat) : GStep → Prop
  | .go _ w _ | .comm _ _ _ _ w _ | .spawn _ _ w _ | .count _ w _ | .timer _ _ w _ | .alone _ _ w _ | .newcoro _ _ _ w _ | .coroswitch _ _ _ w _ | .collect _ w _ | .watch _ w _ => n ≤ w.drawn
  | .ended .. => True
theorem GOk.after {n : Nat} {es : Array Event} {s : GStep} (h : GOk n s) : GOk n (GStep.after es s) := by cases s <;> exact h
theorem GOk.le {n m : Nat} {s : GStep} (h : GOk n s) (hm : m ≤ n) : GOk m s := by cases s <;> first | exact Nat.le_trans hm h | trivial
theorem endWith_ok (w : World) (fd : Nat) (t : ByteArray) (o : Outcome) (n : Nat) : GOk n (endWith w fd t o) := by
  unfold endWith
  dsimp only
  (repeat' split) <;> trivial
theorem endThrow_ok (fr : Frame) (m : String) (w : World) : GOk w.drawn (endThrow fr m w) := Nat.le_refl _
theorem endPrinting_ok (p : Program) (fr : Frame) (v : Value) (w : World) : GOk w.drawn (endPrinting p fr v w) := by
  unfold endPrinting
  dsimp only
  split
  · exact Nat.le_refl _
  · trivial
theorem endFatal_ok (p : Program) (fr : Frame) (cs : List Frame) (dy : Option Dying) (m : String) (w : World) : GOk w.drawn (endFatal p fr cs dy m w) := by
  unfold endFatal
  dsimp only
  split
  · rename_i h
    exact run_ok h
  · trivial
  · trivial
theorem writeOn_ok (p : Program) (fr : Frame) (d : Dying) (f : Fatal) (w : World) : GOk w.drawn (writeOn p fr d f w) := by
  unfold writeOn
  dsimp only
  split
  · trivial
  · rename_i piece rest _
    split
    · rename_i h
      exact runT_eq h
    · rename_i h
      exact runT_eq h
    · trivial
    · trivial
theorem die_ok (p : Program) (fr : Frame) (d : Dying) (w : World) : GOk w.drawn (die p fr d w) := by
  unfold die
  dsimp only
  split
  · exact writeOn_ok _ _ _ _ _
  · split
    · split
      · exact Nat.le_refl _
      · exact endWith_ok _ _ _ _ _
    · split
      · exact Nat.le_refl _
      · split
        · rename_i h; exact run_ok h
        · trivial
      · rename_i t recv name _
        have hr := runT_drawn (P := p) (invoke (.fn (.method name) #[]) #[.iface t recv]) w #[]
        generalize (invoke (.fn (.method name) #[]) #[.iface t recv]).runT p w #[] = x at *
        obtain ⟨r, es⟩ := x
        refine GOk.after ?_
        dsimp only at hr ⊢
        split
        · exact hr
        · exact hr
        · trivial
        · exact GOk.le (endPrinting_ok _ _ _ _) hr
        · trivial
      · trivial
theorem doReturn_ok (p : Program) (main : Bool) (fr : Frame) (cs : List Frame) (dy : Option Dying) (v : Value) (w : World) : GOk w.drawn (doReturn p main fr cs dy v w) := by
  unfold doReturn
  (repeat' split) <;> first | exact Nat.le_refl _ | trivial
theorem callDeferred_ok (p : Program) (fr : Frame) (cs : List Frame) (dy : Option Dying) (d : Deferred) (w : World) : GOk w.drawn (callDeferred p fr cs dy d w) := by
  unfold callDeferred
  have hr := runT_drawn (P := p) (invoke d.target d.args) w #[]
  generalize (invoke d.target d.args).runT p w #[] = x at *
  obtain ⟨r, es⟩ := x
  dsimp only at hr ⊢
  generalize hc : ((match d.target with | .nil => true | _ => false) && (match fr.mode with | .panicking _ => true | _ => false)) = c
  cases c with
  | true => trivial
  | false =>
    refine GOk.after ?_
    (repeat' split) <;> first | exact hr | trivial | exact GOk.le (endFatal_ok _ _ _ _ _ _) hr | exact GOk.le (endThrow_ok _ _ _) hr
theorem unwind_ok (p : Program) (main : Bool) (fr : Frame) (cs : List Frame) (dy : Option Dying) (w : World) : GOk w.drawn (unwind p main fr cs dy w) := by
  unfold unwind
  split
  · rename_i block _ ds _
    have hr := runT_drawn (P := p) (Instr.takeDeferred block) w #[]
    generalize (Instr.takeDeferred block).runT p w #[] = x at *
    obtain ⟨r, es⟩ := x
    dsimp only at hr ⊢
    refine GOk.after ?_
    split <;> first | exact hr | trivial
  · exact callDeferred_ok _ _ _ _ _ _
  · split
    · trivial
    · split
      · trivial
      · split
        · exact Nat.le_refl _
        · split
          · split
            · exact Nat.le_refl _
            · split
              · rename_i h; exact run_ok h
              · trivial
              · trivial
          · split
            · exact endPrinting_ok _ _ _ _
            · trivial
    · split
      · exact doReturn_ok _ _ _ _ _ _ _
      · rename_i fn _
        have hr := runT_drawn (P := p) (results fn fr.tmps) w #[]
        generalize (results fn fr.tmps).runT p w #[] = x at *
        obtain ⟨r, es⟩ := x
        dsimp only at hr ⊢
        refine GOk.after ?_
        split
        · exact GOk.le (doReturn_ok _ _ _ _ _ _ _) hr
        · trivial
        · trivial
theorem early_ok (p : Program) (fr : Frame) (cs : List Frame) (dy : Option Dying) (g : Nat) (w : World) : GOk w.drawn (early p fr cs dy g w) := by
  unfold early
  dsimp only
  (repeat' split) <;> first | exact Nat.le_refl _ | trivial | (have h1 := ‹Sem.run p (choose _) w = Result.ok _ _›; have h2 := run_ok h1; exact h2)
theorem apply_ok (p : Program) (li : Bool) (fr : Frame) (cs : List Frame) (dy : Option Dying) (s : Sem Next) (w : World) : GOk w.drawn (stepG.apply p li fr cs dy s w) := by
  unfold stepG.apply
  dsimp only
  have hr : w.drawn ≤ (Rw' (if li then s.runT p w #[] else (s.run p w, #[])).1).drawn := by
    split
    · exact runT_drawn s w #[]
    · exact run_drawn s w
  generalize (if li then s.runT p w #[] else (s.run p w, #[])) = x at *
  obtain ⟨r, es⟩ := x
  dsimp only at hr ⊢
  refine GOk.after ?_
  (repeat' split) <;> first | exact hr | trivial | exact GOk.le (endFatal_ok _ _ _ _ _ _) hr | exact GOk.le (endThrow_ok _ _ _) hr | exact GOk.le (early_ok _ _ _ _ _ _) hr
theorem oper_ok (p : Program) (li : Bool) (fr : Frame) (cs : List Frame) (dy : Option Dying) (w : World) : GOk w.drawn (stepG.oper p li fr cs dy w) := by
  unfold stepG.oper
  (repeat' split) <;> first | trivial | exact apply_ok _ _ _ _ _ _ _
theorem exec_ok (p : Program) (main li : Bool) (fr : Frame) (cs : List Frame) (dy : Option Dying) (w : World) : GOk w.drawn (stepG.exec p main li fr cs dy w) := by
  have hl : ∀ jump : Option Code, GOk w.drawn (match fr.roundOf with
      | none => if (match jump with | none | some .ret => true | _ => false) then GStep.go { frame := { fr with mode := .returning }, callers := cs, status := .running, dying := dy } w else .ended (.stuck "exit, goto: no such block or label" (fr.pos p)) w
      | some l =>
        let (r, es) := (Instr.endRound l jump).runT p w #[]
        GStep.after (seen p fr.fn es) <| match r with
        | .ok v w => doReturn p main fr cs dy v w
        | .halt _ w => .ended (.stuck "range over a function: no such loop" (fr.pos p)) w) := fun jump => by
    split
    · (repeat' split) <;> first | exact Nat.le_refl _ | trivial
    · rename_i l _
      have hr := runT_drawn (P := p) (Instr.endRound l jump) w #[]
      generalize (Instr.endRound l jump).runT p w #[] = x at *
      obtain ⟨r, es⟩ := x
      dsimp only at hr ⊢
      refine GOk.after ?_
      split
      · exact GOk.le (doReturn_ok _ _ _ _ _ _ _) hr
      · trivial
  unfold stepG.exec
  dsimp only
  split
  · exact hl none
  · exact hl (some .ret)
  · exact Nat.le_refl _
  · exact Nat.le_refl _
  · exact Nat.le_refl _
  · exact Nat.le_refl _
  · exact Nat.le_refl _
  · split
    · exact Nat.le_refl _
    · trivial
  · exact Nat.le_refl _
  · exact Nat.le_refl _
  · exact Nat.le_refl _
  · exact Nat.le_refl _
  · rename_i id k _
    cases exitTo id k with
    | none => exact hl (some (.exit id))
    | some _ => exact Nat.le_refl _
  · rename_i l k _
    cases gotoIn l k with
    | none => exact hl (some (.goto l))
    | some _ => exact Nat.le_refl _
  · rename_i f params assign body k _
    have hr := runT_drawn (P := p) (Instr.enterLoop fr.fn fr.tmps params assign body fr.roundOf) w #[]
    generalize (Instr.enterLoop fr.fn fr.tmps params assign body fr.roundOf).runT p w #[] = x at *
    obtain ⟨r, es⟩ := x
    dsimp only at hr ⊢
    refine GOk.after ?_
    split
    · exact GOk.le (apply_ok _ _ _ _ _ _ _) hr
    · trivial
  · trivial
  · exact apply_ok _ _ _ _ _ _ _
  · rename_i l k _
    have hr := runT_drawn (P := p) (Instr.endLoop l) w #[]
    generalize (Instr.endLoop l).runT p w #[] = x at *
    obtain ⟨r, es⟩ := x
    dsimp only at hr ⊢
    refine GOk.after ?_
    split
    · exact hr
    · exact hr
    · trivial
  · trivial
  · exact apply_ok _ _ _ _ _ _ _
  · rename_i row args _ _
    cases Extern.next row with
    | none => trivial
    | some e => exact apply_ok _ _ _ _ _ _ _
  · split
    · exact Nat.le_refl _
    · split
      · rename_i h; exact run_ok h
      · trivial
  · exact Nat.le_refl _
  · split
    · exact oper_ok _ _ _ _ _ _
    · exact Nat.le_refl _
theorem stepG_ok (p : Program) (main : Bool) (g : Goroutine) (w : World) (li : Bool) : GOk w.drawn (stepG p main g w li) := by
  unfold stepG
  dsimp only
  split
  · exact die_ok _ _ _ _
  · exact exec_ok _ _ _ _ _ _ _
  · exact unwind_ok _ _ _ _ _ _

def SOk (n : Nat) : Stepped → Prop
  | .next m => n ≤ m.world.drawn
  | .ended .. => True
theorem SOk.le {n m : Nat} {s : Stepped} (h : SOk n s) (hm : m ≤ n) : SOk m s := by cases s <;> first | exact Nat.le_trans hm h | trivial
theorem wait_ok {rest : Rest} {cases : Array CommCase} {w w' : World} (h : waitingAt rest cases w = some w') : w'.drawn = w.drawn := by
  unfold waitingAt at h
  (repeat' split at h) <;> first | cases h | skip
  all_goals first | rfl | (cases h; rfl)
theorem communicate_ok (p : Program) (rest : Rest) (gs : Array Goroutine) (i : Nat) (g : Goroutine) (cases : Array CommCase) (bl : Bool) (sh : CommShape) (w : World) : SOk w.drawn (communicate p rest gs i g cases bl sh w).1 := by
  unfold communicate
  dsimp only
  split
  · trivial
  · split
    · split
      · split
        · rename_i h; exact Nat.le_of_eq (wait_ok h).symm
        · trivial
      · exact Nat.le_refl _
    · split
      · trivial
      · rename_i h
        have h1 := run_ok h
        clear h
        split
        · split
          · rename_i h; exact Nat.le_trans h1 (run_halt h)
          · trivial
        · exact h1
        · exact h1
        · split
          · exact h1
          · split
            · rename_i h; have h2 := run_ok h; exact Nat.le_trans h1 h2
            · trivial
        · exact h1
        · exact h1
        · trivial
theorem look_ok (p : Program) (gs : Array Goroutine) (rest : Rest) (w : World) : SOk w.drawn (look p gs rest w) := by
  unfold look
  dsimp only
  split
  · split
    · trivial
    · split
      · trivial
      · split
        · rename_i h; have h1 := run_ok h; exact h1
        · trivial
        · trivial
  · trivial
theorem drain_ok (w : World) (c : Nat) : (drain w c).2.drawn = w.drawn := by
  unfold drain
  split <;> rfl
theorem retime_ok (m : Machine) (k : Nat) (t : Timer) (a b : Nat) : (retime m k t a b).2.world.drawn = m.world.drawn := by
  unfold retime
  dsimp only
  cases t.chan with
  | none => rfl
  | some c => exact drain_ok _ _
theorem named_ok {m : Machine} {var : Addr} {f : Nat → Timer → Value × Machine} {v : Value} {m' : Machine} {n : Nat} (hf : ∀ k t, (f k t).2.world.drawn = n) (h : timerOp.named m var f = .ok (v, m')) : m'.world.drawn = n := by
  unfold timerOp.named at h
  split at h
  · rename_i k _
    have := hf k (m.rest.timers.getD k default)
    simp only [Except.ok.injEq] at h
    rw [h] at this
    exact this
  · cases h
theorem opened_ok {m m' : Machine} {var : Addr} (h : timerOp.opened m var = some m') : m'.world.drawn = m.world.drawn := by
  unfold timerOp.opened at h
  (repeat' split at h) <;> first | (cases h; rfl) | cases h
theorem timerOp_ok {m m' : Machine} {op : TimerOp} {v : Value} (h : timerOp m op = .ok (v, m')) : m'.world.drawn = m.world.drawn := by
  cases op with
  | new t =>
    simp only [timerOp] at h
    (repeat' split at h) <;> first | (cases h; rfl) | cases h
  | stop var =>
    simp only [timerOp] at h
    exact named_ok (fun k t => retime_ok m k t 0 t.period) h
  | reset var a b =>
    simp only [timerOp] at h
    split at h
    · rename_i m1 h1
      rw [← opened_ok h1]
      exact named_ok (fun k t => retime_ok m1 k t a b) h
    · cases h
  | deadline ctx a b c =>
    simp only [timerOp] at h
    cases h
    rfl
theorem serve_ok (p : Program) (m : Machine) (k : Nat) : SOk m.world.drawn (serve p m k) := by
  unfold serve
  split
  · trivial
  · exact Nat.le_refl _
  · dsimp only
    split
    · trivial
    · exact Nat.le_refl _
theorem runT_ok (p : Program) (m : Machine) (i : Nat) (li : Bool) : SOk m.world.drawn (runT p m i li).1 := by
  unfold runT
  dsimp only
  generalize m.gs.swapAt! i { (default : Goroutine) with status := .finished } = x
  obtain ⟨g, gs⟩ := x
  dsimp only
  have hg := stepG_ok p (i == 0) g m.world li
  generalize stepG p (i == 0) g m.world li = s at *
  cases s with
  | ended o w es => trivial
  | comm g cases bl sh w es => exact SOk.le (communicate_ok _ _ _ _ _ _ _ _ _) hg
  | go g w es => exact hg
  | spawn g c w es => exact hg
  | count g w es =>
    dsimp only
    split
    · trivial
    · exact hg
  | alone g on w es => exact hg
  | collect g w es => exact SOk.le (look_ok _ _ _ _) hg
  | watch g w es => exact hg
  | newcoro g c d w es => exact hg
  | coroswitch g c ex w es =>
    dsimp only
    split
    · exact hg
    · exact hg
    · trivial
  | timer g op w es =>
    dsimp only
    split
    · rename_i h
      have h1 := timerOp_ok h
      exact Nat.le_trans hg (Nat.le_of_eq h1.symm)
    · exact hg
    · trivial
    · trivial

def MOk (n : Nat) : Move → Prop
  | .goroutine m _ => n ≤ m.world.drawn
  | .machine s _ => SOk n s
theorem MOk.le {n m : Nat} {s : Move} (h : MOk n s) (hm : m ≤ n) : MOk m s := by
  cases s with
  | goroutine m' i => exact Nat.le_trans hm h
  | machine s ops => exact SOk.le h hm
theorem askOn_ok (p : Program) (m : Machine) : MOk m.world.drawn (askOn p m) := by
  have hp : ∀ m : Machine, MOk m.world.drawn (
      match (choose (.sched (runnable m.gs m.world.os.mono).length)).run p m.world with
      | .halt _ w => .machine (.ended (.stuck "sched" "") w)
      | .ok k world => .goroutine m 0) := fun m => by
    split
    · trivial
    · exact Nat.le_refl _
  unfold askOn
  dsimp only
  split
  · trivial
  · rename_i h
    have h1 := run_ok h
    clear h
    split
    · exact SOk.le (serve_ok p _ _) h1
    · split
      · split
        · exact h1
        · split
          · exact h1
          · split <;> trivial
      · split
        · split
          · trivial
          · rename_i h; have h2 := run_ok h
            split
            · exact Nat.le_trans h1 h2
            · split
              · trivial
              · rename_i h; have h3 := run_ok h; exact Nat.le_trans h1 (Nat.le_trans h2 h3)
        · split
          · trivial
          · rename_i h
            have h2 := run_ok h
            clear h
            split
            · trivial
            · rename_i h; have h3 := run_ok h
              split
              · exact Nat.le_trans h1 (Nat.le_trans h2 h3)
              · split
                · trivial
                · rename_i h; have h4 := run_ok h; exact Nat.le_trans h1 (Nat.le_trans h2 (Nat.le_trans h3 h4))
          · rename_i h
            have h2 := run_ok h
            exact Nat.le_trans h1 h2
          · rename_i h
            have h2 := run_ok h
            clear h
            split
            · trivial
            · rename_i h; have h3 := run_ok h
              split
              · exact Nat.le_trans h1 (Nat.le_trans h2 h3)
              · split
                · trivial
                · rename_i h; have h4 := run_ok h; exact Nat.le_trans h1 (Nat.le_trans h2 (Nat.le_trans h3 h4))
theorem ask_ok (p : Program) (m : Machine) : MOk m.world.drawn (ask p m) := by
  unfold ask
  split
  · split
    · trivial
    · rename_i h
      have h1 := run_ok h
      split
      · rename_i h2
        have h3 := look_ok p m.gs m.rest ‹World›
        rw [h2] at h3
        exact MOk.le (askOn_ok _ _) (Nat.le_trans h1 h3)
      · exact SOk.le (look_ok _ _ _ _) h1
    · rename_i h
      have h1 := run_ok h
      exact MOk.le (askOn_ok _ _) h1
  · exact askOn_ok _ _
theorem move_ok (p : Program) (m : Machine) : MOk m.world.drawn (move p m) := by
  unfold move
  split
  · split
    · exact Nat.le_refl _
    · trivial
  · split
    · split
      · exact Nat.le_refl _
      · exact ask_ok p { m with rest := { m.rest with slice := none } }
    · exact ask_ok _ _
theorem step_ok (p : Program) (m : Machine) : SOk m.world.drawn (step p m) := by
  have := move_ok p m
  unfold step stepT
  split
  · rename_i h
    rw [h] at this
    exact SOk.le (runT_ok _ _ _ _) this
  · rename_i h
    rw [h] at this
    exact this
theorem runN_drawn {p : Program} : ∀ (n : Nat) {m m' : Machine}, runN p n m = .next m' → m.world.drawn ≤ m'.world.drawn
  | 0, m, m', h => by
    simp only [runN] at h
    cases h
    exact Nat.le_refl _
  | n + 1, m, m', h => by
    simp only [runN] at h
    have h1 := step_ok p m
    split at h
    · rename_i h2
      rw [h2] at h1
      exact Nat.le_trans h1 (runN_drawn n h)
    · rename_i h2
      exact absurd h (h2 _)
theorem steps_drawn {p : Program} {m m' : Machine} (h : Steps p m m') : m.world.drawn ≤ m'.world.drawn := by
  obtain ⟨n, h⟩ := h
  exact runN_drawn n h
theorem calls_drawn {P : Program} {f : FuncId} {args : Array Value} {w : World} {R : Ending → World → Prop} (h : Calls P f args w R) : Calls P f args w fun e w' => R e w' ∧ (e ≠ .outgrown → w.drawn ≤ w'.drawn) := fun cs => by
  obtain ⟨e, w', fr, hR, hC, hf, hl⟩ := h cs
  refine ⟨e, w', fr, ⟨hR, fun he => ?_⟩, hC, hf, hl⟩
  cases e with
  | returned v => exact steps_drawn hC
  | panicked c => exact steps_drawn hC
  | outgrown => exact absurd rfl he
end Go.Proofs.YtgnkloloehlfnaaGreatDoor
namespace Go.Proofs.YtgnkloloehlfnaaGreatDoor
open Go.RowKit

set_option maxHeartbeats 1000000 in
theorem by1_calls (x y : Slp) (w : World) (hmx : MxI w) (hx : GdS x) (hy : GdS y) : Calls Tryz.prog 193 [encSl x, encSl y].toArray w fun e w' => e = .returned (.int .i64 (cmpBy 1 x y)) ∧ Ext w w' := by
  refine Calls.ofW (by simp) ?_
  (refine jjB (jjC ?_))
  (refine jy rfl ?_; intro b3 w_b3 hb_b3 hs_b3 hS_b3 hk_b3; have hA_b3 := At.ofBlock hk_b3)
  (refine jy rfl ?_; intro b4 w_b4 hb_b4 hs_b4 hS_b4 hk_b4; have hA_b4 := At.ofBlock hk_b4)
  (refine jJ (eI rfl) (jz (jjB (jjC (jO rfl rfl rfl rfl (jO rfl rfl rfl rfl ?_))))))
  refine jjQ (Order_slip _ x y hx.2 hy.2) rfl rfl ?_
  rintro _ w6 hS6 rfl
  (refine jI (eU rfl) (ju rfl rfl (ju rfl rfl (jJ (eI rfl) (jJ (eI rfl) (jz ?_))))); refine jjB (jjC (jI (eI rfl) (jJ (eI rfl) (jz (jjF ?_))))))
  refine jB rfl rfl ⟨?_, inferInstance⟩
  show Ending.returned (Value.int .i64 (ordR x y).1) = _
  rw [show cmpBy 1 x y = ordS x y from rfl, show (ordR x y).1 = ordS x y by simp [ordR, hx.1, hy.1]]
theorem by1_slip : CmpQ 193 (cmpBy 1) := fun x y w hmx hx hy =>
  (calls_drawn (by1_calls x y w hmx hx hy)).mono fun e w' ⟨⟨h1, h2⟩, h3⟩ => ⟨h1, h2, h3 (by rw [h1]; exact fun h => by cases h)⟩

section
variable (w : World) [hgs : At w 1 0 sidesC]
end

theorem lt_mend {C : List Int} (h : BegR [2, 1] C) : ∃ m, (mendF [2, 1] (keepK [2, 1] C) 2).2.2 = [m] ∧ movedF 2 [m] = [1, 0] ∧ [m].any (mvBad 2) = false := by
  obtain rfl := h.uniq lt_beg
  exact ⟨(1, 0), by decide +kernel, by decide +kernel, by decide +kernel⟩
section
variable (b : Nat) (w : World) (h : RowV w false 1 (.slice (some ⟨b, 0, none⟩) 2 2) (([2, 1] : List Int).map intV))
include h
theorem lt_Mend : Ct Tryz.prog 13 [.slice (some ⟨b, 0, none⟩) 2 2] w fun v w' => ∃ a c m, v = .tuple #[.slice a 1 c, .int .i64 0] ∧ RowV w' true 2 (.slice a 1 c) (([m] : List (Int × Int)).map encII) ∧ movedF 2 [m] = [1, 0] ∧ [m].any (mvBad 2) = false := by
  have : RowI w (.slice (some ⟨b, 0, none⟩) ([2, 1] : List Int).length 2) false 1 (([2, 1] : List Int).map intV) := ⟨h⟩
  refine Ct.mono (Mend_rack (some ⟨b, 0, none⟩) 2 [2, 1] w (by decide)) fun v w' _ h => ?_
  obtain ⟨l, e, a, c, rfl, hR, ⟨h1, _⟩ | ⟨_, rfl, C, hC, hl⟩⟩ := h
  · rw [lt_deck] at h1; exact absurd h1 (by decide)
  · obtain ⟨m, h1, h2, h3⟩ := lt_mend hC
    have hl' : l = [m] := hl.trans h1
    subst hl'
    exact ⟨a, c, m, rfl, hR, h2, h3⟩
theorem lt_Moved (a : Option Addr) (c : Nat) (m : Int × Int) (hm : RowV w true 2 (.slice a 1 c) (([m] : List (Int × Int)).map encII)) (h2 : movedF 2 [m] = [1, 0]) (h3 : [m].any (mvBad 2) = false) : Ct Tryz.prog 14 [.slice (some ⟨b, 0, none⟩) 2 2, .slice a 1 c] w fun v w' => ∃ a c, v = .tuple #[.slice a 2 c, .int .i64 0] ∧ RowV w' false 1 (.slice a 2 c) (([1, 0] : List Int).map intV) := by
  have : RowI w (.slice (some ⟨b, 0, none⟩) ([2, 1] : List Int).length 2) false 1 (([2, 1] : List Int).map intV) := ⟨h⟩
  have : RowI w (.slice a ([m] : List (Int × Int)).length c) true 2 (([m] : List (Int × Int)).map encII) := ⟨hm⟩
  refine Ct.mono (Moved_rack (some ⟨b, 0, none⟩) a 2 c [2, 1] [m] w (by decide) (by simp)) fun v w' _ h => ?_
  obtain ⟨l, e, a', c', rfl, hR, ⟨h1, _⟩ | ⟨_, h1, _⟩ | ⟨_, _, h1, _⟩ | ⟨_, _, _, rfl, rfl⟩⟩ := h
  · rw [lt_deck] at h1; exact absurd h1 (by decide)
  · exact absurd h1 (by simp)
  · rw [show ([2, 1] : List Int).length = 2 from rfl, h3] at h1; exact absurd h1 (by decide)
  · rw [show movedF ([2, 1] : List Int).length [m] = [1, 0] from h2] at hR
    exact ⟨a', c', by rw [show movedF ([2, 1] : List Int).length [m] = [1, 0] from h2]; rfl, hR⟩
end
section
variable (b : Nat) (w : World) (h : RowV w true 6 (.slice (some ⟨b, 0, none⟩) 3 3) (ltS.map encSl)) [hgb : At w 0 0 bysC] [hmx : MxI w]
include h
theorem lt_File : Ct Tryz.prog 10 [.slice (some ⟨b, 0, none⟩) 3 3, .int .u8 1, .int .i64 2] w fun v w' => ∃ a c, v = .tuple #[.slice a 3 c, .int .i64 2, .int .i64 0] ∧ RowV w' true 6 (.slice a 3 c) ([l0, l1, l2].map encSl) := by
  have : RowI w (.slice (some ⟨b, 0, none⟩) ltS.length 3) true 6 (ltS.map encSl) := ⟨h⟩
  refine Ct.mono (File_rack (some ⟨b, 0, none⟩) 3 ltS 1 2 w (fun _ => by1_slip) ltS_small (by decide)) fun v w' _ h => ?_
  obtain ⟨p, a, c, hp, rfl, hO⟩ := h
  obtain rfl := ltS_pass hp
  have e3 : (fileL ltS 1 2).length = 3 := by rw [ltS_file]; rfl
  rw [ltS_err]
  rw [e3] at hO ⊢
  rw [ltS_file] at hO
  exact ⟨a, c, rfl, hO.row⟩
end
theorem lt_round {cs : List Ch} (hx : txF cs = lateT) : (lnK cs cs.length).length = 2 ∧ RoundOk (lnK cs cs.length).length [(1, 1, 1)] [] [] := by
  have h2 : (lnK cs cs.length).length = 2 := by
    rw [lnK_len (Nat.le_refl _), ← txF_len, hx, late_lines]; rfl
  refine ⟨h2, by omega, by decide, by decide, rfl, ?_, ?_, fun i h => absurd h (by simp), fun i h => absurd h (by simp), fun i h => absurd h (by simp), fun i h => absurd h (by simp)⟩
  · intro i h
    obtain rfl : i = 0 := by simpa using h
    simp
  · intro i h k hk
    have : i < 1 := h
    omega
section
variable (w : World) [hgs : At w 1 0 sidesC] [hgb : At w 0 0 bysC] [hmx : MxI w]
set_option maxHeartbeats 16000000 in
theorem alive_top06 : Ct Tryz.prog 4 [] w fun v _ => v = .bool true := by
  refine Ct.ofW (by simp) ?_
  (refine jjB (jjC (jJ (eB rfl) (jz (jjB (jjC ?_))))))
  refine jjQ (lateRound_top _) rfl rfl ?_
  rintro _ w1 hS1 ⟨a, c, cs, ha, hc, rfl, hR, hT, hH, hx⟩
  obtain ⟨hl2, hp⟩ := lt_round hx
  have i1 : RowI w1 (.slice a cs.length c) true 2 (cs.map encCh) := ⟨hR⟩
  have iH : RowI w1 (.slice ha ([(1, 1, 1)] : List Hp).length hc) true 3 (([(1, 1, 1)] : List Hp).map encHp) := ⟨hH⟩
  have hsm : SmallT cs := small_of_great (by rw [hx]; kernel_rfl)
  have htx : textB (txF cs) = true := by rw [hx]; exact late_valid
  skip
  refine jjQ (lateCut_top _) rfl rfl ?_
  rintro _ w2 hS2 rfl
  skip
  refine jjQ (Ct.mono (Doubt_hand a c cs ha hc [(1, 1, 1)] none 0 [] none 0 [] 12 1 _ (hss := ⟨RowV.nilS _ _ _ _ _⟩) (hxs := ⟨RowV.nilS _ _ _ _ _⟩) (hxi := ⟨fun x h => absurd h List.not_mem_nil, fun x h => absurd h List.not_mem_nil⟩) hsm htx (by omega) late_cut hp) (R' := fun v w' => ∃ (va : Option Addr) (vc : Nat), v = .tuple #[.slice va 3 vc, .int .i64 0] ∧ RowV w' true 6 (.slice va 3 vc) ([l0, l1, l2].map encSl)) fun v w' _ ⟨D, va, vc, hv, hRv, hD⟩ => by
    have e : doubtL (txF cs) 1 12 D (lnK cs cs.length).length = [l0, l1, l2] := by
      rw [hx, hl2]; exact late_doubt fun n hn => hD rfl n (by omega)
    rw [e] at hv hRv
    exact ⟨va, vc, hv, hRv⟩) rfl rfl ?_
  rintro _ w3 hS3 ⟨va, vc, rfl, hRv⟩
  have g : ∀ k (h : k < 3), ([l0, l1, l2].map encSl)[k]? = some (encSl ([l0, l1, l2][k]'h)) := fun k h => by rw [List.getElem?_map, List.getElem?_eq_getElem h]; rfl
  have g0 := g 0 (by omega)
  obtain ⟨vb, vo, rfl, -⟩ := hRv.place' g0
  have AV : ∀ k (h : k < 3) V, Ext w3 V → At V vb (vo + k * 6) (encSl ([l0, l1, l2][k]'h)).cells.toList := fun k h V hE => place_k (hRv.ext hE) (g k h)
  (refine jI (eU rfl) (ju rfl rfl (ju rfl rfl (jJ (eS rfl) (jJ (eI rfl) (jz ?_))))); refine jjB (jjB (jjC (jI (eI rfl) (jjk rfl rfl (by omega) (jI (eB rfl) ?_))))); refine jT rfl rfl rfl (jI (eS rfl) (jT rfl rfl rfl (jh rfl (jT rfl rfl rfl (jjk rfl rfl (by omega) ?_))))); refine jL rfl (eB rfl) (jz (jjK rfl (jjG (jjB ?_)))))
  refine W.draw (fun w' => Ext w3 w') ?_
  intro x1 hX1
  have q1' := hX1.ext
  refine jjV [0] (by decide +kernel) q1' ?_
  (((refine jjT rfl (fun _ _ => jI (eS rfl) (jz ⟨rfl, rfl⟩)) (jjU ?_))))
  refine jjV [1] (by decide +kernel) q1' (jjT (v := .pointer (some ⟨vb, vo + 2 * 6, none⟩)) rfl (fun w' q1 => ?_) (jjU ?_)); (refine jH 2 rfl rfl rfl (by omega) ?_; refine jz ?_; exact ⟨rfl, rfl⟩)
  refine jjV [2] (by decide +kernel) q1' (jjT (v := encSl l2) rfl (fun w' q1 => ?_) (jjU ?_)); (refine Ops.loadOA (off := 0) (AV 2 (by omega) _ q1) rfl rfl rfl rfl ?_; refine jz ?_; exact ⟨rfl, rfl⟩)
  refine jjV [3] (by decide +kernel) q1' ?_
  (((refine jjT rfl (fun _ _ => jI (eS rfl) (jz ⟨rfl, rfl⟩)) (jjU ?_))))
  refine jjV [4] (by decide +kernel) q1' (jjT (v := .pointer (some ⟨vb, vo + 1 * 6, none⟩)) rfl (fun w' q1 => ?_) (jjU ?_)); (refine jH 1 rfl rfl rfl (by omega) ?_; refine jz ?_; exact ⟨rfl, rfl⟩)
  refine jjV [5] (by decide +kernel) q1' (jjT (v := encSl l1) rfl (fun w' q1 => ?_) (jjU ?_)); (refine Ops.loadOA (off := 0) (AV 1 (by omega) _ q1) rfl rfl rfl rfl ?_; refine jz ?_; exact ⟨rfl, rfl⟩)
  refine jjV [6] (by decide +kernel) q1' ?_
  (((refine jjT rfl (fun _ _ => jI (eS rfl) (jz ⟨rfl, rfl⟩)) (jjU ?_))))
  refine jjV [7] (by decide +kernel) q1' (jjT (v := .pointer (some ⟨vb, vo + 0 * 6, none⟩)) rfl (fun w' q1 => ?_) (jjU ?_)); (refine jH 0 rfl rfl rfl (by omega) ?_; refine jz ?_; exact ⟨rfl, rfl⟩)
  refine jjV [8] (by decide +kernel) q1' (jjT (v := encSl l0) rfl (fun w' q1 => ?_) (jjU ?_)); (refine Ops.loadOA (off := 0) (AV 0 (by omega) _ q1) rfl rfl rfl rfl ?_; refine jz ?_; exact ⟨rfl, rfl⟩)
  (apply jjW 9; (decide +kernel); exact rfl; (exact q1'))
  refine Ops.buildSliceF (cells := (ltS.map encSl).flatMap (·.cells.toList)) rfl rfl rfl ?_
  intro b34 x2 hb34 hs34 hX2 hk34
  have R34 : RowV x2 true 6 (.slice (some ⟨b34, 0, none⟩) 3 3) (ltS.map encSl) := Bk.rows (xs := ltS.map encSl) hk34 (by simp [fitsV]) (by simp)
  have q2 := q1'.trans hX2.ext
  have q2w := ((hS1.ext.trans (hS2.ext.trans hS3.ext)).trans q2).toStep
  refine jz ?_
  (apply jjW 10; (decide +kernel); exact rfl; (exact q2))
  refine jjQ (lt_File b34 _ R34) rfl rfl ?_
  rintro _ x3 hX3 ⟨fa, fc, rfl, hRf⟩
  have q3 := q2.trans hX3.ext
  refine jz ?_
  refine jjV [11, 12, 13, 14, 15, 16, 17] (by decide +kernel) q3 ?_
  (((refine jjT rfl (fun _ _ => jI (eU rfl) (jz ⟨rfl, rfl⟩)) (jjT rfl (fun _ _ => ju rfl rfl (jz ⟨rfl, rfl⟩)) (jjT rfl (fun _ _ => ju rfl rfl (jz ⟨rfl, rfl⟩)) (jjT rfl (fun _ _ => ju rfl rfl (jz ⟨rfl, rfl⟩)) (jjT rfl (fun _ _ => jJ (eS rfl) (jz ⟨rfl, rfl⟩)) (jjT rfl (fun _ _ => jJ (eI rfl) (jz ⟨rfl, rfl⟩)) ?_))))); refine jjT rfl (fun _ _ => jJ (eI rfl) (jz ⟨rfl, rfl⟩)) (jjU ?_))))
  refine jjX (by decide +kernel) q3 ?_
  (refine jjB (jjC ?_))
  refine Ops.buildSliceF (cells := [.int .i64 2, .int .i64 1]) rfl rfl rfl ?_
  intro b40 x4 hb40 hs40 hX4 hk40
  have R40 : RowV x4 false 1 (.slice (some ⟨b40, 0, none⟩) 2 2) (([2, 1] : List Int).map intV) := row_two (Bk.toAt (h := hk40))
  skip
  refine jjQ (lt_Mend b40 _ R40) rfl rfl ?_
  rintro _ x5 hX5 ⟨ma, mc, m, rfl, hRm, hm2, hm3⟩
  (refine jI (eU rfl) (ju rfl rfl (ju rfl rfl (jJ (eS rfl) (jJ (eI rfl) (jz ?_))))); refine jjB (jjC ?_))
  refine Ops.buildSliceF (cells := [.int .i64 2, .int .i64 1]) rfl rfl rfl ?_
  intro b45 x6 hb45 hs45 hX6 hk45
  have R45 : RowV x6 false 1 (.slice (some ⟨b45, 0, none⟩) 2 2) (([2, 1] : List Int).map intV) := row_two (Bk.toAt (h := hk45))
  (apply jI; exact eS rfl)
  refine jjQ (lt_Moved b45 _ R45 ma mc m (hRm.ext hX6.ext) hm2 hm3) rfl rfl ?_
  rintro _ x7 hX7 ⟨la, lc, rfl, hRl⟩
  (refine jI (eU rfl) (ju rfl rfl (ju rfl rfl (jJ (eS rfl) (jJ (eI rfl) (jz ?_))))); refine jjB (jjC ?_))
  (refine jjS (cells := [.int .i64 0, .int .i64 1, .int .i64 0]) ?_ ?_; exact rfl)
  (refine jjS (cells := [.int .i64 0, .int .i64 1, .int .i64 0, .string wSea, .string wOldSea, .string ⟨#[]⟩]) ?_ ?_; exact rfl)
  (apply jjR rfl; (intro _; first|exact eI rfl|exact eB rfl|exact eP rfl|exact eS rfl|exact eT rfl|exact eA rfl|exact eU rfl|exact eF rfl|exact eM rfl|exact eN rfl|exact rfl); exact rfl; exact rfl; exact rfl; exact rfl; intro b10 w_b10 hb_b10 hs_b10 hS_b10 hk_b10; have hA_b10 := Bk.of hk_b10)
  have A10 : At w_b10 b10 0 (encSl l2).cells.toList := Bk.toAt (h := hA_b10)
  have e10 : Ext w3 w_b10 := q3.trans (hX4.ext.trans (hX5.ext.trans (hX6.ext.trans (hX7.ext.trans hS_b10.ext))))
  have If : RowI w_b10 (.slice fa ([l0, l1, l2] : List Slp).length fc) true 6 ([l0, l1, l2].map encSl) := ⟨hRf.ext (hX4.ext.trans (hX5.ext.trans (hX6.ext.trans (hX7.ext.trans hS_b10.ext))))⟩
  have Iv : RowI w_b10 (.slice (some ⟨vb, vo, none⟩) ([l0, l1, l2] : List Slp).length vc) true 6 ([l0, l1, l2].map encSl) := ⟨hRv.ext e10⟩
  have Il : RowI w_b10 (.slice la ([1, 0] : List Int).length lc) false 1 (([1, 0] : List Int).map intV) := ⟨hRl.ext hS_b10.ext⟩
  (refine jz (jjB ?_))
  refine W.draw (fun w' => Ext w_b10 w') ?_
  intro y1 hY1
  have p1 := hY1.ext
  refine jjV [0] (by decide +kernel) p1 ?_
  (((refine jjT rfl (fun _ _ => jI (eI rfl) (jz ⟨rfl, rfl⟩)) (jjU ?_))))
  refine jjV [1] (by decide +kernel) p1 (jjT (v := .bool true) rfl (fun w' q1 => ?_) (jjU ?_)); (refine jb rfl rfl ?_; rw [decide_eq_true (by decide)]; refine jz ?_; exact ⟨rfl, rfl⟩)
  refine jjV [2, 3] (by decide +kernel) p1 ?_
  (((refine jjT rfl (fun _ _ => jI (eB rfl) (jz ⟨rfl, rfl⟩)) (jjT rfl (fun _ _ => jT rfl rfl rfl (jI (eI rfl) (jz ⟨rfl, rfl⟩))) (jjU ?_)))))
  refine jjV [4] (by decide +kernel) p1 (jjT (v := .bool true) rfl (fun w' q1 => ?_) (jjU ?_)); (refine jT rfl rfl rfl (jb rfl rfl ?_); rw [decide_eq_true (by decide)]; refine jz ?_; exact ⟨rfl, rfl⟩)
  refine jjV [5, 6, 7, 8] (by decide +kernel) p1 ?_
  (((refine jjT rfl (fun _ _ => jK rfl (eB rfl) (jz ⟨rfl, rfl⟩)) (jjT rfl (fun _ _ => jI (eB rfl) (jz ⟨rfl, rfl⟩)) (jjT rfl (fun _ _ => jT rfl rfl rfl (jI (eS rfl) (jz ⟨rfl, rfl⟩))) (jjT rfl (fun _ _ => jT rfl rfl rfl (jI (eS rfl) (jz ⟨rfl, rfl⟩))) (jjU ?_)))))))
  (apply jjW 9; (decide +kernel); exact rfl; (exact p1))
  refine jT rfl rfl rfl ?_
  refine jjQ (SameSl_yes fa (some ⟨vb, vo, none⟩) fc vc [l0, l1, l2] _ (by decide)) rfl rfl ?_
  rintro _ y2 hY2 rfl
  have p2 := p1.trans hY2.ext
  refine jz ?_
  refine jjV [10, 11, 12] (by decide +kernel) p2 ?_
  (((refine jjT rfl (fun _ _ => jK rfl (eB rfl) (jz ⟨rfl, rfl⟩)) (jjT rfl (fun _ _ => jI (eB rfl) (jz ⟨rfl, rfl⟩)) (jjT rfl (fun _ _ => jT rfl rfl rfl (jI (eS rfl) (jz ⟨rfl, rfl⟩))) (jjU ?_))))))
  refine jjV [13] (by decide +kernel) p2 (jjT (v := .pointer (some ⟨vb, vo + 2 * 6, none⟩)) rfl (fun w' q1 => ?_) (jjU ?_)); (refine jT rfl rfl rfl ?_; refine jH 2 rfl rfl rfl (by decide) ?_; refine jz ?_; exact ⟨rfl, rfl⟩)
  refine jjV [14] (by decide +kernel) p2 (jjT (v := encSl l2) rfl (fun w' q1 => ?_) (jjU ?_)); (refine jT rfl rfl rfl ?_; refine Ops.loadOA (off := 0) (AV 2 (by omega) _ (e10.trans q1)) rfl rfl rfl rfl ?_; refine jz ?_; exact ⟨rfl, rfl⟩)
  refine jjV [15] (by decide +kernel) p2 (jjT (v := encSl l2) rfl (fun w' q1 => ?_) (jjU ?_)); (refine jT rfl rfl rfl ?_; refine Ops.loadOA (off := 0) (A10.ext q1) rfl rfl rfl rfl ?_; refine jz ?_; exact ⟨rfl, rfl⟩)
  refine jjV [16] (by decide +kernel) p2 (jjT (v := .bool true) rfl (fun w' q1 => ?_) (jjU ?_)); (refine jT rfl rfl rfl ?_; refine Ops.eqlT (enc := encSl) l2 l2 rfl rfl ?_; rw [decide_eq_true rfl]; refine jz ?_; exact ⟨rfl, rfl⟩)
  refine jjV [17, 18, 19] (by decide +kernel) p2 ?_
  (((refine jjT rfl (fun _ _ => jK rfl (eB rfl) (jz ⟨rfl, rfl⟩)) (jjT rfl (fun _ _ => jI (eB rfl) (jz ⟨rfl, rfl⟩)) (jjT rfl (fun _ _ => jT rfl rfl rfl (jI (eI rfl) (jz ⟨rfl, rfl⟩))) (jjU ?_))))))
  refine jjV [20] (by decide +kernel) p2 (jjT (v := .bool true) rfl (fun w' q1 => ?_) (jjU ?_)); (refine jT rfl rfl rfl (jb rfl rfl ?_); rw [decide_eq_true (by decide)]; refine jz ?_; exact ⟨rfl, rfl⟩)
  refine jjV [21, 22, 23, 24] (by decide +kernel) p2 ?_
  (((refine jjT rfl (fun _ _ => jK rfl (eB rfl) (jz ⟨rfl, rfl⟩)) (jjT rfl (fun _ _ => jI (eB rfl) (jz ⟨rfl, rfl⟩)) (jjT rfl (fun _ _ => jT rfl rfl rfl (jI (eS rfl) (jz ⟨rfl, rfl⟩))) (jjT rfl (fun _ _ => jT rfl rfl rfl (jh rfl (jz ⟨rfl, rfl⟩))) (jjU ?_)))))))
  refine jjV [25] (by decide +kernel) p2 (jjT (v := .bool true) rfl (fun w' q1 => ?_) (jjU ?_)); (refine jT rfl rfl rfl (jb rfl rfl ?_); rw [decide_eq_true (by decide)]; refine jz ?_; exact ⟨rfl, rfl⟩)
  refine jjV [26, 27, 28] (by decide +kernel) p2 ?_
  (((refine jjT rfl (fun _ _ => jK rfl (eB rfl) (jz ⟨rfl, rfl⟩)) (jjT rfl (fun _ _ => jI (eB rfl) (jz ⟨rfl, rfl⟩)) (jjT rfl (fun _ _ => jT rfl rfl rfl (jI (eI rfl) (jz ⟨rfl, rfl⟩))) (jjU ?_))))))
  refine jjV [29] (by decide +kernel) p2 (jjT (v := .bool true) rfl (fun w' q1 => ?_) (jjU ?_)); (refine jT rfl rfl rfl (jb rfl rfl ?_); rw [decide_eq_true (by decide)]; refine jz ?_; exact ⟨rfl, rfl⟩)
  refine jjV [30, 31, 32] (by decide +kernel) p2 ?_
  (((refine jjT rfl (fun _ _ => jK rfl (eB rfl) (jz ⟨rfl, rfl⟩)) (jjT rfl (fun _ _ => jI (eB rfl) (jz ⟨rfl, rfl⟩)) (jjT rfl (fun _ _ => jT rfl rfl rfl (jI (eS rfl) (jz ⟨rfl, rfl⟩))) (jjU ?_))))))
  (apply jjW 33; (decide +kernel); exact rfl; (exact p2))
  refine jT rfl rfl rfl ?_
  refine Ops.buildSliceF (cells := [.int .i64 1, .int .i64 0]) rfl rfl rfl ?_
  intro b85 y3 hb85 hs85 hY3 hk85
  have p3 := p2.trans hY3.ext
  have I85 : RowI y3 (.slice (some ⟨b85, 0, none⟩) ([1, 0] : List Int).length 2) false 1 (([1, 0] : List Int).map intV) := ⟨row_two (Bk.toAt (h := hk85))⟩
  have Il3 : RowI y3 (.slice la ([1, 0] : List Int).length lc) false 1 (([1, 0] : List Int).map intV) := ⟨Il.h.ext p3⟩
  refine jz ?_
  (apply jjW 34; (decide +kernel); exact rfl; (exact p3))
  refine jT rfl rfl rfl ?_
  refine jjQ (SameInts_yes5 la (some ⟨b85, 0, none⟩) lc 2 [1, 0] _) rfl rfl ?_
  rintro _ y4 hY4 rfl
  have p4 := p3.trans hY4.ext
  refine jz ?_
  refine jjV [35, 36] (by decide +kernel) p4 ?_
  (((refine jjT rfl (fun _ _ => jK rfl (eB rfl) (jz ⟨rfl, rfl⟩)) (jjT rfl (fun _ _ => jJ (eB rfl) (jz ⟨rfl, rfl⟩)) (jjU ?_)))))
  refine jjX (by decide +kernel) p4 ?_
  (refine jjF ?_; refine jB rfl rfl ⟨inferInstance, ?_⟩)
  exact rfl
end

section rules
variable {P : Program} {ro : Option Nat} {n : Nat} {all rest : List Oper} {K : Sl → World → Prop} {s : Sl} {w : World} {d : Nat} {ty : Nat} {pos : String} {af : Array Edge}
variable {x y : Operand} {t t' : Nat}
end rules
section rules
variable {P : Program} {ro : Option Nat} {n : Nat} {all rest : List Oper} {K : Sl → World → Prop} {s : Sl} {w : World} {d : Nat} {ty : Nat} {pos : String} {af : Array Edge}
variable {x y z : Operand} {at_ : Array Nat}
end rules

section
variable (a1 a2 : Option Addr) (c1 c2 : Nat) (d l : List Int) (w : World) (hll : l.length ≤ 1000000) [h1 : RowI w (.slice a1 d.length c1) false 1 (d.map intV)] [h2 : RowI w (.slice a2 l.length c2) false 1 (l.map intV)]
include hll
end
section
variable (a1 a2 : Option Addr) (c1 c2 : Nat) (d l : List Int) (w : World) (hll : l.length ≤ 1000000) [h1 : RowI w (.slice a1 d.length c1) false 1 (d.map intV)] [h2 : RowI w (.slice a2 l.length c2) false 1 (l.map intV)]
include hll
end

theorem lset_perm {L : List Slp} {i k : Nat} (hi : i < L.length) (hk : k < L.length) : ((L.set i L[k]).set k L[i]).Perm L := @List.set_set_perm _ L i k hi hk
section
variable (a : Option Addr) (c : Nat) (cs : List Ch) (wd side : Int) (ba : Option Addr) (bc : Nat) (by_ : List Int) (w : World) [hrow : RowI w (.slice a cs.length c) true 2 (cs.map encCh)] [hT : TextI w cs] [hgs : At w 1 0 sidesC] [hby : RowI w (.slice ba by_.length bc) false 1 (by_.map u32V)]
end

theorem sl_one (S : List Slp) : (S.map encSl).all (fun v => v.cells.toList.all (·.oneCell')) = true := List.all_eq_true.2 fun v hv => by
  obtain ⟨x, _, rfl⟩ := List.mem_map.1 hv
  rfl
section
variable (va : Option Addr) (vc : Nat) (S : List Slp) (ba : Option Addr) (bc : Nat) (by_ : List Int) (w : World) [hS : RowI w (.slice va S.length vc) true 6 (S.map encSl)] [hby : RowI w (.slice ba by_.length bc) false 1 (by_.map u32V)]
set_option maxHeartbeats 8000000 in
theorem lateMixed_top (hu : U32s by_) (hl : S.length ≤ 100000) : Ct Tryz.prog 11 [.slice va S.length vc, .slice ba by_.length bc] w fun v w' => ∃ (L : List Slp) (ua : Option Addr) (uc : Nat), v = .slice ua L.length uc ∧ L.Perm S ∧ OwnL w' w.heap.size 46 true 6 (.slice ua L.length uc) (L.map encSl) := by
  have hbl := hby.h.len
  rw [List.length_map] at hbl
  refine Ct.ofW (by simp) ?_
  (refine jjB (jjC (jJ (eS rfl) (jz (jjB (jjC ?_))))))
  refine Ops.buildSlice0 ?_
  intro b3 w4 hb3 hs4 hS4 hk4
  have hO4 := OwnL.empty (agg := true) (k := 6) (B := w.heap.size) (by omega) hk4
  (apply jI; exact eS rfl)
  refine Ops.appendL hO4 (by omega) (hS.h.ext hS4.ext) rfl rfl rfl rfl (sl_one S) ?_ ?_ ?_
  · simp only [List.length_map, List.length_nil]; omega
  · simp only [List.length_map, List.length_nil]; omega
  intro v5 w5 hA5 hO5 _ _
  rw [List.nil_append] at hO5
  have hE5 : Ext w w5 := hA5.ext hS4.ext (Nat.le_refl _)
  obtain ⟨ua, uc, rfl⟩ := hO5.slice
  rw [List.length_map] at hO5 ⊢
  have hE5' := hE5.toStep
  (refine jJ (eS rfl) (jz (jjB (jjB (jjC (jI (eS rfl) ?_))))); refine jh rfl (jI (eI rfl) (jz (jjD ?_))))
  refine W.keep0 [(1, .slice ba by_.length bc), (5, .slice ua S.length uc), (14, .int .i64 (S.length : Int)), (15, .int .i64 ((0 : Nat) : Int))] ⟨eS rfl, eS rfl, eI rfl, eI rfl, trivial⟩ fun s0 => ?_
  refine W.loopG (16 :: 17 :: 6 :: 7 :: 18 :: 19 :: 20 :: 21 :: 22 :: 23 :: 24 :: 25 :: 26 :: 27 :: 28 :: 29 :: 30 :: 31 :: 32 :: 8 :: 33 :: 34 :: 35 :: 36 :: 9 :: 37 :: 38 :: 39 :: 40 :: 41 :: 42 :: 43 :: 44 :: 45 :: 46 :: 47 :: 48 :: 15 :: []) (fun g' s' V => ∃ (i : Nat) (L : List Slp), s' 15 = .int .i64 (i : Int) ∧ g' = S.length - i ∧ i ≤ S.length ∧ L.Perm S ∧ Ext w V ∧ OwnL V w.heap.size 46 true 6 (.slice ua S.length uc) (L.map encSl)) S.length ⟨0, S, rfl, rfl, Nat.zero_le _, .refl _, hE5, hO5⟩ ?_
  clear hO5 hA5 hE5 hE5'
  rintro _ sd V ⟨i, L, h15, rfl, hi, hp, hEV, hOV⟩
  refine W.fix h15 ?_
  clear h15
  have hlL := hp.length_eq
  have hEV' := hEV.toStep
  by_cases hi1 : i < S.length
  rotate_left
  · (refine jjB (jjC (jja rfl rfl (by omega) (jz (jjB (jjK rfl ?_))))); refine jjE (jjB (jjC (jI (eS rfl) (jJ (eS rfl) (jz ?_))))); refine jjF ?_; refine jB rfl rfl ⟨inferInstance, ?_⟩)
    refine ⟨L, ua, uc, by rw [hlL]; exact rfl, hp, ?_⟩
    rw [hlL]; exact hOV
  obtain ⟨g, rfl⟩ := own_addr hOV (by omega)
  have hgV := hOV.block g rfl
  by_cases h0 : by_.length = 0
  · (refine jjB (jjC (jjZ rfl rfl (by omega) (jz (jjB (jjJ rfl ?_))))); refine jjG (jjB (jjD (jjB (jjC (jI (eI rfl) ?_))))); refine jJ (eI rfl) (jz (jjB (jjC (jJ (eI rfl) (jz ?_))))); refine jjB (jjB (jjC (jI (eS rfl) (jh rfl (jje rfl rfl (by omega) ?_))))); refine jz (jjK rfl (jjG (jjB (jjC (jI (eI rfl) ?_))))); refine jI (eI rfl) (jY rfl rfl (by omega) ?_))
    refine Ops.rem rfl rfl (by omega) (by omega) ?_
    have r1 := Int.emod_nonneg (0 : Int) (show (i : Int) + 1 ≠ 0 by omega)
    have r2 := Int.emod_lt_of_pos (0 : Int) (show 0 < (i : Int) + 1 by omega)
    obtain ⟨K, hK'⟩ : ∃ K : Nat, (0 : Int) % ((i : Int) + 1) = (K : Int) := ⟨((0 : Int) % ((i : Int) + 1)).toNat, by omega⟩
    rw [hK'] at r1 r2 ⊢
    have hK : K < L.length := by omega
    have hiL : i < L.length := by omega
    have gi : (L.map encSl)[i]? = some (encSl L[i]) := by rw [List.getElem?_map, List.getElem?_eq_getElem hiL]; rfl
    have gk : (L.map encSl)[K]? = some (encSl L[K]) := by rw [List.getElem?_map, List.getElem?_eq_getElem hK]; rfl
    (refine jJ (eI rfl) (jz (jjB (jjC (jI (eS rfl) (jI (eI rfl) ?_))))))
    refine jH i rfl rfl rfl (by omega) ?_
    skip
    refine Ops.loadOA (off := 0) (place_k hOV.row gi) rfl rfl rfl rfl ?_
    skip
    (apply jjR rfl; (intro _; first|exact eI rfl|exact eB rfl|exact eP rfl|exact eS rfl|exact eT rfl|exact eA rfl|exact eU rfl|exact eF rfl|exact eM rfl|exact eN rfl|exact rfl); exact rfl; exact rfl; exact rfl; exact rfl; intro b11 w_b11 hb_b11 hs_b11 hS_b11 hk_b11; have hA_b11 := Bk.of hk_b11)
    have hO11 := hOV.ext hS_b11.ext
    have hE11 : Ext w w_b11 := hEV.trans hS_b11.ext
    have hne : b11 ≠ g := by omega
    have hA11 : At w_b11 b11 0 (encSl L[i]).cells.toList := Bk.toAt (h := hA_b11)
    (refine jz (jjB (jjC (jI (eS rfl) (jI (eI rfl) (jI (eS rfl) ?_))))); refine jI (eI rfl) ?_)
    refine jH K rfl rfl rfl (by omega) ?_
    skip
    refine Ops.loadOA (off := 0) (place_k hO11.row gk) rfl rfl rfl rfl ?_
    skip
    refine jH i rfl rfl rfl (by omega) ?_
    skip
    refine Ops.storeW (g := g) (j := i) (X' := encSl L[K]) hO11 rfl (by rw [List.length_map]; omega) rfl (show Value.pointer (some ⟨g, 0 + i * 6, none⟩) = Value.pointer (some ⟨g, i * 6, none⟩) from by rw [Nat.zero_add]) rfl rfl ?_
    intro w12 o12 hp12 hO12
    have hA12 : At w12 b11 0 (encSl L[i]).cells.toList := hp12.at_ hA11 hne
    (refine jz (jjC (jI (eS rfl) (jI (eI rfl) (jO rfl rfl rfl rfl ?_)))))
    refine jH K rfl rfl rfl (by omega) ?_
    skip
    refine Ops.storeW (g := g) (j := K) (X' := encSl L[i]) hO12 rfl (by rw [List.length_set, List.length_map]; omega) rfl (show Value.pointer (some ⟨g, 0 + K * 6, none⟩) = Value.pointer (some ⟨g, K * 6, none⟩) from by rw [Nat.zero_add]) rfl rfl ?_
    intro w13 o13 hp13 hO13
    rw [← List.map_set, ← List.map_set] at hO13
    (refine jz (jjC (jY rfl rfl (by omega) (jI (eI rfl) (jz ?_)))))
    exact ⟨rfl, by (((iterate 31 refine Same.upd rfl ?_); exact Same.ovN)), S.length - (i + 1), by omega, i + 1, _, congrArg (Value.int .i64) (by omega), rfl, by omega, (lset_perm hiL hK).trans hp, hp13.ext (hp12.ext hE11 hgV.1) hgV.1, hO13⟩
  · (refine jjB (jjC (jjZ rfl rfl (by omega) (jz (jjB (jjJ rfl ?_))))); refine jjG (jjB (jjD (jjB (jjC (jI (eI rfl) ?_))))); refine jJ (eI rfl) (jz (jjB (jjC (jJ (eI rfl) (jz ?_))))); refine jjB (jjB (jjC (jI (eS rfl) (jh rfl (jjd rfl rfl (by omega) ?_))))); refine jz (jjJ rfl (jjC (jI (eS rfl) (jI (eI rfl) (jI (eS rfl) ?_))))); refine jh rfl ?_)
    refine Ops.rem rfl rfl (by omega) (by omega) ?_
    have hr1 : (i : Int) % (by_.length : Int) = ((i % by_.length : Nat) : Int) := by omega
    have hX := Nat.mod_lt i (show 0 < by_.length by omega)
    rw [hr1]
    obtain ⟨X, hXe⟩ : ∃ X, i % by_.length = X := ⟨_, rfl⟩
    rw [hXe] at hX ⊢
    have hv := hu by_[X] (List.getElem_mem hX)
    (refine jF rfl rfl rfl (map_get (by omega)) ?_; intro _ _ _; refine jQ rfl rfl ?_)
    refine Ops.convI rfl rfl (wrapi (by omega) (by omega)) ?_
    (refine jJ (eI rfl) (jz (jjB (jjC (jI (eI rfl) (jI (eI rfl) ?_))))); refine jY rfl rfl (by omega) ?_)
    refine Ops.rem rfl rfl (by omega) (by omega) ?_
    have r1 := Int.emod_nonneg by_[X] (show (i : Int) + 1 ≠ 0 by omega)
    have r2 := Int.emod_lt_of_pos by_[X] (show 0 < (i : Int) + 1 by omega)
    obtain ⟨K, hK'⟩ : ∃ K : Nat, by_[X] % ((i : Int) + 1) = (K : Int) := ⟨(by_[X] % ((i : Int) + 1)).toNat, by omega⟩
    rw [hK'] at r1 r2 ⊢
    have hK : K < L.length := by omega
    have hiL : i < L.length := by omega
    have gi : (L.map encSl)[i]? = some (encSl L[i]) := by rw [List.getElem?_map, List.getElem?_eq_getElem hiL]; rfl
    have gk : (L.map encSl)[K]? = some (encSl L[K]) := by rw [List.getElem?_map, List.getElem?_eq_getElem hK]; rfl
    (refine jJ (eI rfl) (jz (jjB (jjC (jI (eS rfl) (jI (eI rfl) ?_))))))
    refine jH i rfl rfl rfl (by omega) ?_
    skip
    refine Ops.loadOA (off := 0) (place_k hOV.row gi) rfl rfl rfl rfl ?_
    skip
    (apply jjR rfl; (intro _; first|exact eI rfl|exact eB rfl|exact eP rfl|exact eS rfl|exact eT rfl|exact eA rfl|exact eU rfl|exact eF rfl|exact eM rfl|exact eN rfl|exact rfl); exact rfl; exact rfl; exact rfl; exact rfl; intro b11 w_b11 hb_b11 hs_b11 hS_b11 hk_b11; have hA_b11 := Bk.of hk_b11)
    have hO11 := hOV.ext hS_b11.ext
    have hE11 : Ext w w_b11 := hEV.trans hS_b11.ext
    have hne : b11 ≠ g := by omega
    have hA11 : At w_b11 b11 0 (encSl L[i]).cells.toList := Bk.toAt (h := hA_b11)
    (refine jz (jjB (jjC (jI (eS rfl) (jI (eI rfl) (jI (eS rfl) ?_))))); refine jI (eI rfl) ?_)
    refine jH K rfl rfl rfl (by omega) ?_
    skip
    refine Ops.loadOA (off := 0) (place_k hO11.row gk) rfl rfl rfl rfl ?_
    skip
    refine jH i rfl rfl rfl (by omega) ?_
    skip
    refine Ops.storeW (g := g) (j := i) (X' := encSl L[K]) hO11 rfl (by rw [List.length_map]; omega) rfl (show Value.pointer (some ⟨g, 0 + i * 6, none⟩) = Value.pointer (some ⟨g, i * 6, none⟩) from by rw [Nat.zero_add]) rfl rfl ?_
    intro w12 o12 hp12 hO12
    have hA12 : At w12 b11 0 (encSl L[i]).cells.toList := hp12.at_ hA11 hne
    (refine jz (jjC (jI (eS rfl) (jI (eI rfl) (jO rfl rfl rfl rfl ?_)))))
    refine jH K rfl rfl rfl (by omega) ?_
    skip
    refine Ops.storeW (g := g) (j := K) (X' := encSl L[i]) hO12 rfl (by rw [List.length_set, List.length_map]; omega) rfl (show Value.pointer (some ⟨g, 0 + K * 6, none⟩) = Value.pointer (some ⟨g, K * 6, none⟩) from by rw [Nat.zero_add]) rfl rfl ?_
    intro w13 o13 hp13 hO13
    rw [← List.map_set, ← List.map_set] at hO13
    (refine jz (jjC (jY rfl rfl (by omega) (jI (eI rfl) (jz ?_)))))
    exact ⟨rfl, by (((iterate 40 refine Same.upd rfl ?_); exact Same.ovN)), S.length - (i + 1), by omega, i + 1, _, congrArg (Value.int .i64) (by omega), rfl, by omega, (lset_perm hiL hK).trans hp, hp13.ext (hp12.ext hE11 hgV.1) hgV.1, hO13⟩
end

theorem small_rt {x : Slp} (h : slipB x = true) : SmallS x := by
  simp only [slipB, wordsB, wordB, Bool.and_eq_true, Bool.or_eq_true, decide_eq_true_eq] at h
  exact ⟨by omega, by omega, by omega⟩
section
variable (va : Option Addr) (vc : Nat) (l : List Slp) (w : World) [hrow : RowI w (.slice va l.length vc) true 6 (l.map encSl)] [hgb : At w 0 0 bysC] [hmx : MxI w]
theorem File1_top (boxes : Int) (h60 : l.length ≤ 60) (hall : l.all slipB = true) (hb : 2 ≤ boxes ∧ boxes ≤ 20) : Ct Tryz.prog 10 [.slice va l.length vc, .int .u8 1, .int .i64 boxes] w fun v w' => ∃ (p : Int) (fa : Option Addr) (fc : Nat), v = .tuple #[.slice fa (fileL l 1 boxes).length fc, .int .i64 p, .int .i64 0] ∧ RowV w' true 6 (.slice fa (fileL l 1 boxes).length fc) ((fileL l 1 boxes).map encSl) := by
  have hsm : ∀ x ∈ l, SmallS x := fun x hx => small_rt (List.all_eq_true.1 hall x hx)
  refine Ct.mono (File_rack va vc l 1 boxes w (fun _ => by1_slip) hsm (by decide)) fun v w' _ h => ?_
  obtain ⟨p, fa, fc, -, hv, hO⟩ := h
  rw [file_ok h60 hall (by decide) hb] at hv
  exact ⟨p, fa, fc, hv, hO.row⟩
theorem Ranks1_top (h60 : l.length ≤ 60) (hall : l.all slipB = true) : Ct Tryz.prog 12 [.slice va l.length vc, .int .u8 1] w fun v w' => ∃ (da : Option Addr) (dc : Nat), v = .tuple #[.slice da (rkD 1 l).length dc, .int .i64 0] ∧ RowV w' false 1 (.slice da (rkD 1 l).length dc) ((rkD 1 l).map intV) := by
  have hsm : ∀ x ∈ l, SmallS x := fun x hx => small_rt (List.all_eq_true.1 hall x hx)
  refine Ct.mono (Ranks_rack va vc l 1 w (fun _ => by1_slip) hsm (by decide)) fun v w' _ h => ?_
  obtain ⟨da, dc, hv, hO⟩ := h
  rw [ranks_rkD h60 hall (by decide)] at hv hO
  exact ⟨da, dc, hv, hO.row⟩
end
section
variable (a : Option Addr) (c : Nat) (cs : List Ch) (ha : Option Addr) (hc : Nat) (hs : List Hp) (sa : Option Addr) (sc : Nat) (ss : List Shr) (xa : Option Addr) (xc : Nat) (xs : List Sht) (wd side : Int) (boxes : Int) (ba : Option Addr) (bc : Nat) (by_ : List Int) (w : World)
  [hrow : RowI w (.slice a cs.length c) true 2 (cs.map encCh)] [hT : TextI w cs] [hhs : RowI w (.slice ha hs.length hc) true 3 (hs.map encHp)] [hss : RowI w (.slice sa ss.length sc) true 4 (ss.map encShr)] [hxs : RowI w (.slice xa xs.length xc) true 2 (xs.map encSht)] [hxi : ShtI w xs]
  [hgs : At w 1 0 sidesC] [hgb : At w 0 0 bysC] [hmx : MxI w] [hby : RowI w (.slice ba by_.length bc) false 1 (by_.map u32V)]
set_option maxRecDepth 10000 in
set_option maxHeartbeats 40000000 in
theorem TopLate_law (hd : 0 ≤ side ∧ side ≤ 255) (hu : U32s by_) : Ct Tryz.prog 3 [.agg #[.slice a cs.length c, .slice ha hs.length hc, .slice sa ss.length sc, .slice xa xs.length xc], encCut wd side, .int .i64 boxes, .slice ba by_.length bc] w fun v _ => v = .bool true := by
  refine Ct.ofW (by simp) ?_
  (refine jjB (jjC ?_))
  (refine jy rfl ?_; intro b4 w_b4 hb_b4 hs_b4 hS_b4 hk_b4; have hA_b4 := At.ofBlock hk_b4)
  skip
  (refine jy rfl ?_; intro b5 w_b5 hb_b5 hs_b5 hS_b5 hk_b5; have hA_b5 := At.ofBlock hk_b5)
  have A4 : At w_b5 b4 0 [.slice a cs.length c, .slice ha hs.length hc, .slice sa ss.length sc, .slice xa xs.length xc] := (At.ofBlock hk_b4).ext hS_b5.ext
  have A5 : At w_b5 b5 0 [.int .i64 wd, .int .u8 side] := At.ofBlock hk_b5
  (refine jJ (eB rfl) (jz (jjB (jjC ?_))))
  refine jjQ (alive_top06 _) rfl rfl ?_
  rintro _ w6 hS6 rfl
  (refine jJ (eB rfl) (jz (jjB (jjB (jjC (jO rfl rfl rfl rfl ?_))))))
  refine jjQ (Great_ref5 a c cs ha hc hs sa sc ss xa xc xs _) rfl rfl ?_
  rintro _ w7 hS7 ⟨b, rfl, hb⟩
  cases b with
  | true =>
    (refine jI (eB rfl) (jU rfl rfl rfl rfl (jU rfl rfl rfl rfl (jU rfl rfl rfl rfl (jK rfl (eB rfl) (jI (eB rfl) ?_))))); refine jU rfl rfl rfl rfl (jU rfl rfl rfl rfl (jU rfl rfl rfl rfl (jK rfl (eB rfl) (jI (eB rfl) (jU rfl rfl rfl rfl ?_))))); refine jU rfl rfl rfl rfl (jK rfl (eB rfl) (jI (eB rfl) (jU rfl rfl rfl rfl (jU rfl rfl rfl rfl (jK rfl (eB rfl) ?_))))); refine jI (eB rfl) (jU rfl rfl rfl rfl (jU rfl rfl rfl rfl (jK rfl (eB rfl) (jz (jjJ rfl ?_))))); refine jjB (jjC (jI (eB rfl) (jJ (eB rfl) (jz (jjF ?_))))); refine jB rfl rfl ⟨inferInstance, ?_⟩)
    exact rfl
  | false =>
  obtain ⟨hG, hX⟩ := hb rfl
  have hsm := small_of_great hG
  (refine jI (eB rfl) (jT rfl rfl rfl (jO rfl rfl rfl rfl (jT rfl rfl rfl ?_))))
  refine jjQ (Check_ref5 a c cs ha hc hs sa sc ss xa xc xs _ hsm hX) rfl rfl ?_
  rintro _ w8 hS8 ⟨e, rfl, he⟩
  by_cases h0 : e = 0
  rotate_left
  · (refine jT rfl rfl rfl (jjj rfl rfl (by omega) (jL rfl (eB rfl) (jI (eB rfl) (jU rfl rfl rfl rfl (jU rfl rfl rfl rfl ?_))))); refine jU rfl rfl rfl rfl (jK rfl (eB rfl) (jI (eB rfl) (jU rfl rfl rfl rfl (jU rfl rfl rfl rfl (jK rfl (eB rfl) ?_))))); refine jI (eB rfl) (jU rfl rfl rfl rfl (jU rfl rfl rfl rfl (jK rfl (eB rfl) (jI (eB rfl) (jU rfl rfl rfl rfl ?_))))); refine jU rfl rfl rfl rfl (jK rfl (eB rfl) (jz (jjJ rfl (jjB (jjC ?_))))); refine jI (eB rfl) (jJ (eB rfl) (jz (jjF ?_))); refine jB rfl rfl ⟨inferInstance, ?_⟩)
    exact rfl
  obtain ⟨ht, hp⟩ := he h0
  subst h0
  obtain ⟨C, hC⟩ : ∃ C, cutB wd side = C := ⟨_, rfl⟩
  (refine jT rfl rfl rfl (jjk rfl rfl (by omega) (jL rfl (eB rfl) (jI (eB rfl) (jT rfl rfl rfl (jO rfl rfl rfl rfl ?_))))); refine jT rfl rfl rfl ?_)
  refine jjQ ((Cut_ref3 wd side hd _).mono fun v _ _ h => h.trans (by rw [hC])) rfl rfl ?_
  rintro _ w9 hS9 rfl
  cases C with
  | false =>
    (refine jT rfl rfl rfl (jq rfl (jL rfl (eB rfl) (jI (eB rfl) (jU rfl rfl rfl rfl (jU rfl rfl rfl rfl ?_))))); refine jK rfl (eB rfl) (jI (eB rfl) (jU rfl rfl rfl rfl (jU rfl rfl rfl rfl (jK rfl (eB rfl) (jI (eB rfl) ?_))))); refine jU rfl rfl rfl rfl (jU rfl rfl rfl rfl (jK rfl (eB rfl) (jz (jjJ rfl (jjB ?_))))); refine jjC (jI (eB rfl) (jJ (eB rfl) (jz (jjF ?_)))); refine jB rfl rfl ⟨inferInstance, ?_⟩)
    exact rfl
  | true =>
  by_cases hb2 : boxes < 2
  · (refine jT rfl rfl rfl (jp rfl (jL rfl (eB rfl) (jI (eB rfl) (jT rfl rfl rfl (jI (eI rfl) ?_))))); refine jT rfl rfl rfl (jjZ rfl rfl (by omega) (jL rfl (eB rfl) (jI (eB rfl) (jU rfl rfl rfl rfl (jU rfl rfl rfl rfl ?_))))); refine jK rfl (eB rfl) (jI (eB rfl) (jU rfl rfl rfl rfl (jU rfl rfl rfl rfl (jK rfl (eB rfl) (jz ?_))))); refine jjJ rfl (jjB (jjC (jI (eB rfl) (jJ (eB rfl) (jz ?_))))); refine jjF ?_; refine jB rfl rfl ⟨inferInstance, ?_⟩)
    exact rfl
  by_cases hb20 : 20 < boxes
  · (refine jT rfl rfl rfl (jp rfl (jL rfl (eB rfl) (jI (eB rfl) (jT rfl rfl rfl (jI (eI rfl) ?_))))); refine jT rfl rfl rfl (jja rfl rfl (by omega) (jL rfl (eB rfl) (jI (eB rfl) (jT rfl rfl rfl (jI (eI rfl) ?_))))); refine jT rfl rfl rfl (jjd rfl rfl (by omega) (jL rfl (eB rfl) (jI (eB rfl) (jU rfl rfl rfl rfl (jU rfl rfl rfl rfl ?_))))); refine jK rfl (eB rfl) (jz (jjJ rfl (jjB (jjC (jI (eB rfl) ?_))))); refine jJ (eB rfl) (jz (jjF ?_)); refine jB rfl rfl ⟨inferInstance, ?_⟩)
    exact rfl
  have hbx : 2 ≤ boxes ∧ boxes ≤ 20 := by omega
  have F := allF (wd := wd) (side := side) ht hC
  have hask : askE (txF cs) wd side = 0 := askE_yes ht hC
  have hlk := lnK_len (cs := cs) (Nat.le_refl _)
  have hdf : ∀ D, doubtL (txF cs) side wd D (lnK cs cs.length).length = (allS (txF cs) side wd).filter (lateB (txF cs) D) := fun D => by
    have := doubt_filter (txF cs) side wd D
    rw [txF_len, ← hlk] at this
    exact this
  obtain ⟨S, hS⟩ : ∃ l, allS (txF cs) side wd = l := ⟨_, rfl⟩
  rw [hS] at F hdf
  (refine jT rfl rfl rfl (jp rfl (jL rfl (eB rfl) (jI (eB rfl) (jT rfl rfl rfl (jI (eI rfl) ?_))))); refine jT rfl rfl rfl (jja rfl rfl (by omega) (jL rfl (eB rfl) (jI (eB rfl) (jT rfl rfl rfl (jI (eI rfl) ?_))))); refine jT rfl rfl rfl (jje rfl rfl (by omega) (jL rfl (eB rfl) (jI (eB rfl) (jT rfl rfl rfl (jI (eB rfl) ?_))))); refine jT rfl rfl rfl (jp rfl (jL rfl (eB rfl) (jz (jjK rfl (jjG ?_))))); refine jjB (jjC (jm (jn rfl (jO rfl rfl rfl rfl (jO rfl rfl rfl rfl ?_))))))
  refine jjQ (Ct.mono (All_slip a c cs wd side _ hsm hd) (R' := fun v w' => ∃ (sa : Option Addr) (sc : Nat), v = .tuple #[.slice sa S.length sc, .int .i64 0] ∧ RowV w' true 6 (.slice sa S.length sc) (S.map encSl)) fun v w' _ h => by
    rw [hask, allR, if_pos hask] at h
    obtain ⟨sv, hv, hO⟩ := h
    rw [hS] at hO
    obtain ⟨la, lc, rfl⟩ := hO.slice
    rw [List.length_map] at hO hv
    exact ⟨la, lc, hv, hO.row⟩) rfl rfl ?_
  rintro _ w10 hS10 ⟨la, lc, rfl, hRS⟩
  (refine jI (eU rfl) (ju rfl rfl (ju rfl rfl (jJ (eS rfl) (jJ (eI rfl) (jz ?_))))); refine jjB (jjC (jO rfl rfl rfl rfl (jO rfl rfl rfl rfl ?_))))
  refine jjQ (Ct.mono (Doubt_hand a c cs ha hc hs sa sc ss xa xc xs wd side _ hsm ht hd hC hp) (R' := fun v w' => ∃ (D : Nat → Bool) (va : Option Addr) (vc : Nat), v = .tuple #[.slice va (S.filter (lateB (txF cs) D)).length vc, .int .i64 0] ∧ RowV w' true 6 (.slice va (S.filter (lateB (txF cs) D)).length vc) ((S.filter (lateB (txF cs) D)).map encSl)) fun v w' _ ⟨D, va, vc, hv, hR, _⟩ => by
    rw [hdf] at hv hR
    exact ⟨D, va, vc, hv, hR⟩) rfl rfl ?_
  rintro _ w11 hS11 ⟨D, va, vc, rfl, hRT⟩
  have hsp := sure_perm (txF cs) D S
  have htl := List.length_filter_le (lateB (txF cs) D) S
  obtain ⟨T, hT'⟩ : ∃ T, S.filter (lateB (txF cs) D) = T := ⟨_, rfl⟩
  rw [hT'] at hsp htl hRT ⊢
  clear hdf hp
  have iS : RowI w11 (.slice la S.length lc) true 6 (S.map encSl) := ⟨hRS.ext hS11.ext⟩
  have iT : RowI w11 (.slice va T.length vc) true 6 (T.map encSl) := ⟨hRT⟩
  by_cases h60 : 60 < S.length
  · (refine jI (eU rfl) (ju rfl rfl (ju rfl rfl (jJ (eS rfl) (jJ (eI rfl) (jz ?_))))); refine jjB (jjB (jjC (jI (eI rfl) (jjk rfl rfl (by omega) (jI (eB rfl) ?_))))); refine jT rfl rfl rfl (jI (eI rfl) (jT rfl rfl rfl (jjk rfl rfl (by omega) (jL rfl (eB rfl) (jI (eB rfl) ?_))))); refine jT rfl rfl rfl (jI (eS rfl) (jT rfl rfl rfl (jh rfl (jT rfl rfl rfl (jI (eS rfl) ?_))))); refine jT rfl rfl rfl (jh rfl (jT rfl rfl rfl (jje rfl rfl (by omega) (jL rfl (eB rfl) (jz ?_))))); refine jjK rfl (jjG (jjB (jjB (jjC (jI (eS rfl) ?_))))); refine jh rfl (jjd rfl rfl (by omega) (jz (jjJ rfl (jjB (jjC ?_))))); refine jI (eB rfl) (jJ (eB rfl) (jz (jjF ?_))); refine jB rfl rfl ⟨inferInstance, ?_⟩)
    exact rfl
  (refine jI (eU rfl) (ju rfl rfl (ju rfl rfl (jJ (eS rfl) (jJ (eI rfl) (jz ?_))))); refine jjB (jjB (jjC (jI (eI rfl) (jjk rfl rfl (by omega) (jI (eB rfl) ?_))))); refine jT rfl rfl rfl (jI (eI rfl) (jT rfl rfl rfl (jjk rfl rfl (by omega) (jL rfl (eB rfl) (jI (eB rfl) ?_))))); refine jT rfl rfl rfl (jI (eS rfl) (jT rfl rfl rfl (jh rfl (jT rfl rfl rfl (jI (eS rfl) ?_))))); refine jT rfl rfl rfl (jh rfl (jT rfl rfl rfl (jje rfl rfl (by omega) (jL rfl (eB rfl) (jz ?_))))); refine jjK rfl (jjG (jjB (jjB (jjC (jI (eS rfl) ?_))))); refine jh rfl (jje rfl rfl (by omega) (jz (jjK rfl (jjG (jjB ?_))))); refine jjC ?_)
  refine Ops.makeMap encPl ?_
  intro mb w12 hmb hs12 hS12 hM12
  have hE12 : Ext w11 w12 := hS12.ext
  have zmb : w11.heap.size ≤ mb := by omega
  have hEw11 : Ext w w11 := inferInstance
  (refine jJ (eM rfl) (jz (jjB (jjB (jjC (jI (eS rfl) ?_))))); refine jh rfl (jI (eI rfl) (jz (jjD ?_))))
  refine W.keep0 [(2, .int .i64 boxes), (3, .slice ba by_.length bc), (9, .bool true), (10, .slice la S.length lc), (12, .slice va T.length vc), (14, .map (some mb)), (92, .slice va T.length vc), (93, .int .i64 (T.length : Int)), (94, .int .i64 ((0 : Nat) : Int))] ⟨eI rfl, eS rfl, eB rfl, eS rfl, eS rfl, eM rfl, eS rfl, eI rfl, eI rfl, trivial⟩ fun s0 => ?_
  refine W.loopG (95 :: 96 :: 97 :: 16 :: 98 :: 99 :: 100 :: 101 :: 94 :: []) (fun g s' V => ∃ (k : Nat) (m : List (Pl × Value)), s' 94 = .int .i64 (k : Int) ∧ g = T.length - k ∧ k ≤ T.length ∧ Ext w11 V ∧ MapE encPl V mb m ∧ ∀ x : Pl, mget m x = if x ∈ (T.take k).map (·.1) then some (.bool true) else none) T.length ⟨0, [], rfl, rfl, Nat.zero_le _, hE12, hM12, fun x => by simp [mget]⟩ ?_
  rintro _ sd V ⟨k, m, h94, rfl, hk, hEV, hM, hmg⟩
  refine W.fix h94 ?_
  clear h94
  have hEV' := hEV.toStep
  by_cases hk1 : k < T.length
  · (refine jjB (jjC (jjZ rfl rfl (by omega) (jz (jjB (jjJ rfl ?_))))); refine jjG (jjB (jjD (jjB (jjC ?_)))); refine jF rfl rfl rfl (map_get (by omega)) ?_; intro _ _ _; refine jQ rfl rfl ?_)
    (apply jjR rfl; (intro _; first|exact eI rfl|exact eB rfl|exact eP rfl|exact eS rfl|exact eT rfl|exact eA rfl|exact eU rfl|exact eF rfl|exact eM rfl|exact eN rfl|exact rfl); exact rfl; exact rfl; exact rfl; exact rfl; intro b16 w_b16 hb_b16 hs_b16 hS_b16 hk_b16; have hA_b16 := Bk.of hk_b16)
    have A16 : At w_b16 b16 0 [.int .i64 T[k].1.1, .int .i64 T[k].1.2.1, .int .i64 T[k].1.2.2, .string T[k].2.1, .string T[k].2.2.1, .string T[k].2.2.2] := Bk.toAt (h := hA_b16)
    (refine jz (jjC (jI (eM rfl) (jm (jn rfl (jO rfl rfl rfl rfl ?_))))))
    refine Ops.mapUpdate (k := T[k].1) (v := .bool true) (hM.ext hS_b16.ext) rfl rfl rfl ?_
    intro w13 o13 hp13 hM13
    (refine jz (jjC (jY rfl rfl (by omega) (jI (eI rfl) (jz ?_)))))
    refine ⟨rfl, by (((iterate 10 refine Same.upd rfl ?_); exact Same.ovN)), T.length - (k + 1), by omega, k + 1, _, congrArg (Value.int .i64) (by omega), rfl, by omega, hp13.ext (hEV.trans hS_b16.ext) zmb, hM13, fun x => ?_⟩
    have hmem : x ∈ (T.take (k + 1)).map (·.1) ↔ x ∈ (T.take k).map (·.1) ∨ x = T[k].1 := by rw [take_snoc_get (List.getElem?_eq_getElem hk1), List.map_append, List.mem_append, List.map_cons, List.map_nil, List.mem_singleton]
    by_cases ex : x = T[k].1
    · subst ex
      rw [mget_set_same, if_pos (hmem.2 (.inr rfl))]
    · rw [mget_set_other _ _ ex, hmg]
      by_cases h1 : x ∈ (T.take k).map (·.1)
      · rw [if_pos h1, if_pos (hmem.2 (.inl h1))]
      · rw [if_neg h1, if_neg (fun h => (hmem.1 h).elim h1 ex)]
  obtain rfl : k = T.length := by omega
  rw [List.take_length] at hmg
  have hget : ∀ x : Pl, (mget m x).getD (.bool false) = .bool (decide (x ∈ T.map (·.1))) := fun x => by
    rw [hmg]
    by_cases h : x ∈ T.map (·.1)
    · rw [if_pos h, decide_eq_true h]; rfl
    · rw [if_neg h, decide_eq_false h]; rfl
  clear hmg
  have iSV : RowI V (.slice la S.length lc) true 6 (S.map encSl) := inferInstance
  (refine jjB (jjC (jja rfl rfl (by omega) (jz (jjB (jjK rfl ?_))))); refine jjE (jjB (jjC (jJ (eS rfl) (jz (jjB ?_))))); refine jjB (jjC (jI (eS rfl) (jh rfl (jI (eI rfl) (jz ?_))))); refine jjD ?_)
  refine W.keep0 [(2, .int .i64 boxes), (3, .slice ba by_.length bc), (9, .bool true), (10, .slice la S.length lc), (12, .slice va T.length vc), (14, .map (some mb)), (17, .slice none 0 0), (102, .slice la S.length lc), (103, .int .i64 (S.length : Int)), (104, .int .i64 ((0 : Nat) : Int))] ⟨eI rfl, eS rfl, eB rfl, eS rfl, eS rfl, eM rfl, eS rfl, eS rfl, eI rfl, eI rfl, trivial⟩ fun s1 => ?_
  refine W.loopG (105 :: 106 :: 107 :: 19 :: 108 :: 109 :: 110 :: 111 :: 112 :: 113 :: 114 :: 115 :: 116 :: 17 :: 117 :: 104 :: []) (fun g s' V2 => ∃ (k : Nat) (lv : Value), s' 104 = .int .i64 (k : Int) ∧ s' 17 = lv ∧ g = S.length - k ∧ k ≤ S.length ∧ Ext V V2 ∧ OwnL V2 V.heap.size 46 true 6 lv ((sureL (S.take k) (T.map (·.1))).map encSl)) S.length ⟨0, .slice none 0 0, rfl, rfl, rfl, Nat.zero_le _, .refl _, OwnL.nil _ _ _ _ _⟩ ?_
  rintro _ sd2 V2 ⟨k, lv, h104, h17, rfl, hk, hE2, hO⟩
  obtain ⟨ua, uc, rfl⟩ := hO.slice
  rw [List.length_map] at hO h17
  refine W.fix h104 (W.fix (d := 17) h17 ?_)
  clear h104 h17
  have hE2' := hE2.toStep
  have z2 := hE2.size
  have hsl : (sureL (S.take k) (T.map (·.1))).length ≤ 60 := by
    have := List.length_filter_le (fun s : Slp => !decide (s.1 ∈ T.map (·.1))) (S.take k)
    rw [List.length_take] at this
    rw [sureL]; omega
  by_cases hk2 : k < S.length
  · have hsn := sureL_snoc (P := T.map (·.1)) hk2
    obtain ⟨B, hB⟩ : ∃ B, decide (S[k].1 ∈ T.map (·.1)) = B := ⟨_, rfl⟩
    (refine jjB (jjC (jjZ rfl rfl (by omega) (jz (jjB (jjJ rfl ?_))))); refine jjG (jjB (jjD (jjB (jjC ?_)))); refine jF rfl rfl rfl (map_get (by omega)) ?_; intro _ _ _; refine jQ rfl rfl ?_)
    (apply jjR rfl; (intro _; first|exact eI rfl|exact eB rfl|exact eP rfl|exact eS rfl|exact eT rfl|exact eA rfl|exact eU rfl|exact eF rfl|exact eM rfl|exact eN rfl|exact rfl); exact rfl; exact rfl; exact rfl; exact rfl; intro b19 w_b19 hb_b19 hs_b19 hS_b19 hk_b19; have hA_b19 := Bk.of hk_b19)
    have A19 : At w_b19 b19 0 [.int .i64 S[k].1.1, .int .i64 S[k].1.2.1, .int .i64 S[k].1.2.2, .string S[k].2.1, .string S[k].2.2.1, .string S[k].2.2.2] := Bk.toAt (h := hA_b19)
    have e19 := hE2.trans hS_b19.ext
    (refine jz (jjB (jjC (jI (eM rfl) (jm (jn rfl ?_))))); refine jO rfl rfl rfl rfl ?_)
    refine Ops.lookupV (k := S[k].1) (v := .bool B) (by rw [hget, hB]) (hM.ext e19) rfl rfl ?_
    cases B with
    | true =>
      rw [if_pos (of_decide_eq_true hB), List.append_nil] at hsn
      (refine jp rfl (jz (jjK rfl (jjG (jjC (jY rfl rfl (by omega) ?_))))); refine jI (eI rfl) (jz ?_))
      exact ⟨rfl, by (((iterate 13 refine Same.upd rfl ?_); exact Same.ovN)), S.length - (k + 1), by omega, k + 1, _, congrArg (Value.int .i64) (by omega), rfl, rfl, by omega, e19, by rw [hsn]; exact hO.ext hS_b19.ext⟩
    | false =>
      rw [if_neg (of_decide_eq_false hB)] at hsn
      (refine jq rfl (jz (jjJ rfl (jjC (jI (eS rfl) (jO rfl rfl rfl rfl ?_))))))
      (refine jjP (v := .agg _) rfl (by exact rfl) (by exact rfl) (by exact rfl) (by exact rfl) ?_; intro b115 w_b115 hb_b115 hs_b115 hS_b115 hk_b115; have hR_b115 := RowV.one (agg := true) (k := 6) rfl hk_b115)
      have e115 := e19.trans hS_b115.ext
      have R115 : RowV w_b115 true 6 (.slice (some ⟨b115, 0, none⟩) 1 1) [encSl S[k]] := hR_b115
      refine Ops.appendL (hO.ext (hS_b19.ext.trans hS_b115.ext)) e115.size R115 rfl rfl rfl rfl rfl ?_ ?_ ?_
      · rw [List.length_map]; simp only [List.length_cons, List.length_nil]; omega
      · rw [List.length_map]; simp only [List.length_cons, List.length_nil]; omega
      intro v6 w14 hA14 hO14 _ _
      have e14 : (sureL (S.take k) (T.map (·.1))).map encSl ++ [encSl S[k]] = (sureL (S.take (k + 1)) (T.map (·.1))).map encSl := by rw [hsn]; simp
      rw [e14] at hO14
      (refine jJ rfl (jz (jjC (jY rfl rfl (by omega) (jI (eI rfl) (jz ?_))))))
      exact ⟨rfl, by (((iterate 18 refine Same.upd rfl ?_); exact Same.ovN)), S.length - (k + 1), by omega, k + 1, v6, congrArg (Value.int .i64) (by omega), rfl, rfl, by omega, hA14.ext e115 (Nat.le_refl _), hO14⟩
  obtain rfl : k = S.length := by omega
  rw [List.take_length] at hO hsl ⊢
  obtain ⟨U, hU⟩ : ∃ U, sureL S (T.map (·.1)) = U := ⟨_, rfl⟩
  rw [hU] at hO hsl hsp ⊢
  have hlen := hsp.length_eq
  rw [List.length_append] at hlen
  have hSr : ∀ x ∈ S, slipB x = true := F.rt
  have hUr : ∀ x ∈ U, slipB x = true := fun x hx => hSr x (hsp.mem_iff.1 (List.mem_append_left _ hx))
  have hTr : ∀ x ∈ T, slipB x = true := fun x hx => hSr x (hsp.mem_iff.1 (List.mem_append_right _ hx))
  have iU : RowI V2 (.slice ua U.length uc) true 6 (U.map encSl) := ⟨hO.row⟩
  have eV2 : Ext w V2 := hEw11.trans (hEV.trans hE2)
  have eV2' := eV2.toStep
  (refine jjB (jjC (jja rfl rfl (by omega) (jz (jjB (jjK rfl ?_))))); refine jjE (jjB (jjC (jI (eS rfl) (jI (eS rfl) ?_)))))
  refine jjQ (lateMixed_top ua uc U ba bc by_ _ hu (by omega)) rfl rfl ?_
  rintro _ w15 hS15 ⟨U', m1, n1, rfl, hpU, hO15⟩
  have hlU := hpU.length_eq
  have iU' : RowI w15 (.slice m1 U'.length n1) true 6 (U'.map encSl) := ⟨hO15.row⟩
  have hUa : U'.all slipB = true := List.all_eq_true.2 fun x hx => hUr x (hpU.mem_iff.1 hx)
  have fp1 := file_perm (n := 1) (boxes := boxes) (l := U') (by omega) hUa (by decide) hbx
  have fo1 := file_ord (n := 1) (boxes := boxes) (l := U') (by omega) hUa (by decide) hbx
  (apply jI; exact eI rfl)
  refine jjQ (File1_top m1 n1 U' _ boxes (by omega) hUa hbx) rfl rfl ?_
  rintro _ w16 hS16 ⟨p1, f1, g1, rfl, hRF⟩
  obtain ⟨F1, hF1⟩ : ∃ l, fileL U' 1 boxes = l := ⟨_, rfl⟩
  rw [hF1] at hRF fp1 fo1 ⊢
  have e16 : Ext V2 w16 := hS15.ext.trans hS16.ext
  have iS16 : RowI w16 (.slice la S.length lc) true 6 (S.map encSl) := ⟨iSV.h.ext (hE2.trans e16)⟩
  (refine jI (eU rfl) (ju rfl rfl (ju rfl rfl (ju rfl rfl (jJ (eS rfl) (jJ (eI rfl) ?_))))); refine jJ (eI rfl) (jz (jjB (jjC (jI (eS rfl) (jI (eS rfl) ?_))))))
  refine jjQ (lateMixed_top la lc S ba bc by_ _ hu (by omega)) rfl rfl ?_
  rintro _ w17 hS17 ⟨S', m2, n2, rfl, hpS, hO17⟩
  have hlS := hpS.length_eq
  have iS' : RowI w17 (.slice m2 S'.length n2) true 6 (S'.map encSl) := ⟨hO17.row⟩
  have hSa : S'.all slipB = true := List.all_eq_true.2 fun x hx => hSr x (hpS.mem_iff.1 hx)
  have fp2 := file_perm (n := 1) (boxes := boxes) (l := S') (by omega) hSa (by decide) hbx
  have fo2 := file_ord (n := 1) (boxes := boxes) (l := S') (by omega) hSa (by decide) hbx
  (apply jI; exact eI rfl)
  refine jjQ (File1_top m2 n2 S' _ boxes (by omega) hSa hbx) rfl rfl ?_
  rintro _ w18 hS18 ⟨p2, f2, g2, rfl, hRW⟩
  obtain ⟨W1, hW1⟩ : ∃ l, fileL S' 1 boxes = l := ⟨_, rfl⟩
  rw [hW1] at hRW fp2 fo2 ⊢
  have hlF := fp1.length_eq
  have hlW := fp2.length_eq
  have e18 : Ext w16 w18 := hS17.ext.trans hS18.ext
  have iT18 : RowI w18 (.slice va T.length vc) true 6 (T.map encSl) := ⟨iT.h.ext (hEV.trans (hE2.trans (e16.trans e18)))⟩
  have iF18 : RowI w18 (.slice f1 F1.length g1) true 6 (F1.map encSl) := ⟨hRF.ext e18⟩
  clear hO hO15 hO17 hM hM12
  (refine jI (eU rfl) (ju rfl rfl (ju rfl rfl (ju rfl rfl (jJ (eS rfl) (jJ (eI rfl) ?_))))); refine jJ (eI rfl) (jz (jjB (jjB (jjC (jI (eI rfl) ?_))))); refine jjk rfl rfl (by omega) (jI (eB rfl) (jT rfl rfl rfl (jI (eI rfl) (jT rfl rfl rfl (jjk rfl rfl (by omega) ?_))))); refine jL rfl (eB rfl) (jI (eB rfl) (jT rfl rfl rfl (jI (eS rfl) (jT rfl rfl rfl (jh rfl ?_))))); refine jT rfl rfl rfl (jI (eS rfl) (jT rfl rfl rfl (jh rfl (jT rfl rfl rfl (jY rfl rfl (by omega) ?_))))); refine jT rfl rfl rfl (jI (eS rfl) (jT rfl rfl rfl (jh rfl (jT rfl rfl rfl (jjk rfl rfl (by omega) ?_))))); refine jL rfl (eB rfl) (jI (eB rfl) (jT rfl rfl rfl (jI (eS rfl) (jT rfl rfl rfl (jh rfl ?_))))); refine jT rfl rfl rfl (jI (eS rfl) (jT rfl rfl rfl (jh rfl (jT rfl rfl rfl (jjk rfl rfl (by omega) ?_))))); refine jL rfl (eB rfl) (jz (jjK rfl (jjG (jjB (jjC ?_))))))
  refine Ops.buildSlice0 ?_
  intro b159 w19 hb159 hs159 hS19 hk159
  have hO19 := OwnL.empty (agg := true) (k := 6) (B := w18.heap.size) (by omega) hk159
  (apply jI; exact eS rfl)
  refine Ops.appendL hO19 (by omega) (iF18.h.ext hS19.ext) rfl rfl rfl rfl (sl_one F1) ?_ ?_ ?_
  · simp only [List.length_map, List.length_nil]; omega
  · simp only [List.length_map, List.length_nil]; omega
  intro v161 w20 hA20 hO20 _ _
  rw [List.nil_append] at hO20
  have e20 : Ext w18 w20 := hA20.ext hS19.ext (Nat.le_refl _)
  have e20' := e20.toStep
  (refine jI (eS rfl) (jI (eS rfl) ?_))
  refine jjQ (lateMixed_top va vc T ba bc by_ _ hu (by omega)) rfl rfl ?_
  rintro _ w21 hS21 ⟨T', m3, n3, rfl, hpT, hO21⟩
  have hlT := hpT.length_eq
  have e21 : Ext w18 w21 := e20.trans hS21.ext
  skip
  refine Ops.appendL (hO20.ext hS21.ext) e21.size hO21.row rfl rfl rfl rfl (sl_one T') ?_ ?_ ?_
  · simp only [List.length_map]; omega
  · simp only [List.length_map]; omega
  intro v165 w22 hA22 hO22 _ _
  have e22 : Ext w18 w22 := hA22.ext e21 (Nat.le_refl _)
  rw [← List.map_append] at hO22
  obtain ⟨k1, k2, rfl⟩ := hO22.slice
  rw [List.length_map] at hO22 ⊢
  have hdl : (F1 ++ T').length = S.length := by rw [List.length_append]; omega
  have hdp : (F1 ++ T').Perm S := ((fp1.trans hpU).append hpT).trans hsp
  have hda : (F1 ++ T').all slipB = true := List.all_eq_true.2 fun x hx => hSr x (hdp.mem_iff.1 hx)
  have hdn : (F1 ++ T').Nodup := hdp.nodup_iff.2 F.nd
  have few := fun C hC l hl => late_few (F := F1) (T := T') (C := C) fo1 hC (l := l) hl
  obtain ⟨K, hK⟩ : ∃ l, F1 ++ T' = l := ⟨_, rfl⟩
  rw [hK] at hO22 hdl hdp hda hdn few ⊢
  have rw1 := fun L hL => right_want (D := K) (W := W1) (L := L) hdn ((fp2.trans hpS).trans hdp.symm) fo2 hL
  have hdk : deckB (rkD 1 K) = true := rkD_deck (by omega)
  have hkl := rkD_len 1 K
  have iK : RowI w22 (.slice k1 K.length k2) true 6 (K.map encSl) := ⟨hO22.row⟩
  have e22w := ((eV2.trans (e16.trans e18)).trans e22).toStep
  (refine jJ (eS rfl) (jz (jjB (jjC (jI (eS rfl) ?_)))))
  refine jjQ (Ranks1_top k1 k2 K _ (by omega) hda) rfl rfl ?_
  rintro _ w23 hS23 ⟨da, dc, rfl, hRD⟩
  have iD : RowI w23 (.slice da (rkD 1 K).length dc) false 1 ((rkD 1 K).map intV) := ⟨hRD⟩
  (refine jI (eU rfl) (ju rfl rfl (ju rfl rfl (jJ (eS rfl) (jJ (eI rfl) (jz ?_))))); refine jjB (jjC (jI (eS rfl) ?_)))
  refine jjQ (Ct.mono (Mend_rack da dc (rkD 1 K) _ (by omega)) (R' := fun v w' => ∃ (l : List (Int × Int)) (ma : Option Addr) (mc : Nat) (C : List Int), v = .tuple #[.slice ma l.length mc, .int .i64 0] ∧ RowV w' true 2 (.slice ma l.length mc) (l.map encII) ∧ BegR (rkD 1 K) C ∧ l = (mendF (rkD 1 K) (keepK (rkD 1 K) C) (rkD 1 K).length).2.2) fun v w' _ ⟨l, e, ma, mc, hv, hR, h⟩ => by
    rcases h with ⟨h1, _⟩ | ⟨_, rfl, C, hC, hml⟩
    · rw [hdk] at h1; exact absurd h1 (by decide)
    · exact ⟨l, ma, mc, C, hv, hR, hC, hml⟩) rfl rfl ?_
  rintro _ w24 hS24 ⟨l, ma, mc, C, rfl, hRM, hBC, hml⟩
  have hfw := few C hBC l hml
  obtain ⟨q1, q2, q3, q4⟩ := mend_facts hBC hml
  have q2' : l.any (mvBad (rkD 1 K).length) = false := List.any_eq_false.2 fun m hm => by rw [q2 m hm]; decide
  have iM : RowI w24 (.slice ma l.length mc) true 2 (l.map encII) := ⟨hRM⟩
  (refine jI (eU rfl) (ju rfl rfl (ju rfl rfl (jJ (eS rfl) (jJ (eI rfl) (jz ?_))))); refine jjB (jjC (jI (eS rfl) (jI (eS rfl) ?_))))
  refine jjQ (Ct.mono (Moved_rack da ma dc mc (rkD 1 K) l _ (by omega) (by omega)) (R' := fun v w' => ∃ (L : List Int) (va : Option Addr) (vc : Nat), v = .tuple #[.slice va L.length vc, .int .i64 0] ∧ RowV w' false 1 (.slice va L.length vc) (L.map intV) ∧ RightI (rkD 1 K) L) fun v w' _ ⟨L, e, va, vc, hv, hR, h⟩ => by
    rcases h with ⟨h1, _⟩ | ⟨_, h1, _⟩ | ⟨_, _, h1, _⟩ | ⟨_, _, _, hL, rfl⟩
    · rw [hdk] at h1; exact absurd h1 (by decide)
    · omega
    · rw [q2'] at h1; exact absurd h1 (by decide)
    · rw [← hL] at q3
      exact ⟨L, va, vc, hv, hR, q3⟩) rfl rfl ?_
  rintro _ w25 hS25 ⟨L, ka, kc, rfl, hRL, hRI⟩
  have hWL := rw1 L hRI
  have hLl : L.length = K.length := by
    have := congrArg List.length hWL
    rw [List.length_map] at this
    omega
  have hin : ∀ x ∈ L, 0 ≤ x ∧ x < (K.length : Int) := fun x hx => by
    have := upN_mem.1 (hRI.1.mem_iff.1 hx)
    rwa [hkl] at this
  have iL : RowI w25 (.slice ka L.length kc) false 1 (L.map intV) := ⟨hRL⟩
  have e25 : Ext w22 w25 := hS23.ext.trans (hS24.ext.trans hS25.ext)
  have iK25 : RowI w25 (.slice k1 K.length k2) true 6 (K.map encSl) := ⟨iK.h.ext e25⟩
  have iW25 : RowI w25 (.slice f2 W1.length g2) true 6 (W1.map encSl) := ⟨hRW.ext (e22.trans e25)⟩
  (refine jI (eU rfl) (ju rfl rfl (ju rfl rfl (jJ (eS rfl) (jJ (eI rfl) (jz ?_))))); refine jjB (jjB (jjC (jI (eI rfl) (jjk rfl rfl (by omega) (jI (eB rfl) ?_))))); refine jT rfl rfl rfl (jI (eI rfl) (jT rfl rfl rfl (jjk rfl rfl (by omega) (jL rfl (eB rfl) (jI (eB rfl) ?_))))); refine jT rfl rfl rfl (jI (eI rfl) (jT rfl rfl rfl (jjk rfl rfl (by omega) (jL rfl (eB rfl) (jI (eB rfl) ?_))))); refine jT rfl rfl rfl (jI (eS rfl) (jT rfl rfl rfl (jh rfl (jT rfl rfl rfl (jI (eS rfl) ?_))))); refine jT rfl rfl rfl (jh rfl (jT rfl rfl rfl (jje rfl rfl (by omega) (jL rfl (eB rfl) (jI (eB rfl) ?_))))); refine jT rfl rfl rfl (jI (eS rfl) (jT rfl rfl rfl (jh rfl (jT rfl rfl rfl (jI (eS rfl) ?_))))); refine jT rfl rfl rfl (jh rfl (jT rfl rfl rfl (jjk rfl rfl (by omega) (jL rfl (eB rfl) (jz ?_))))); refine jjK rfl (jjG (jjB (jjB (jjC (jI (eS rfl) ?_))))); refine jh rfl (jI (eI rfl) (jz (jjD ?_))))
  refine W.keep0 [(9, .bool true), (23, .slice f2 W1.length g2), (26, .slice k1 K.length k2), (206, .slice ka L.length kc), (207, .int .i64 (L.length : Int)), (208, .int .i64 ((0 : Nat) : Int))] ⟨eB rfl, eS rfl, eS rfl, eS rfl, eI rfl, eI rfl, trivial⟩ fun s3 => ?_
  refine W.loop (209 :: 210 :: 211 :: 212 :: 33 :: 34 :: 213 :: 214 :: 215 :: 216 :: 217 :: 218 :: 219 :: 220 :: 221 :: 222 :: 223 :: 224 :: 225 :: 226 :: 227 :: 228 :: 229 :: 230 :: 231 :: 8 :: 232 :: 208 :: []) (fun g s' V => ∃ n : Nat, s' 208 = .int .i64 ((n : Nat) : Int) ∧ g = L.length - n ∧ n ≤ L.length) L.length ⟨0, rfl, rfl, Nat.zero_le _⟩ ?_
  rintro _ sd3 V3 hS3 ⟨n, h208, rfl, hn⟩
  refine W.fix h208 ?_
  clear h208
  by_cases hn1 : n < L.length
  rotate_left
  · (refine jjB (jjC (jja rfl rfl (by omega) (jz (jjB (jjK rfl ?_))))); refine jjE (jjB (jjC (jI (eB rfl) (jJ (eB rfl) (jz ?_))))); refine jjF ?_; refine jB rfl rfl ⟨inferInstance, ?_⟩)
    exact rfl
  have hLn := hin L[n] (List.getElem_mem hn1)
  obtain ⟨M, hM⟩ : ∃ M : Nat, L[n] = (M : Int) := ⟨L[n].toNat, by omega⟩
  have hMK : M < K.length := by omega
  have hnW : n < W1.length := by omega
  have hKW : K[M] = W1[n] := by
    have h := congrArg (fun l => l[n]?) hWL
    simp only [List.getElem?_map, List.getElem?_eq_getElem hn1, List.getElem?_eq_getElem hnW, Option.map_some, Option.some.injEq] at h
    rw [hM, Int.toNat_natCast, List.getD_eq_getElem?_getD, List.getElem?_eq_getElem hMK] at h
    exact h
  have gL : (L.map intV)[n]? = some (intV (M : Int)) := by rw [List.getElem?_map, List.getElem?_eq_getElem hn1, Option.map_some, hM]
  have gK : (K.map encSl)[M]? = some (encSl K[M]) := by rw [List.getElem?_map, List.getElem?_eq_getElem hMK]; rfl
  have gW : (W1.map encSl)[n]? = some (encSl W1[n]) := by rw [List.getElem?_map, List.getElem?_eq_getElem hnW]; rfl
  obtain ⟨lb, lo, rfl, -⟩ := iL.h.place' gL
  obtain ⟨kb, ko, rfl, -⟩ := iK25.h.place' gK
  obtain ⟨wb, wo, rfl, -⟩ := iW25.h.place' gW
  have AL0 := place_k (iL.h.ext hS3.ext) gL
  rw [Nat.mul_one] at AL0
  have AL : At V3 lb (lo + n) [.int .i64 (M : Int)] := AL0
  have AK : ∀ V, Ext V3 V → At V kb (ko + M * 6) (encSl K[M]).cells.toList := fun V e => place_k (iK25.h.ext (hS3.ext.trans e)) gK
  have AW : ∀ V, Ext V3 V → At V wb (wo + n * 6) (encSl W1[n]).cells.toList := fun V e => place_k (iW25.h.ext (hS3.ext.trans e)) gW
  clear iL
  (refine jjB (jjC (jjZ rfl rfl (by omega) (jz (jjB (jjJ rfl ?_))))); refine jjG (jjB (jjD (jjB (jjC (jI (eI rfl) ?_))))); refine jG rfl rfl rfl (by omega) ?_)
  refine jR (AL.get (i := 0) rfl) rfl rfl ?_
  (refine jJ (eI rfl) (jJ (eI rfl) (jz (jjB ?_))))
  refine W.draw (fun w' => Ext V3 w') ?_
  intro x1 hX1
  have r1 := hX1.ext
  refine jjV [0, 1, 2, 3, 4, 5, 6, 7, 8, 9, 10] (by decide +kernel) r1 ?_
  (((refine jjT rfl (fun _ _ => jI (eI rfl) (jz ⟨rfl, rfl⟩)) (jjT rfl (fun _ _ => jja rfl rfl (by omega) (jz ⟨rfl, rfl⟩)) (jjT rfl (fun _ _ => jI (eB rfl) (jz ⟨rfl, rfl⟩)) (jjT rfl (fun _ _ => jT rfl rfl rfl (jI (eI rfl) (jz ⟨rfl, rfl⟩))) (jjT rfl (fun _ _ => jT rfl rfl rfl (jI (eS rfl) (jz ⟨rfl, rfl⟩))) (jjT rfl (fun _ _ => jT rfl rfl rfl (jh rfl (jz ⟨rfl, rfl⟩))) ?_))))); refine jjT rfl (fun _ _ => jT rfl rfl rfl (jjg rfl rfl (by omega) (jz ⟨rfl, rfl⟩))) (jjT rfl (fun _ _ => jL rfl (eB rfl) (jz ⟨rfl, rfl⟩)) (jjT rfl (fun _ _ => jI (eB rfl) (jz ⟨rfl, rfl⟩)) (jjT rfl (fun _ _ => jT rfl rfl rfl (jI (eS rfl) (jz ⟨rfl, rfl⟩))) (jjT rfl (fun _ _ => jT rfl rfl rfl (jI (eI rfl) (jz ⟨rfl, rfl⟩))) (jjU ?_))))))))
  refine jjV [11] (by decide +kernel) r1 (jjT (v := .pointer (some ⟨kb, ko + M * 6, none⟩)) rfl (fun w' q1 => ?_) (jjU ?_)); (refine jT rfl rfl rfl ?_; refine jH M rfl rfl rfl (by omega) ?_; refine jz ?_; exact ⟨rfl, rfl⟩)
  refine jjV [12] (by decide +kernel) r1 (jjT (v := encSl K[M]) rfl (fun w' q1 => ?_) (jjU ?_)); (refine jT rfl rfl rfl ?_; refine Ops.loadOA (off := 0) (AK _ q1) rfl rfl rfl rfl ?_; refine jz ?_; exact ⟨rfl, rfl⟩)
  refine jjV [13, 14] (by decide +kernel) r1 ?_
  (((refine jjT rfl (fun _ _ => jT rfl rfl rfl (jI (eS rfl) (jz ⟨rfl, rfl⟩))) (jjT rfl (fun _ _ => jT rfl rfl rfl (jI (eI rfl) (jz ⟨rfl, rfl⟩))) (jjU ?_)))))
  refine jjV [15] (by decide +kernel) r1 (jjT (v := .pointer (some ⟨wb, wo + n * 6, none⟩)) rfl (fun w' q1 => ?_) (jjU ?_)); (refine jT rfl rfl rfl ?_; refine jH n rfl rfl rfl (by omega) ?_; refine jz ?_; exact ⟨rfl, rfl⟩)
  refine jjV [16] (by decide +kernel) r1 (jjT (v := encSl W1[n]) rfl (fun w' q1 => ?_) (jjU ?_)); (refine jT rfl rfl rfl ?_; refine Ops.loadOA (off := 0) (AW _ q1) rfl rfl rfl rfl ?_; refine jz ?_; exact ⟨rfl, rfl⟩)
  refine jjV [17] (by decide +kernel) r1 (jjT (v := .bool false) rfl (fun w' q1 => ?_) (jjU ?_)); (refine jT rfl rfl rfl ?_; refine Ops.neqT (enc := encSl) K[M] W1[n] rfl rfl ?_; rw [decide_eq_false (by simp [hKW])]; refine jz ?_; exact ⟨rfl, rfl⟩)
  refine jjV [18] (by decide +kernel) r1 ?_
  (((refine jjT rfl (fun _ _ => jL rfl (eB rfl) (jz ⟨rfl, rfl⟩)) (jjU ?_))))
  refine jjX (by decide +kernel) r1 ?_
  (refine jjK rfl (jjG (jjC (jY rfl rfl (by omega) (jI (eI rfl) (jz ?_))))))
  exact ⟨rfl, by (((iterate 28 refine Same.upd rfl ?_); exact Same.ovN)), L.length - (n + 1), by omega, inferInstance, n + 1, congrArg (Value.int .i64) (by omega), rfl, by omega⟩
end
end Go.Proofs.YtgnkloloehlfnaaGreatDoor
