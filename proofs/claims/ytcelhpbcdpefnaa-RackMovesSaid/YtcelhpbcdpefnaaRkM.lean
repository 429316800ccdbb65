/- Moves, in plain Lean. -/
import Derived.Test.YtcelhpbcdpefnaaRa0
import Derived.Test.YtcelhpbcdpefnaaEng11
namespace Go.Proofs.Ytcelhpbcdpefnaa
open Go.RowKit

/-- One move. -/
def mvF (l : List Int) (f t : Nat) : List Int := (l.eraseIdx f).take t ++ l.getD f 0 :: (l.eraseIdx f).drop t
theorem mvF_len {l : List Int} {f t : Nat} (h : f < l.length) (ht : t < l.length) : (mvF l f t).length = l.length := by
  rw [mvF, List.length_append, List.length_cons, List.length_take, List.length_drop, List.length_eraseIdx, if_pos h]; omega
/-- A move is wrong. -/
def mvBad (n : Nat) (m : Int × Int) : Bool := !(inB 0 ((n : Int) - 1) m.1 && inB 0 ((n : Int) - 1) m.2)
theorem mvBad_no {n : Nat} {m : Int × Int} (h : mvBad n m = false) : ∃ f t : Nat, f < n ∧ t < n ∧ m = ((f : Int), (t : Int)) := by
  simp only [mvBad, inB, Bool.not_eq_false', Bool.and_eq_true, decide_eq_true_eq] at h
  obtain ⟨a, b⟩ := m
  simp only at h
  exact ⟨a.toNat, b.toNat, by omega, by omega, by rw [Int.toNat_of_nonneg h.1.1, Int.toNat_of_nonneg h.2.1]⟩
def mvS (l : List Int) (m : Int × Int) : List Int := mvF l m.1.toNat m.2.toNat
/-- How slips lie after moves. -/
def movedF (n : Nat) (ms : List (Int × Int)) : List Int := ms.foldl mvS (upN n)
theorem movedF_snoc (n : Nat) (ms : List (Int × Int)) (m : Int × Int) : movedF n (ms ++ [m]) = mvS (movedF n ms) m := by simp [movedF]
theorem movedF_len {n : Nat} {ms : List (Int × Int)} (h : ∀ m ∈ ms, mvBad n m = false) : (movedF n ms).length = n := by
  suffices k : ∀ (ms : List (Int × Int)) (l : List Int), (∀ m ∈ ms, mvBad n m = false) → l.length = n → (ms.foldl mvS l).length = n from k ms _ h (upN_len n)
  intro ms
  induction ms with
  | nil => intro l _ hl; exact hl
  | cons m ms ih =>
    intro l h hl
    rw [List.foldl_cons]
    refine ih _ (fun x hx => h x (List.mem_cons_of_mem _ hx)) ?_
    obtain ⟨f, t, hf, ht, rfl⟩ := mvBad_no (h m List.mem_cons_self)
    exact (mvF_len (by omega) (by omega)).trans hl
end Go.Proofs.Ytcelhpbcdpefnaa
