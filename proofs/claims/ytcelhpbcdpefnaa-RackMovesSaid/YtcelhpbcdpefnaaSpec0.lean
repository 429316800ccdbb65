/- Plain functions that several contracts speak of. -/
import Derived.Test.YtcelhpbcdpefnaaEng4
namespace Go.Proofs.Ytcelhpbcdpefnaa
open Go.RowKit

def inB (lo hi n : Int) : Bool := decide (lo ≤ n ∧ n ≤ hi)
theorem not_any_not {α : Type} (q : α → Bool) (xs : List α) : (!(xs.any fun n => !q n)) = xs.all q := by
  induction xs with
  | nil => rfl
  | cons x xs ih => simp only [List.any_cons, List.all_cons, Bool.not_or, ih, Bool.not_not]
theorem any_not {α : Type} (q : α → Bool) (xs : List α) : (xs.any fun n => !q n) = !xs.all q := by
  rw [← not_any_not, Bool.not_not]
def lowB (c : UInt8) : Bool := decide (97 ≤ c.toNat ∧ c.toNat ≤ 122)
def wordB (s : ByteArray) : Bool := decide (1 ≤ s.size ∧ s.size ≤ 12) && s.data.toList.all lowB
theorem low_any (l : List UInt8) : (!l.any fun c => decide ((c.toNat : Int) < 97 ∨ 122 < (c.toNat : Int))) = l.all lowB := by
  rw [← not_any_not]
  congr 2
  funext c
  rw [lowB, ← decide_not, decide_eq_decide]
  omega
theorem word_yes (s : ByteArray) (h : [(s.size : Int)].all (inB 1 12) = true) : (!s.data.toList.any fun c => decide ((c.toNat : Int) < 97 ∨ 122 < (c.toNat : Int))) = wordB s := by
  rw [low_any, wordB]
  simp [inB] at h
  have : decide (1 ≤ s.size ∧ s.size ≤ 12) = true := decide_eq_true (by omega)
  rw [this]; rfl
theorem word_no (s : ByteArray) (h : [(s.size : Int)].all (inB 1 12) = false) : false = wordB s := by
  rw [wordB]
  simp [inB] at h
  have : decide (1 ≤ s.size ∧ s.size ≤ 12) = false := decide_eq_false (by omega)
  rw [this]; rfl
end Go.Proofs.Ytcelhpbcdpefnaa
