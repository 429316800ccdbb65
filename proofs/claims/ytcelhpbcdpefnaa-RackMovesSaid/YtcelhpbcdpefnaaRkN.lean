/- A deck is put right, in plain Lean. -/
import Derived.Test.YtcelhpbcdpefnaaRkC
import Derived.Test.YtcelhpbcdpefnaaRkM
namespace Go.Proofs.Ytcelhpbcdpefnaa
open Go.RowKit

abbrev MSt := List Int × List Int × List (Int × Int)
/-- Slip k is settled and has a greater rank than slip i. -/
def pM (d S : List Int) (i : Nat) (k : Int) : Bool := decide (k ∈ S) && decide (gd d i < gd d k.toNat)
/-- The place to which a slip goes. -/
def toM (d S r : List Int) (i : Nat) : Nat := if idxV (pM d S i) r < 0 then r.length else (idxV (pM d S i) r).toNat
def mendS (d : List Int) (st : MSt) (i : Nat) : MSt :=
  if (i : Int) ∈ st.2.1 then st else
    (mvF st.1 (st.1.idxOf (i : Int)) (toM d st.2.1 (st.1.eraseIdx (st.1.idxOf (i : Int))) i), (i : Int) :: st.2.1, st.2.2 ++ [(((st.1.idxOf (i : Int) : Nat) : Int), ((toM d st.2.1 (st.1.eraseIdx (st.1.idxOf (i : Int))) i : Nat) : Int))])
def mendF (d K : List Int) (m : Nat) : MSt := (List.range m).foldl (mendS d) (upN d.length, K, [])
theorem mendF_succ (d K : List Int) (m : Nat) : mendF d K (m + 1) = mendS d (mendF d K m) m := by simp [mendF, List.range_succ]
theorem toM_le (d S r : List Int) (i : Nat) : toM d S r i ≤ r.length := by
  rw [toM]
  split
  · exact Nat.le_refl _
  · rename_i h
    unfold idxV at h ⊢
    cases hf : r.findIdx? (pM d S i) with
    | none => rw [hf] at h; simp at h
    | some k =>
      rw [List.findIdx?_eq_some_iff_getElem] at hf
      obtain ⟨hk, _⟩ := hf
      simp; omega
theorem idxOf_facts {l : List Int} {x : Int} (h : x ∈ l) : l.idxOf x < l.length ∧ l[l.idxOf x]? = some x ∧ ∀ j, j < l.idxOf x → l[j]? ≠ some x := by
  have h1 := List.idxOf_lt_length_of_mem h
  refine ⟨h1, ?_, fun j hj hx => ?_⟩
  · rw [List.getElem?_eq_getElem h1, List.getElem_idxOf]
  · have hjl : j < l.length := by omega
    rw [List.getElem?_eq_getElem hjl] at hx
    have := List.not_of_lt_findIdx (p := (· == x)) (xs := l) (i := j) hj
    simp only [beq_eq_false_iff_ne, ne_eq] at this
    exact this (Option.some.inj hx)
theorem upN_nodup (n : Nat) : (upN n).Nodup := by
  rw [upN]
  exact List.Pairwise.map _ (fun a b (h : a ≠ b) => by omega) List.nodup_range
theorem eraseIdx_perm {l : List Int} {f : Nat} {x : Int} (h : l[f]? = some x) : (x :: l.eraseIdx f).Perm l := by
  obtain ⟨hf, rfl⟩ := List.getElem?_eq_some_iff.1 h
  rw [List.eraseIdx_eq_take_drop_succ]
  have e : l = l.take f ++ l[f] :: l.drop (f + 1) := by rw [← List.drop_eq_getElem_cons hf, List.take_append_drop]
  conv => rhs; rw [e]
  exact List.perm_middle.symm
theorem mvF_perm {l : List Int} {f t : Nat} {x : Int} (h : l[f]? = some x) : (mvF l f t).Perm l := by
  have hx : l.getD f 0 = x := by simp [List.getD_eq_getElem?_getD, h]
  rw [mvF, hx]
  refine List.Perm.trans List.perm_middle ?_
  rw [List.take_append_drop]
  exact eraseIdx_perm h
theorem mendS_perm {d : List Int} {st : MSt} {i : Nat} (hi : i < d.length) (h : st.1.Perm (upN d.length)) : (mendS d st i).1.Perm (upN d.length) := by
  rw [mendS]
  split
  · exact h
  · have hm : (i : Int) ∈ st.1 := by rw [h.mem_iff, upN_mem]; omega
    exact (mvF_perm (idxOf_facts hm).2.1).trans h
theorem mendF_perm (d K : List Int) : ∀ m, m ≤ d.length → (mendF d K m).1.Perm (upN d.length) := by
  intro m
  induction m with
  | zero => intro _; exact List.Perm.refl _
  | succ m ih => intro h; rw [mendF_succ]; exact mendS_perm (by omega) (ih (by omega))
theorem mendF_out (d K : List Int) : ∀ m, (mendF d K m).2.2.length ≤ m := by
  intro m
  induction m with
  | zero => simp [mendF]
  | succ m ih =>
    rw [mendF_succ, mendS]
    split
    · omega
    · simp only [List.length_append, List.length_cons, List.length_nil]; omega
/-- The place, from the last slip to the first. -/
theorem toM_ref {d S l : List Int} {i f : Nat} {to : Nat} (hf : f < l.length) (hp : pM d S i (gd l f) = false)
    (h : (to = l.length - 1 ∧ ∀ j, j < l.length → pM d S i (gd l j) = false) ∨ (∃ a, a < l.length ∧ pM d S i (gd l a) = true ∧ (∀ j, j < a → pM d S i (gd l j) = false) ∧ to = if f < a then a - 1 else a)) : toM d S (l.eraseIdx f) i = to := by
  have hl : (l.eraseIdx f).length = l.length - 1 := by rw [List.length_eraseIdx, if_pos hf]
  have hge : ∀ j (hj : j < (l.eraseIdx f).length), (l.eraseIdx f)[j] = gd l (if j < f then j else j + 1) := by
    intro j hj
    rw [List.getElem_eraseIdx]
    split
    · rw [gd_lt]
    · rw [gd_lt]
  rcases h with ⟨rfl, h⟩ | ⟨a, ha, h1, h2, rfl⟩
  · rw [toM, idxV_miss (fun j hj => by rw [hge j hj]; exact h _ (by split <;> omega)), if_pos (by omega), hl]
  · have hne : a ≠ f := by rintro rfl; rw [hp] at h1; cases h1
    have hit : idxV (pM d S i) (l.eraseIdx f) = ((if f < a then a - 1 else a : Nat) : Int) := by
      refine idxV_hit (by rw [hl]; split <;> omega) ?_ ?_
      · rw [hge]
        split
        · rw [if_neg (by omega), Nat.sub_add_cancel (by omega)]; exact h1
        · rw [if_pos (by omega)]; exact h1
      · intro j hj hjk
        rw [hge j hj]
        split at hjk
        · split
          · exact h2 j (by omega)
          · exact h2 (j + 1) (by omega)
        · rw [if_pos (by omega)]; exact h2 j (by omega)
    rw [toM, hit, if_neg (by omega)]; simp
end Go.Proofs.Ytcelhpbcdpefnaa
