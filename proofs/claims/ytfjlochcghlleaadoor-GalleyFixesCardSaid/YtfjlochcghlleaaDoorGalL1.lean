/- galley, plain laws: where columns may end. -/
import Derived.Test.YtfjlochcghlleaaDoorGalS
namespace Go.Proofs.YtfjlochcghlleaaDoor
open Go.RowKit

/-- Whether a column may end behind n lines, of blocks that begin behind p. -/
def mayR (n : Int) : Int → List Blk → Bool
  | _, [] => false
  | p, b :: bs => if n ≤ p + b.2 then decide (p < n) && endOk b.2 (n - p) else mayR n (p + b.2) bs

def endsRn (p : Int) (bs : List Blk) (m : Nat) : List Int := ((List.range m).filter fun (i : Nat) => mayR (p + ((i : Int) + 1)) p bs).map fun (i : Nat) => p + ((i : Int) + 1)
def endsR (bs : List Blk) : List Int := endsRn 0 bs (sumL bs).toNat

theorem filter_same {α : Type} {f g : α → Bool} : ∀ {l : List α}, (∀ x ∈ l, f x = g x) → l.filter f = l.filter g
  | [], _ => rfl
  | x :: l, h => by
    rw [List.filter_cons, List.filter_cons, h x (by simp), filter_same fun y hy => h y (by simp [hy])]

theorem endsRn_add (p : Int) (bs : List Blk) (a c : Nat) : endsRn p bs (a + c) = endsRn p bs a ++ ((List.range c).filter fun (i : Nat) => mayR (p + ((a : Int) + i + 1)) p bs).map fun (i : Nat) => p + ((a : Int) + i + 1) := by
  simp only [endsRn, List.range_add, List.filter_append, List.map_append, List.filter_map, List.map_map]
  congr 1

theorem endsF_rn {bs : List Blk} (hb : ∀ b ∈ bs, 1 ≤ b.2 ∧ b.2 ≤ 20) : ∀ p : Int, endsF p bs = endsRn p bs (sumL bs).toNat := by
  induction bs with
  | nil => intro p; simp [endsF, sumL, endsRn]
  | cons b bs ih =>
    intro p
    have h1 := hb b (by simp)
    have h2 := sumL_le (bs := bs) fun x hx => hb x (by simp [hx])
    have ih := ih (fun x hx => hb x (by simp [hx])) (p + b.2)
    have e : (sumL (b :: bs)).toNat = b.2.toNat + (sumL bs).toNat := by
      simp only [sumL, List.map_cons, List.sum_cons] at *
      omega
    rw [e, endsRn_add, endsF, ih]
    congr 1
    · simp only [blockEnds, endsRn]
      congr 1
      apply filter_same
      intro i hi
      have hi' : i < b.2.toNat := by simpa using hi
      simp only [mayR]
      rw [if_pos (by omega), decide_eq_true (by omega)]
      simp only [Bool.true_and]
      congr 1
      omega
    · simp only [endsRn]
      have e2 : ∀ i : Nat, p + ((b.2.toNat : Int) + i + 1) = p + b.2 + ((i : Int) + 1) := fun i => by omega
      simp only [e2]
      congr 1
      apply filter_same
      intro i hi
      rw [mayR, if_neg (by omega)]
theorem endsF_R {bs : List Blk} (hb : ∀ b ∈ bs, 1 ≤ b.2 ∧ b.2 ≤ 20) : endsF 0 bs = endsR bs := endsF_rn hb 0

theorem mayR_low {bs : List Blk} (hb : ∀ b ∈ bs, 1 ≤ b.2 ∧ b.2 ≤ 20) {n p : Int} (hn : n ≤ p) : mayR n p bs = false := by
  cases bs with
  | nil => rfl
  | cons b bs =>
    have h1 := hb b (by simp)
    rw [mayR, if_pos (by omega), decide_eq_false (by omega)]
    rfl
theorem mayR_high {bs : List Blk} (hb : ∀ b ∈ bs, 1 ≤ b.2 ∧ b.2 ≤ 20) : ∀ {n p : Int}, p + sumL bs < n → mayR n p bs = false := by
  induction bs with
  | nil => intros; rfl
  | cons b bs ih =>
    intro n p h
    have h2 := sumL_le (bs := bs) fun x hx => hb x (by simp [hx])
    have e : sumL (b :: bs) = b.2 + sumL bs := by simp [sumL]
    rw [mayR, if_neg (by omega)]
    exact ih (fun x hx => hb x (by simp [hx])) (by omega)
theorem mem_endsF {bs : List Blk} (hb : ∀ b ∈ bs, 1 ≤ b.2 ∧ b.2 ≤ 20) (n : Int) : n ∈ endsF 0 bs ↔ mayR n 0 bs = true := by
  rw [endsF_R hb]
  simp only [endsR, endsRn, List.mem_map, List.mem_filter, List.mem_range]
  constructor
  · rintro ⟨i, ⟨_, h⟩, rfl⟩; exact h
  · intro h
    have h1 : 0 < n := by
      by_cases c : n ≤ 0
      · rw [mayR_low hb c] at h; cases h
      · omega
    have h2 : n ≤ sumL bs := by
      by_cases c : 0 + sumL bs < n
      · rw [mayR_high hb c] at h; cases h
      · omega
    refine ⟨n.toNat - 1, ⟨by omega, ?_⟩, by omega⟩
    rw [show (0 : Int) + (((n.toNat - 1 : Nat) : Int) + 1) = n from by omega]
    exact h
theorem may_dec {bs : List Blk} (hb : ∀ b ∈ bs, 1 ≤ b.2 ∧ b.2 ≤ 20) : (fun n => decide (n ∈ endsF 0 bs)) = fun n => mayR n 0 bs := by
  funext n
  rw [Bool.eq_iff_iff, decide_eq_true_eq, mem_endsF hb]
theorem ends_bound {bs : List Blk} (hb : ∀ b ∈ bs, 1 ≤ b.2 ∧ b.2 ≤ 20) : ∀ x ∈ endsF 0 bs, 1 ≤ x ∧ x ≤ sumL bs := by
  intro x hx
  have h := (mem_endsF hb x).1 hx
  constructor
  · by_cases c : x ≤ 0
    · rw [mayR_low hb c] at h; cases h
    · omega
  · by_cases c : 0 + sumL bs < x
    · rw [mayR_high hb c] at h; cases h
    · omega

/-- A column may end at most three lines before. -/
theorem may_gap {bs : List Blk} (hb : ∀ b ∈ bs, 1 ≤ b.2 ∧ b.2 ≤ 20) : ∀ {n p : Int}, mayR n p bs = true → ∃ m, (m = p ∨ mayR m p bs = true) ∧ p ≤ m ∧ m < n ∧ n - m ≤ 3 := by
  induction bs with
  | nil => intro n p h; cases h
  | cons b bs ih =>
    intro n p h
    have h1 := hb b (by simp)
    have hbs : ∀ x ∈ bs, 1 ≤ x.2 ∧ x.2 ≤ 20 := fun x hx => hb x (by simp [hx])
    rw [mayR] at h
    by_cases c : n ≤ p + b.2
    · rw [if_pos c] at h
      simp only [Bool.and_eq_true, decide_eq_true_eq, endOk, Bool.or_eq_true, tearsB] at h
      by_cases c3 : n - p ≤ 3
      · exact ⟨p, .inl rfl, by omega, by omega, by omega⟩
      · rcases h.2 with e | e
        · refine ⟨n - 2, .inr ?_, by omega, by omega, by omega⟩
          rw [mayR, if_pos (by omega)]
          simp only [Bool.and_eq_true, decide_eq_true_eq, endOk, Bool.or_eq_true, tearsB]
          omega
        · refine ⟨n - 1, .inr ?_, by omega, by omega, by omega⟩
          rw [mayR, if_pos (by omega)]
          simp only [Bool.and_eq_true, decide_eq_true_eq, endOk, Bool.or_eq_true, tearsB]
          omega
    · rw [if_neg c] at h
      obtain ⟨m, h2, h3, h4, h5⟩ := ih hbs h
      refine ⟨m, ?_, by omega, h4, h5⟩
      rcases h2 with e | e
      · right
        rw [mayR, if_pos (by omega)]
        simp only [Bool.and_eq_true, decide_eq_true_eq, endOk, Bool.or_eq_true, tearsB]
        omega
      · right
        by_cases c2 : m ≤ p + b.2
        · rw [mayR_low hbs c2] at e; cases e
        · rw [mayR, if_neg c2]; exact e
end Go.Proofs.YtfjlochcghlleaaDoor
