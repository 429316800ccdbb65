/- Passes and plans, in plain Lean. -/
import Derived.Test.YtcelhpbcdpefnaaRa3
namespace Go.Proofs.Ytcelhpbcdpefnaa
open Go.RowKit

abbrev endF (d : List Int) : List (Int × Int) := (opF d.length (ordF d)).2.1
abbrev numF (d : List Int) : List Int := (opF d.length (ordF d)).2.2
theorem endF_len (d : List Int) : (endF d).length ≤ d.length := by have := (opF_len d.length (ordF d)).2; rwa [ordF_len] at this
theorem numF_len (d : List Int) : (numF d).length = d.length := (opF_len d.length (ordF d)).1

/-- The fewest passes. -/
def PassR (b m p : Nat) : Prop := m < b ^ p ∧ ∀ q, q < p → b ^ q ≤ m
theorem PassR.uniq {b m p q : Nat} (h : PassR b m p) (g : PassR b m q) : p = q := by
  rcases Nat.lt_trichotomy p q with c | c | c
  · have := g.2 p c; have := h.1; omega
  · exact c
  · have := h.2 q c; have := g.1; omega
theorem pow_le_60 {b m p : Nat} (hb : b ≤ 20) (hm : m ≤ 60) (h : ∀ q, q < p → b ^ q ≤ m) : b ^ p ≤ 1200 := by
  cases p with
  | zero => simp
  | succ p =>
    have := h p (by omega)
    rw [Nat.pow_succ]
    exact Nat.mul_le_mul (show b ^ p ≤ 60 by omega) hb
theorem p_le_60 {b m p : Nat} (hb : 2 ≤ b) (hm : m ≤ 60) (h : ∀ q, q < p → b ^ q ≤ m) : p ≤ 60 := by
  cases p with
  | zero => omega
  | succ p =>
    have h1 := h p (by omega)
    have h2 : p < 2 ^ p := Nat.lt_two_pow_self
    have h3 : 2 ^ p ≤ b ^ p := Nat.pow_le_pow_left hb p
    omega
theorem PassR.pow {b m p : Nat} (h : PassR b m p) (hb : b ≤ 20) (hm : m ≤ 60) : b ^ p ≤ 1200 := pow_le_60 hb hm h.2
theorem PassR.le {b m p : Nat} (h : PassR b m p) (hb : 2 ≤ b) (hm : m ≤ 60) : p ≤ 60 := p_le_60 hb hm h.2

/-- One row of a plan. -/
def rowP (b k : Nat) (N : List Int) : List Int := N.map fun x => x / ((b ^ k : Nat) : Int) % (b : Int)
def restP (b k : Nat) (N : List Int) : List Int := N.map fun x => x / ((b ^ k : Nat) : Int)
def planP (b p : Nat) (N : List Int) : List (List Int) := (List.range p).map fun k => rowP b k N
theorem rowP_len (b k : Nat) (N : List Int) : (rowP b k N).length = N.length := by simp [rowP]
theorem restP_len (b k : Nat) (N : List Int) : (restP b k N).length = N.length := by simp [restP]
theorem restP_zero (b : Nat) (N : List Int) : restP b 0 N = N := by simp [restP]
theorem restP_succ (b k : Nat) (N : List Int) : (restP b k N).map (fun x => x / (b : Int)) = restP b (k + 1) N := by
  rw [restP, restP, List.map_map]
  refine List.map_congr_left fun x _ => ?_
  simp only [Function.comp]
  rw [Int.ediv_ediv_of_nonneg (by omega), Nat.pow_succ]
  push_cast
  rfl
theorem rowP_rest (b k : Nat) (N : List Int) : (restP b k N).map (fun x => x % (b : Int)) = rowP b k N := by
  rw [restP, rowP, List.map_map]; rfl
theorem planP_succ (b k : Nat) (N : List Int) : planP b (k + 1) N = planP b k N ++ [rowP b k N] := by simp [planP, List.range_succ]

/-- Numbers of runs are from 0 to their number. -/
theorem opF_nums (n : Nat) (L : List Int) : ∀ y ∈ (opF n L).2.2, 0 ≤ y ∧ y ≤ ((opF n L).2.1.length : Int) := by
  suffices h : ∀ (M : List Int) (st : OpS), (∀ y ∈ st.2.2, 0 ≤ y ∧ y ≤ (st.2.1.length : Int)) → ∀ y ∈ (M.foldl opS st).2.2, 0 ≤ y ∧ y ≤ ((M.foldl opS st).2.1.length : Int) by
    refine h L _ fun y hy => ?_
    have := List.eq_of_mem_replicate hy
    subst this
    simp
  intro M
  induction M with
  | nil => intro st h; exact h
  | cons x M ih =>
    intro st h
    rw [List.foldl_cons]
    refine ih _ fun y hy => ?_
    have hle : (st.2.1.length : Int) ≤ ((opS st x).2.1.length : Int) := by
      simp only [opS]
      split
      · rw [List.length_append]; simp only [List.length_cons, List.length_nil]; omega
      · omega
    have hy' : y ∈ st.2.2.set x.toNat ((opS st x).2.1.length : Int) := hy
    rcases List.mem_or_eq_of_mem_set hy' with hy' | rfl
    · have := h y hy'; omega
    · omega
theorem numF_mem {d : List Int} {y : Int} (h : y ∈ numF d) : 0 ≤ y ∧ y ≤ d.length := by
  have := opF_nums _ _ y h
  have := endF_len d
  have : ((opF d.length (ordF d)).2.1.length : Int) ≤ d.length := by exact_mod_cast endF_len d
  omega
/-- Pairs where runs end come one behind the other. -/
theorem opF_pre (n : Nat) (L : List Int) (i : Nat) : (opF n (L.take i)).2.1 <+: (opF n L).2.1 := by
  have h : ∀ (M : List Int) (st : OpS), st.2.1 <+: (M.foldl opS st).2.1 := by
    intro M
    induction M with
    | nil => intro st; exact List.prefix_refl _
    | cons x M ih =>
      intro st
      refine List.IsPrefix.trans ?_ (ih (opS st x))
      simp only [opS]
      split
      · exact List.prefix_append _ _
      · exact List.prefix_refl _
  have e : opF n L = (L.drop i).foldl opS (opF n (L.take i)) := by
    rw [opF, opF, ← List.foldl_append, List.take_append_drop]
  rw [e]
  exact h _ _
theorem opF_first (n : Nat) (L : List Int) : ∀ i x, L[i]? = some x → (opF n (L.take (i + 1))).1 = x := fun i x hx => by
  rw [take_snoc_get hx, opF_snoc]; rfl
end Go.Proofs.Ytcelhpbcdpefnaa
