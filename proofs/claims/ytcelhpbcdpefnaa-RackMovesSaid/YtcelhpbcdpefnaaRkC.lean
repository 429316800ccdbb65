/- Chains, in plain Lean. -/
import Derived.Test.YtcelhpbcdpefnaaRa0
namespace Go.Proofs.Ytcelhpbcdpefnaa
open Go.RowKit

abbrev gd (l : List Int) (i : Nat) : Int := l.getD i 0
theorem gd_lt {l : List Int} {i : Nat} (h : i < l.length) : gd l i = l[i] := by simp [gd, List.getD_eq_getElem?_getD, h]
theorem gd_snoc (l : List Int) (x : Int) (i : Nat) : gd (l ++ [x]) i = if i < l.length then gd l i else if i = l.length then x else 0 := by
  simp only [gd, List.getD_eq_getElem?_getD, List.getElem?_append]
  split
  · rfl
  · split
    · subst_vars; simp
    · have : 0 < i - l.length := by omega
      rw [List.getElem?_eq_none (by simp; omega)]; rfl
theorem gd_set (l : List Int) (n : Nat) (x : Int) (i : Nat) : gd (l.set n x) i = if i = n ∧ n < l.length then x else gd l i := by
  simp only [gd, List.getD_eq_getElem?_getD, List.getElem?_set]
  split
  · subst_vars
    by_cases h : i < l.length
    · simp [h]
    · simp [h]
  · rw [if_neg (by omega)]
theorem gd_take {l : List Int} {n i : Nat} (h : i < n) : gd (l.take n) i = gd l i := by simp [gd, List.getD_eq_getElem?_getD, h]
theorem ext_gd {a b : List Int} (hl : a.length = b.length) (h : ∀ i, i < a.length → gd a i = gd b i) : a = b := by
  apply List.ext_getElem hl
  intro i h1 h2
  have := h i h1
  rwa [gd_lt h1, gd_lt h2] at this

/-- The chain of each slip. -/
structure ChainR (d C : List Int) : Prop where
  len : C.length = d.length
  pos : ∀ i, i < d.length → 0 ≤ gd C i
  up : ∀ i, i < d.length → ∀ k, k < i → gd d k ≤ gd d i → gd C k + 1 ≤ gd C i
  ex : ∀ i, i < d.length → gd C i = 0 ∨ ∃ k, k < i ∧ gd d k ≤ gd d i ∧ gd C i = gd C k + 1
theorem ChainR.uniq {d C C' : List Int} (h : ChainR d C) (g : ChainR d C') : C = C' := by
  refine ext_gd (h.len.trans g.len.symm) fun i hi => ?_
  rw [h.len] at hi
  induction i using Nat.strongRecOn with
  | ind i ih =>
    have h1 : gd C i ≤ gd C' i := by
      rcases h.ex i hi with e | ⟨k, hk, hd, e⟩
      · have := g.pos i hi; omega
      · have := g.up i hi k hk hd
        have := ih k hk (by omega); omega
    have h2 : gd C' i ≤ gd C i := by
      rcases g.ex i hi with e | ⟨k, hk, hd, e⟩
      · have := h.pos i hi; omega
      · have := h.up i hi k hk hd
        have := ih k hk (by omega); omega
    omega

/-- What holds when the slips of D have been put into chains C; L: the least ranks with which chains end. -/
structure PatI (D L C : List Int) : Prop where
  ch : ChainR D C
  srt : ∀ i j, i ≤ j → j < L.length → gd L i ≤ gd L j
  has : ∀ j, j < L.length → ∃ k, k < D.length ∧ gd C k = (j : Int) ∧ gd D k = gd L j
  low : ∀ k, k < D.length → ∃ c : Nat, gd C k = (c : Int) ∧ c < L.length ∧ gd L c ≤ gd D k
theorem PatI.nil : PatI [] [] [] := ⟨⟨rfl, by simp, by simp, by simp⟩, by simp, by simp, by simp⟩
theorem PatI.step {D L C : List Int} {r : Int} {n : Nat} (h : PatI D L C) (hn : n ≤ L.length) (h1 : ∀ j, j < L.length → j < n → gd L j ≤ r) (h2 : ∀ j, j < L.length → n ≤ j → r < gd L j) :
    PatI (D ++ [r]) ((if n = L.length then L ++ [r] else L).set n r) (C ++ [(n : Int)]) := by
  have hCl := h.ch.len
  obtain ⟨L', hL'⟩ : ∃ L', L' = (if n = L.length then L ++ [r] else L).set n r := ⟨_, rfl⟩
  have hll : L'.length = if n = L.length then L.length + 1 else L.length := by
    rw [hL', List.length_set]; split <;> simp
  have hg : ∀ i, i < L'.length → gd L' i = if i = n then r else gd L i := by
    intro i hi
    rw [hll] at hi
    rw [hL', gd_set]
    by_cases e : i = n
    · rw [if_pos ⟨e, by split <;> (try rw [List.length_append]) <;> (try simp only [List.length_cons, List.length_nil]) <;> omega⟩, if_pos e]
    · rw [if_neg (fun h => e h.1), if_neg e]
      split
      · rw [gd_snoc, if_pos (by rename_i h3; rw [if_pos h3] at hi; omega)]
      · rfl
  have hn' : n < L'.length := by rw [hll]; split <;> omega
  have hLL : ∀ i, i < L'.length → i ≠ n → i < L.length := by
    intro i hi hne; rw [hll] at hi; split at hi <;> omega
  rw [← hL']
  refine ⟨⟨by simp [hCl], ?_, ?_, ?_⟩, ?_, ?_, ?_⟩
  · intro i hi
    rw [gd_snoc, hCl]
    simp at hi
    by_cases e : i < D.length
    · rw [if_pos e]; exact h.ch.pos i e
    · rw [if_neg e, if_pos (by omega)]; omega
  · intro i hi k hk hd
    simp at hi
    simp only [gd_snoc, hCl] at hd ⊢
    rw [if_pos (by omega)] at hd ⊢
    by_cases e : i < D.length
    · rw [if_pos e] at hd ⊢; exact h.ch.up i e k hk hd
    · rw [if_neg e, if_pos (by omega)] at hd ⊢
      obtain ⟨c, hc, hcl, hcd⟩ := h.low k (by omega)
      rcases Nat.lt_or_ge c n with h3 | h3
      · omega
      · have := h2 c hcl h3; omega
  · intro i hi
    simp at hi
    simp only [gd_snoc, hCl]
    by_cases e : i < D.length
    · rw [if_pos e]
      rcases h.ch.ex i e with h3 | ⟨k, hk, hd, h3⟩
      · exact .inl h3
      · refine .inr ⟨k, hk, ?_, ?_⟩
        · rw [if_pos (by omega), if_pos e]; exact hd
        · rw [if_pos (by omega)]; exact h3
    · rw [if_neg e, if_pos (by omega)]
      rcases Nat.eq_zero_or_pos n with h0 | h0
      · left; omega
      · right
        obtain ⟨k, hk, hc, hd⟩ := h.has (n - 1) (by omega)
        refine ⟨k, by omega, ?_, ?_⟩
        · rw [if_pos hk, if_neg e, if_pos (by omega), hd]
          exact h1 (n - 1) (by omega) (by omega)
        · rw [if_pos hk, hc]; omega
  · intro i j hij hj
    rw [hg i (by omega), hg j hj]
    by_cases ei : i = n
    · rw [if_pos ei]
      by_cases ej : j = n
      · rw [if_pos ej]; omega
      · rw [if_neg ej]
        have := h2 j (hLL j hj ej) (by omega); omega
    · rw [if_neg ei]
      by_cases ej : j = n
      · rw [if_pos ej]
        exact h1 i (hLL i (by omega) ei) (by omega)
      · rw [if_neg ej]
        exact h.srt i j hij (hLL j hj ej)
  · intro j hj
    rw [hg j hj]
    by_cases e : j = n
    · refine ⟨D.length, by simp, ?_, ?_⟩
      · rw [gd_snoc, hCl, if_neg (by omega), if_pos rfl, e]
      · rw [gd_snoc, if_neg (by omega), if_pos rfl, if_pos e]
    · obtain ⟨k, hk, hc, hd⟩ := h.has j (hLL j hj e)
      refine ⟨k, by simp; omega, ?_, ?_⟩
      · rw [gd_snoc, hCl, if_pos hk]; exact hc
      · rw [gd_snoc, if_pos hk, if_neg e]; exact hd
  · intro k hk
    simp at hk
    by_cases e : k < D.length
    · obtain ⟨c, hc, hcl, hcd⟩ := h.low k e
      have hcl' : c < L'.length := by rw [hll]; split <;> omega
      refine ⟨c, by rw [gd_snoc, hCl, if_pos e]; exact hc, hcl', ?_⟩
      rw [hg c hcl', gd_snoc, if_pos e]
      by_cases ec : c = n
      · rw [if_pos ec]
        have := h2 c hcl (by omega); omega
      · rw [if_neg ec]; exact hcd
    · refine ⟨n, by rw [gd_snoc, hCl, if_neg e, if_pos (by omega)], hn', ?_⟩
      rw [hg n hn', if_pos rfl, gd_snoc, if_neg e, if_pos (by omega)]; omega
end Go.Proofs.Ytcelhpbcdpefnaa
