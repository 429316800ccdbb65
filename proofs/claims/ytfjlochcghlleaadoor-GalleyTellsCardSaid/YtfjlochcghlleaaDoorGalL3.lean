/- galley, plain laws: the proof's numbers. -/
import Derived.Test.YtfjlochcghlleaaDoorGalL2
namespace Go.Proofs.YtfjlochcghlleaaDoor
open Go.RowKit

/-- What stands behind n costs at least, by the first k of the numbers before it. -/
def leastP (h tot n : Int) (L O : List Int) : Nat → Int
  | 0 => 1000000000
  | k + 1 => if n - L.getD k 0 ≤ h then min (leastP h tot n L O k) (O.getD k 0 + colW h tot (L.getD k 0) n) else leastP h tot n L O k

theorem leastP_spec (h tot n : Int) (L O : List Int) (k : Nat) : leastP h tot n L O k ≤ 1000000000 ∧ (leastP h tot n L O k = 1000000000 ∨ ∃ i, i < k ∧ n - L.getD i 0 ≤ h ∧ leastP h tot n L O k = O.getD i 0 + colW h tot (L.getD i 0) n) ∧
    ∀ i, i < k → n - L.getD i 0 ≤ h → leastP h tot n L O k ≤ O.getD i 0 + colW h tot (L.getD i 0) n := by
  induction k with
  | zero => exact ⟨Int.le_refl _, .inl rfl, fun i hi => by omega⟩
  | succ k ih =>
    obtain ⟨h1, h2, h3⟩ := ih
    simp only [leastP]
    by_cases c : n - L.getD k 0 ≤ h
    · rw [if_pos c]
      refine ⟨by omega, ?_, fun i hi hn => ?_⟩
      · by_cases c2 : leastP h tot n L O k ≤ O.getD k 0 + colW h tot (L.getD k 0) n
        · rw [Int.min_eq_left c2]
          rcases h2 with e | ⟨i, hi, h4⟩
          · exact .inl e
          · exact .inr ⟨i, by omega, h4⟩
        · rw [Int.min_eq_right (by omega)]
          exact .inr ⟨k, by omega, c, rfl⟩
      · by_cases e : i = k
        · subst e; omega
        · have := h3 i (by omega) hn
          omega
    · rw [if_neg c]
      refine ⟨h1, ?_, fun i hi hn => ?_⟩
      · rcases h2 with e | ⟨i, hi, h4⟩
        · exact .inl e
        · exact .inr ⟨i, by omega, h4⟩
      · by_cases e : i = k
        · subst e; exact absurd hn c
        · exact h3 i (by omega) hn

theorem bestF_spec {h tot n lo : Int} {f : Int → Option Int} (hf : ∀ k c, f k = some c → 0 ≤ c) (hw : ∀ k, 0 ≤ colW h tot k n) (j : Nat) :
    (bestF h tot n f lo j = -1 ∧ ∀ i : Nat, i < j → f (lo + i) = none) ∨ (0 ≤ bestF h tot n f lo j ∧ (∃ i : Nat, i < j ∧ ∃ c, f (lo + i) = some c ∧ bestF h tot n f lo j = c + colW h tot (lo + i) n) ∧ ∀ i : Nat, i < j → ∀ c, f (lo + i) = some c → bestF h tot n f lo j ≤ c + colW h tot (lo + i) n) := by
  induction j with
  | zero => exact .inl ⟨rfl, fun i hi => by omega⟩
  | succ j ih =>
    cases hk : f (lo + j) with
    | none =>
      rw [bestF_none hk]
      rcases ih with ⟨e, h1⟩ | ⟨h0, ⟨i, hi, c, hc, he⟩, h2⟩
      · refine .inl ⟨e, fun i hi => ?_⟩
        by_cases e : i = j
        · subst e; exact hk
        · exact h1 i (by omega)
      · refine .inr ⟨h0, ⟨i, by omega, c, hc, he⟩, fun i hi c hc => ?_⟩
        by_cases e : i = j
        · subst e; rw [hk] at hc; cases hc
        · exact h2 i (by omega) c hc
    | some c0 =>
      have hc0 := hf _ _ hk
      have hw0 := hw (lo + j)
      by_cases c : bestF h tot n f lo j < 0 ∨ c0 + colW h tot (lo + j) n < bestF h tot n f lo j
      · rw [bestF_some hk c]
        refine .inr ⟨by omega, ⟨j, by omega, c0, hk, rfl⟩, fun i hi c' hc' => ?_⟩
        by_cases e : i = j
        · subst e; rw [hk] at hc'; cases hc'; omega
        · rcases ih with ⟨e1, h1⟩ | ⟨h0, _, h2⟩
          · rw [h1 i (by omega)] at hc'; cases hc'
          · have := h2 i (by omega) c' hc'
            omega
      · have c1 : ¬ bestF h tot n f lo j < 0 := fun e => c (.inl e)
        have c2 : ¬ c0 + colW h tot (lo + j) n < bestF h tot n f lo j := fun e => c (.inr e)
        rw [bestF_keep hk c1 c2]
        rcases ih with ⟨e1, h1⟩ | ⟨h0, ⟨i, hi, c', hc', he⟩, h2⟩
        · omega
        · refine .inr ⟨h0, ⟨i, by omega, c', hc', he⟩, fun i hi c'' hc'' => ?_⟩
          by_cases e : i = j
          · subst e; rw [hk] at hc''; cases hc''; omega
          · exact h2 i (by omega) c'' hc''

/-- Numbers that rise, each at most three behind an elder one. -/
structure Rise (xs : List Int) : Prop where
  up : ∀ i j, i < j → j ≤ xs.length → (0 :: xs).getD i 0 < (0 :: xs).getD j 0
  near : ∀ j, 0 < j → j ≤ xs.length → ∃ i, i < j ∧ (0 :: xs).getD j 0 - (0 :: xs).getD i 0 ≤ 3

theorem getD_app {l : List Int} {x : Int} {i : Nat} (hi : i < l.length) : (l ++ [x]).getD i 0 = l.getD i 0 := by
  simp [List.getD_eq_getElem?_getD, List.getElem?_append_left hi]
theorem getD_end {l : List Int} {x : Int} : (l ++ [x]).getD l.length 0 = x := by
  simp [List.getD_eq_getElem?_getD]
theorem Rise.pre {xs : List Int} {x : Int} (h : Rise (xs ++ [x])) : Rise xs := by
  have e : (0 :: (xs ++ [x])) = (0 :: xs) ++ [x] := rfl
  refine ⟨fun i j hij hj => ?_, fun j h0 hj => ?_⟩
  · have := h.up i j hij (by simp; omega)
    rw [e, getD_app (by simp; omega), getD_app (by simp; omega)] at this
    exact this
  · obtain ⟨i, hi, h1⟩ := h.near j h0 (by simp; omega)
    rw [e, getD_app (by simp; omega), getD_app (by simp; omega)] at h1
    exact ⟨i, hi, h1⟩

theorem bestN_least {h tot n : Int} (hh : 3 ≤ h ∧ h ≤ 40) {f : Int → Option Int} {L O : List Int} (hf : ∀ k c, f k = some c ↔ ∃ i, i < L.length ∧ L.getD i 0 = k ∧ O.getD i 0 = c) (hL : ∀ i, i < L.length → 0 ≤ L.getD i 0 ∧ L.getD i 0 < n)
    (hO : ∀ i, i < L.length → 0 ≤ O.getD i 0 ∧ O.getD i 0 ≤ 900000000) (hn : ∃ i, i < L.length ∧ n - L.getD i 0 ≤ 3) : bestN h tot f n = leastP h tot n L O L.length ∧ 0 ≤ bestN h tot f n := by
  have hw : ∀ k, 0 ≤ colW h tot k n := fun k => by
    simp only [colW]
    split
    · omega
    · generalize h - n + k = x
      rcases Int.le_total 0 x with c | c
      · exact Int.mul_nonneg c c
      · have := Int.mul_nonneg (Int.neg_nonneg_of_nonpos c) (Int.neg_nonneg_of_nonpos c)
        rwa [Int.neg_mul_neg] at this
  have hws : ∀ k, n - k ≤ h → k < n → colW h tot k n ≤ 1600 := fun k h1 h2 => by
    simp only [colW]
    split
    · omega
    · generalize hx : h - n + k = x
      have h0 : 0 ≤ x ∧ x ≤ 40 := by omega
      have := Int.mul_le_mul h0.2 h0.2 h0.1 (by omega : (0 : Int) ≤ 40)
      omega
  obtain ⟨i0, hi0, hn0⟩ := hn
  have hl0 := hL i0 hi0
  have hlo : max 0 (n - h) ≤ n ∧ 0 ≤ max 0 (n - h) := by omega
  have hlo2 : max 0 (n - h) = 0 ∨ max 0 (n - h) = n - h := by omega
  have hlo3 : n - h ≤ max 0 (n - h) := by omega
  unfold bestN
  generalize max 0 (n - h) = lo at *
  have hidx : ∀ i, i < L.length → n - L.getD i 0 ≤ h → ∃ q : Nat, q < (n - lo).toNat ∧ lo + (q : Int) = L.getD i 0 := fun i hi hin => by
    have := hL i hi
    exact ⟨(L.getD i 0 - lo).toNat, by omega, by omega⟩
  obtain ⟨q1, q2, q3⟩ := leastP_spec h tot n L O L.length
  rcases bestF_spec (h := h) (tot := tot) (n := n) (lo := lo) (f := f) (fun k c hk => by obtain ⟨i, hi, _, rfl⟩ := (hf k c).1 hk; exact (hO i hi).1) hw (n - lo).toNat with ⟨e, h1⟩ | ⟨h0, ⟨q, hq, c, hc, he⟩, h2⟩
  · obtain ⟨q, hq, hqe⟩ := hidx i0 hi0 (by omega)
    have := h1 q hq
    rw [hqe, (hf _ _).2 ⟨i0, hi0, rfl, rfl⟩] at this
    cases this
  · refine ⟨?_, h0⟩
    obtain ⟨i, hi, hLi, hOi⟩ := (hf _ _).1 hc
    have hq' : (q : Int) < n - lo := by omega
    have a1 := q3 i hi (by omega)
    rw [hOi, hLi] at a1
    have a0 := q3 i0 hi0 (by omega)
    have b0 := hws (L.getD i0 0) (by omega) (by omega)
    have b1 := hO i0 hi0
    rcases q2 with e | ⟨i', hi', hin', e⟩
    · omega
    · obtain ⟨q', hq', hqe'⟩ := hidx i' hi' hin'
      have a2 := h2 q' hq' (O.getD i' 0) (by rw [hqe']; exact (hf _ _).2 ⟨i', hi', rfl, rfl⟩)
      rw [hqe'] at a2
      omega

/-- What the proof keeps, and what its map says. -/
structure ProofI (h tot : Int) (xs : List Int) : Prop where
  len : (proofS h tot xs).2.length = xs.length + 1
  map : ∀ k c, (proofS h tot xs).1 k = some c ↔ ∃ i, i < (0 :: xs).length ∧ (0 :: xs).getD i 0 = k ∧ (proofS h tot xs).2.getD i 0 = c
  low : ∀ i, i < (0 :: xs).length → 0 ≤ (proofS h tot xs).2.getD i 0 ∧ (proofS h tot xs).2.getD i 0 ≤ i * 1600

theorem leastP_bound {h tot n : Int} {L O : List Int} {B : Int} (hh : 3 ≤ h ∧ h ≤ 40) (hO : ∀ i, i < L.length → O.getD i 0 ≤ B) (hL : ∀ i, i < L.length → L.getD i 0 < n) (hn : ∃ i, i < L.length ∧ n - L.getD i 0 ≤ 3) : leastP h tot n L O L.length ≤ B + 1600 := by
  obtain ⟨q1, q2, q3⟩ := leastP_spec h tot n L O L.length
  obtain ⟨i, hi, hin⟩ := hn
  have := q3 i hi (by omega)
  have h1 := hO i hi
  have h2 := hL i hi
  have : colW h tot (L.getD i 0) n ≤ 1600 := by
    simp only [colW]
    split
    · omega
    · generalize hx : h - n + L.getD i 0 = x
      have h0 : 0 ≤ x ∧ x ≤ 40 := by omega
      have := Int.mul_le_mul h0.2 h0.2 h0.1 (by omega : (0 : Int) ≤ 40)
      omega
  omega

theorem proofI {h tot : Int} (hh : 3 ≤ h ∧ h ≤ 40) : ∀ (m : Nat) (xs : List Int), xs.length = m → m ≤ 600 → Rise xs → ProofI h tot xs := by
  intro m
  induction m with
  | zero =>
    intro xs hx _ _
    obtain rfl := List.length_eq_zero_iff.1 hx
    refine ⟨rfl, fun k c => ?_, fun i hi => ?_⟩
    · simp only [proofS, List.foldl_nil]
      constructor
      · intro e
        split at e
        · rename_i c1; subst c1; cases e; exact ⟨0, by simp, rfl, rfl⟩
        · cases e
      · rintro ⟨i, hi, h1, h2⟩
        obtain rfl : i = 0 := by simp at hi; exact hi
        have h1' : (0 : Int) = k := h1
        have h2' : (0 : Int) = c := h2
        subst h1' h2'
        rfl
    · obtain rfl : i = 0 := by simp at hi; exact hi
      exact ⟨Int.le_refl _, Int.le_refl _⟩
  | succ m ih =>
    intro xs hx hm hr
    obtain ⟨ys, x, rfl⟩ : ∃ ys x, xs = ys ++ [x] := by
      rcases List.eq_nil_or_concat xs with e | ⟨ys, x, e⟩
      · subst e; simp at hx
      · exact ⟨ys, x, by rw [e, List.concat_eq_append]⟩
    have hys : ys.length = m := by simpa using hx
    have I := ih ys hys (by omega) hr.pre
    have e : (0 :: (ys ++ [x])) = (0 :: ys) ++ [x] := rfl
    have hlen : (0 :: ys).length = m + 1 := by simp [hys]
    have hL : ∀ i, i < (0 :: ys).length → (0 :: ys).getD i 0 < x := fun i hi => by
      have := hr.up i (0 :: ys).length hi (by simp)
      rw [e, getD_app hi, getD_end] at this
      exact this
    have hnear : ∃ i, i < (0 :: ys).length ∧ x - (0 :: ys).getD i 0 ≤ 3 := by
      obtain ⟨i, hi, h1⟩ := hr.near (0 :: ys).length (by simp) (by simp)
      rw [e, getD_app hi, getD_end] at h1
      exact ⟨i, hi, h1⟩
    have hL0 : ∀ i, i < (0 :: ys).length → 0 ≤ (0 :: ys).getD i 0 := fun i hi => by
      cases i with
      | zero => exact Int.le_refl _
      | succ i =>
        have := hr.pre.up 0 (i + 1) (by omega) (by simp at hi; omega)
        exact Int.le_of_lt this
    have hB := bestN_least (h := h) (tot := tot) (n := x) hh I.map (fun i hi => ⟨hL0 i hi, hL i hi⟩) (fun i hi => by have := I.low i hi; omega) hnear
    have hb2 := leastP_bound (h := h) (tot := tot) (n := x) (L := 0 :: ys) (O := (proofS h tot ys).2) (B := m * 1600) hh (fun i hi => by have := I.low i hi; omega) hL hnear
    have hl2 : (proofS h tot ys).2.length = (0 :: ys).length := by rw [I.len]; simp
    refine ⟨?_, fun k c => ?_, fun i hi => ?_⟩
    · rw [proofS_len]
    · rw [proofS_snoc, e]
      simp only [prF]
      by_cases c1 : k = x
      · subst c1
        rw [if_pos rfl]
        constructor
        · intro e1
          cases e1
          exact ⟨(0 :: ys).length, by simp, getD_end, by rw [← hl2, getD_end]⟩
        · rintro ⟨i, hi, h1, h2⟩
          by_cases c2 : i < (0 :: ys).length
          · rw [getD_app c2] at h1
            have := hL i c2
            omega
          · have : i = (0 :: ys).length := by simp at hi c2 ⊢; omega
            subst this
            rw [← hl2, getD_end] at h2
            rw [h2]
      · rw [if_neg c1, I.map]
        constructor
        · rintro ⟨i, hi, h1, h2⟩
          exact ⟨i, by simp at hi ⊢; omega, by rw [getD_app hi]; exact h1, by rw [getD_app (by rw [hl2]; exact hi)]; exact h2⟩
        · rintro ⟨i, hi, h1, h2⟩
          by_cases c2 : i < (0 :: ys).length
          · rw [getD_app c2] at h1
            rw [getD_app (by rw [hl2]; exact c2)] at h2
            exact ⟨i, c2, h1, h2⟩
          · have : i = (0 :: ys).length := by simp at hi c2 ⊢; omega
            subst this
            rw [getD_end] at h1
            exact absurd h1.symm c1
    · rw [proofS_snoc]
      simp only [prF]
      rw [e] at hi
      by_cases c2 : i < (0 :: ys).length
      · rw [getD_app (by rw [hl2]; exact c2)]
        exact I.low i c2
      · have : i = (0 :: ys).length := by simp at hi c2 ⊢; omega
        subst this
        have e3 : ((proofS h tot ys).2 ++ [bestN h tot (proofS h tot ys).1 x]).getD (0 :: ys).length 0 = bestN h tot (proofS h tot ys).1 x := by rw [← hl2, getD_end]
        rw [e3]
        refine ⟨hB.2, ?_⟩
        rw [hB.1]
        omega

theorem bestN_ref {h tot : Int} (hh : 3 ≤ h ∧ h ≤ 40) {ys : List Int} {x : Int} (hl : ys.length ≤ 599) (hr : Rise (ys ++ [x])) : bestN h tot (proofS h tot ys).1 x = leastP h tot x (0 :: ys) (proofS h tot ys).2 (ys.length + 1) ∧ 0 ≤ bestN h tot (proofS h tot ys).1 x := by
  have I := proofI (tot := tot) hh ys.length ys rfl (by omega) hr.pre
  have e : (0 :: (ys ++ [x])) = (0 :: ys) ++ [x] := rfl
  refine bestN_least (L := 0 :: ys) hh I.map (fun i hi => ⟨?_, ?_⟩) (fun i hi => by have := I.low i hi; simp at hi; omega) ?_
  · cases i with
    | zero => exact Int.le_refl _
    | succ i =>
      have := hr.pre.up 0 (i + 1) (by omega) (by simp at hi; omega)
      exact Int.le_of_lt this
  · have := hr.up i (0 :: ys).length hi (by simp)
    rw [e, getD_app hi, getD_end] at this
    exact this
  · obtain ⟨i, hi, h1⟩ := hr.near (0 :: ys).length (by simp) (by simp)
    rw [e, getD_app hi, getD_end] at h1
    exact ⟨i, hi, h1⟩

theorem range_pair (P : Nat → Bool) (m : Nat) : (((List.range m).filter P).map fun (i : Nat) => (0 : Int) + ((i : Int) + 1)).Pairwise (· < ·) := by
  rw [List.pairwise_map]
  refine List.Pairwise.imp ?_ ((List.pairwise_lt_range (n := m)).filter P)
  intro a b hab; omega
theorem rise_ends {bs : List Blk} (hb : ∀ b ∈ bs, 1 ≤ b.2 ∧ b.2 ≤ 20) : Rise (endsF 0 bs) := by
  have hp : (endsF 0 bs).Pairwise (· < ·) := by rw [endsF_R hb]; exact range_pair _ _
  have hp0 : (0 :: endsF 0 bs).Pairwise (· < ·) := List.pairwise_cons.2 ⟨fun x hx => by have := (ends_bound hb x hx).1; omega, hp⟩
  have hget : ∀ i, i ≤ (endsF 0 bs).length → ∃ h : i < (0 :: endsF 0 bs).length, (0 :: endsF 0 bs).getD i 0 = (0 :: endsF 0 bs)[i] := fun i hi => by
    have h : i < (0 :: endsF 0 bs).length := by simp; omega
    exact ⟨h, by rw [List.getD_eq_getElem?_getD, List.getElem?_eq_getElem h]; rfl⟩
  have hup : ∀ i j, i < j → j ≤ (endsF 0 bs).length → (0 :: endsF 0 bs).getD i 0 < (0 :: endsF 0 bs).getD j 0 := fun i j hij hj => by
    obtain ⟨h1, e1⟩ := hget i (by omega)
    obtain ⟨h2, e2⟩ := hget j hj
    rw [e1, e2]
    exact List.pairwise_iff_getElem.1 hp0 i j h1 h2 hij
  refine ⟨hup, fun j h0 hj => ?_⟩
  obtain ⟨h2, e2⟩ := hget j hj
  have hm : (0 :: endsF 0 bs)[j] ∈ endsF 0 bs := by
    obtain ⟨j', rfl⟩ : ∃ j', j = j' + 1 := ⟨j - 1, by omega⟩
    simp
  obtain ⟨m, h3, h4, h5, h6⟩ := may_gap hb ((mem_endsF hb _).1 hm)
  have hmem : m ∈ 0 :: endsF 0 bs := by
    rcases h3 with e | e
    · subst e; simp
    · exact List.mem_cons_of_mem _ ((mem_endsF hb m).2 e)
  obtain ⟨i, hi, e⟩ := List.getElem_of_mem hmem
  obtain ⟨h7, e7⟩ := hget i (by simp at hi; omega)
  refine ⟨i, ?_, by rw [e2, e7, e]; omega⟩
  rcases Nat.lt_trichotomy i j with c | c | c
  · exact c
  · subst c; omega
  · have := hup j i c (by simp at hi; omega)
    rw [e2, e7, e] at this
    omega
end Go.Proofs.YtfjlochcghlleaaDoor
