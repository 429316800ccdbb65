/- Texts of the proof, part 4: RkK, PkC, PkD, PkE, Eng24, SrW, SlS, SlX, Sl1, SlM, SlW, SlO, CmpL, SrO, PlO, PkF, ShC, PkH, RefI, Rb0, Eng28, Gk1, PkX, PlB, PlC, Sl2, Sl3, Sl4, Sl5, Sl6, SlN, Sl7, LibS, Sl8, Sl9, Sr1, Sr2, Sr3, Sr4, Sr5, Sr6, PlE, Sw2, Sw3, MpK, KeyP, Eng26, Sw4, Sw1, PlG. -/
import Derived.Shelf.Small.Strs
import Derived.Sort.Grow
import Derived.Test.YtpijeomnplmakaaGreatDoorRG3
/- What is kept, in plain Lean. -/
namespace Go.Proofs.YtpijeomnplmakaaGreatDoor
open Go.RowKit

/-- How many slips whose ranks do not fall begin with each one, at most. -/
structure BegR (d C : List Int) : Prop where
  len : C.length = d.length
  pos : ∀ i, i < d.length → 1 ≤ gd C i
  up : ∀ i k, i < k → k < d.length → gd d i ≤ gd d k → gd C k + 1 ≤ gd C i
  ex : ∀ i, i < d.length → gd C i = 1 ∨ ∃ k, i < k ∧ k < d.length ∧ gd d i ≤ gd d k ∧ gd C i = gd C k + 1
theorem BegR.uniq {d C C' : List Int} (h : BegR d C) (g : BegR d C') : C = C' := by
  refine ext_gd (h.len.trans g.len.symm) fun i hi => ?_
  rw [h.len] at hi
  obtain ⟨m, hm⟩ : ∃ m, m = d.length - i := ⟨_, rfl⟩
  induction m using Nat.strongRecOn generalizing i with
  | ind m ih =>
    have h1 : gd C i ≤ gd C' i := by
      rcases h.ex i hi with e | ⟨k, hk, hk2, hd, e⟩
      · have := g.pos i hi; omega
      · have := g.up i k hk hk2 hd
        have := ih (d.length - k) (by omega) k hk2 rfl; omega
    have h2 : gd C' i ≤ gd C i := by
      rcases g.ex i hi with e | ⟨k, hk, hk2, hd, e⟩
      · have := h.pos i hi; omega
      · have := h.up i k hk hk2 hd
        have := ih (d.length - k) (by omega) k hk2 rfl; omega
    omega
theorem BegR.le {d C : List Int} (h : BegR d C) : ∀ i, i < d.length → gd C i ≤ d.length - i := by
  intro i hi
  obtain ⟨m, hm⟩ : ∃ m, m = d.length - i := ⟨_, rfl⟩
  induction m using Nat.strongRecOn generalizing i with
  | ind m ih =>
    rcases h.ex i hi with e | ⟨k, hk, hk2, hd, e⟩
    · omega
    · have := ih (d.length - k) (by omega) k hk2 rfl; omega

/-- The numbers from i to before n. -/
abbrev upR (i n : Nat) : List Nat := List.range' i (n - i)
theorem upR_nil {i n : Nat} (h : n ≤ i) : upR i n = [] := by rw [upR, Nat.sub_eq_zero_of_le h]; rfl
theorem upR_mem {i n k : Nat} : k ∈ upR i n ↔ i ≤ k ∧ k < n := by rw [upR, List.mem_range'_1]; omega
/-- Slip k comes behind slip i, of as many as are left. -/
def nxB (d C : List Int) (last : Option Nat) (left : Int) (k : Nat) : Bool := decide (gd C k = left) && (match last with | none => true | some j => decide (gd d j ≤ gd d k))
def nextK (d C : List Int) (i : Nat) : Option Nat := (upR (i + 1) d.length).find? (nxB d C (some i) (gd C i - 1))
theorem nextK_some {d C : List Int} {i k : Nat} (h : nextK d C i = some k) : i < k ∧ k < d.length ∧ gd C k = gd C i - 1 ∧ gd d i ≤ gd d k := by
  have h1 := upR_mem.1 (List.mem_of_find?_eq_some h)
  have h2 := List.find?_some h
  simp only [nxB, Bool.and_eq_true, decide_eq_true_eq] at h2
  exact ⟨by omega, h1.2, h2.1, h2.2⟩
def pathF (d C : List Int) : Nat → Nat → List Int
  | 0, _ => []
  | f + 1, i => (i : Int) :: (match nextK d C i with | none => [] | some k => pathF d C f k)
theorem pathF_stable (d C : List Int) : ∀ (m i f g : Nat), d.length - i = m → m ≤ f → m ≤ g → i < d.length → pathF d C f i = pathF d C g i := by
  intro m
  induction m using Nat.strongRecOn with
  | ind m ih =>
    intro i f g hm hf hg hi
    obtain ⟨f', rfl⟩ : ∃ f', f = f' + 1 := ⟨f - 1, by omega⟩
    obtain ⟨g', rfl⟩ : ∃ g', g = g' + 1 := ⟨g - 1, by omega⟩
    rw [pathF, pathF]
    cases hk : nextK d C i with
    | none => rfl
    | some k =>
      have := nextK_some hk
      simp only
      rw [ih (d.length - k) (by omega) k f' g' rfl (by omega) (by omega) this.2.1]
/-- The best slips that begin with slip i. -/
def pathK (d C : List Int) (i : Nat) : List Int := pathF d C d.length i
theorem pathK_eq {d C : List Int} {i : Nat} (hi : i < d.length) : pathK d C i = (i : Int) :: ((nextK d C i).map (pathK d C)).getD [] := by
  obtain ⟨n, hn⟩ : ∃ n, d.length = n + 1 := ⟨d.length - 1, by omega⟩
  rw [pathK, hn, pathF]
  cases hk : nextK d C i with
  | none => rfl
  | some k =>
    have := nextK_some hk
    simp only [Option.map_some, Option.getD_some]
    rw [pathK, pathF_stable d C (d.length - k) k n d.length rfl (by omega) (by omega) this.2.1]
theorem find_none {p : Nat → Bool} {i n : Nat} (h : (upR i n).find? p = none) : ∀ k, i ≤ k → k < n → p k = false := by
  intro k h1 h2
  rw [List.find?_eq_none] at h
  simpa using h k (upR_mem.2 ⟨h1, h2⟩)
theorem nextK_none {d C : List Int} (h : BegR d C) {i : Nat} (hi : i < d.length) (hn : nextK d C i = none) : gd C i = 1 := by
  rcases h.ex i hi with e | ⟨k, hk, hk2, hd, e⟩
  · exact e
  · have := find_none hn k (by omega) hk2
    simp only [nxB, Bool.and_eq_false_iff, decide_eq_false_iff_not] at this
    rcases this with this | this
    · omega
    · exact absurd hd this
theorem pathK_len {d C : List Int} (h : BegR d C) : ∀ i, i < d.length → ((pathK d C i).length : Int) = gd C i := by
  intro i hi
  obtain ⟨m, hm⟩ : ∃ m, m = d.length - i := ⟨_, rfl⟩
  induction m using Nat.strongRecOn generalizing i with
  | ind m ih =>
    rw [pathK_eq hi]
    cases hk : nextK d C i with
    | none => rw [nextK_none h hi hk]; rfl
    | some k =>
      have h1 := nextK_some hk
      have := ih (d.length - k) (by omega) k h1.2.1 rfl
      simp only [Option.map_some, Option.getD_some, List.length_cons]
      omega

/-- A row is better: longer, or as long and lower. -/
def longB (a b : List Int) : Bool := decide (b.length < a.length) || (decide (a.length = b.length) && decide (lexC a b < 0))
def betS (b x : List Int) : List Int := if longB x b then x else b
/-- The first one of rows of which none is better. -/
def firstF : List (List Int) → List Int
  | [] => []
  | x :: xs => xs.foldl betS x
theorem longB_longer {a b : List Int} (h : b.length < a.length) : longB a b = true := by simp [longB, h]
theorem longB_shorter {a b : List Int} (h : a.length < b.length) : longB a b = false := by
  simp only [longB, Bool.or_eq_false_iff, decide_eq_false_iff_not, Bool.and_eq_false_iff]
  exact ⟨by omega, .inl (by omega)⟩
theorem longB_first {a b : List Int} {x y : Int} (h : a.length = b.length) (hxy : y < x) : longB (x :: a) (y :: b) = false := by
  simp only [longB, Bool.or_eq_false_iff, decide_eq_false_iff_not, Bool.and_eq_false_iff, List.length_cons]
  refine ⟨by omega, .inr ?_⟩
  rw [lexC, if_neg (by omega), if_pos hxy]; omega

section
variable {d C : List Int} (h : BegR d C)
include h
theorem fold_low {T : Nat} : ∀ (ks : List Nat) (b : List Int), (∀ k ∈ ks, k < d.length ∧ gd C k < T) → b.length < T → ((ks.map (pathK d C)).foldl betS b).length < T := by
  intro ks
  induction ks with
  | nil => intro b _ hb; exact hb
  | cons k ks ih =>
    intro b hk hb
    rw [List.map_cons, List.foldl_cons]
    refine ih _ (fun x hx => hk x (List.mem_cons_of_mem _ hx)) ?_
    have h1 := hk k List.mem_cons_self
    have := pathK_len h k h1.1
    rw [betS]
    split <;> omega
theorem fold_top {T : Nat} {m : Nat} (hm : m < d.length) (hT : gd C m = T) : ∀ (ks : List Nat), (∀ k ∈ ks, m < k ∧ k < d.length ∧ gd C k ≤ T) → (ks.map (pathK d C)).foldl betS (pathK d C m) = pathK d C m := by
  intro ks
  induction ks with
  | nil => intro _; rfl
  | cons k ks ih =>
    intro hk
    rw [List.map_cons, List.foldl_cons]
    have h1 := hk k List.mem_cons_self
    have e1 := pathK_len h k h1.2.1
    have e2 := pathK_len h m hm
    have hb : longB (pathK d C k) (pathK d C m) = false := by
      rcases Int.lt_or_eq_of_le h1.2.2 with h2 | h2
      · exact longB_shorter (by omega)
      · rw [pathK_eq h1.2.1] at e1 ⊢
        rw [pathK_eq hm] at e2 ⊢
        simp only [List.length_cons] at e1 e2
        exact longB_first (by omega) (by omega)
    rw [betS, hb]
    exact ih fun x hx => hk x (List.mem_cons_of_mem _ hx)
/-- The best one of several is the first one of the longest. -/
theorem first_find {T : Nat} (hT : 1 ≤ T) {i n : Nat} (hn : n ≤ d.length) {p : Nat → Bool} {m : Nat} (hle : ∀ k, i ≤ k → k < n → p k = true → gd C k ≤ T) (hf : (upR i n).find? (fun k => p k && decide (gd C k = T)) = some m) :
    firstF ([] :: ((upR i n).filter p).map (pathK d C)) = pathK d C m := by
  have hf' : ((upR i n).filter p).find? (fun k => decide (gd C k = T)) = some m := by
    rw [List.find?_filter, ← hf]
    congr 1
    funext k
    cases p k <;> simp
  rw [List.find?_eq_some_iff_append] at hf'
  obtain ⟨h1, us, vs, h2, h3⟩ := hf'
  rw [firstF, h2, List.map_append, List.foldl_append, List.map_cons, List.foldl_cons]
  have hmem : ∀ k, k ∈ us ++ m :: vs → i ≤ k ∧ k < n ∧ p k = true := fun k hk => by
    rw [← h2, List.mem_filter, upR_mem] at hk
    exact ⟨hk.1.1, hk.1.2, hk.2⟩
  have hsort : (us ++ m :: vs).Pairwise (· < ·) := by
    rw [← h2]
    exact (List.pairwise_lt_range' (s := i) (n := n - i)).filter _
  rw [List.pairwise_append, List.pairwise_cons] at hsort
  have hm := hmem m (by simp)
  simp only [decide_eq_true_eq] at h1
  have hlow := fold_low h (T := T) us [] (fun k hk => by
    have := hmem k (by simp [hk])
    have h4 := h3 k hk
    simp only [Bool.not_eq_true', decide_eq_false_iff_not] at h4
    have := hle k this.1 this.2.1 this.2.2
    exact ⟨by omega, by omega⟩) (by simp; omega)
  have e2 := pathK_len h m (by omega)
  rw [betS, longB_longer (by omega), if_pos rfl]
  exact fold_top h (by omega) h1 vs fun k hk => by
    have := hmem k (by simp [hk])
    have := hle k this.1 this.2.1 this.2.2
    exact ⟨hsort.2.1.1 k hk, by omega, this⟩
/-- What the recursion makes. -/
theorem pathK_first {i : Nat} (hi : i < d.length) : pathK d C i = (i : Int) :: firstF ([] :: ((upR (i + 1) d.length).filter fun k => decide (gd d i ≤ gd d k)).map (pathK d C)) := by
  rw [pathK_eq hi]
  congr 1
  cases hk : nextK d C i with
  | none =>
    have h1 := nextK_none h hi hk
    have : (upR (i + 1) d.length).filter (fun k => decide (gd d i ≤ gd d k)) = [] := by
      rw [List.filter_eq_nil_iff]
      intro k hk
      rw [upR_mem] at hk
      simp only [decide_eq_true_eq]
      intro hd
      have := h.up i k (by omega) hk.2 hd
      have := h.pos k hk.2
      omega
    rw [this]; rfl
  | some m =>
    have h1 := nextK_some hk
    have hp := h.pos m h1.2.1
    obtain ⟨T, hT⟩ : ∃ T : Nat, gd C i - 1 = (T : Int) := ⟨(gd C i - 1).toNat, by omega⟩
    refine (first_find h (T := T) (by omega) (Nat.le_refl _) (fun k h2 h3 h4 => ?_) ?_).symm
    · simp only [decide_eq_true_eq] at h4
      have := h.up i k (by omega) h3 h4
      omega
    · rw [← hk, nextK]
      congr 1
      funext k
      simp only [nxB, ← hT]
      rw [Bool.and_comm]
end
theorem firstF_snoc {l : List (List Int)} (h : l ≠ []) (y : List Int) : firstF (l ++ [y]) = betS (firstF l) y := by
  cases l with
  | nil => exact absurd rfl h
  | cons x l => simp [firstF]
theorem upR_snoc {i k : Nat} (h : i ≤ k) : upR i (k + 1) = upR i k ++ [k] := by
  rw [upR, upR, show k + 1 - i = (k - i) + 1 by omega, List.range'_concat]
  congr 2; omega
/-- What is kept. -/
def keepK (d C : List Int) : List Int := firstF ([] :: (upR 0 d.length).map (pathK d C))
def maxC (C : List Int) : Int := C.foldl max 0
theorem maxC_ge (C : List Int) : 0 ≤ maxC C ∧ ∀ x ∈ C, x ≤ maxC C := by
  suffices h : ∀ (C : List Int) (m : Int), m ≤ C.foldl max m ∧ ∀ x ∈ C, x ≤ C.foldl max m from h C 0
  intro C
  induction C with
  | nil => intro m; simp
  | cons y C ih =>
    intro m
    have := ih (max m y)
    simp only [List.foldl_cons, List.mem_cons]
    refine ⟨by omega, fun x hx => ?_⟩
    rcases hx with rfl | hx
    · omega
    · exact this.2 x hx
theorem maxC_mem (C : List Int) : maxC C = 0 ∨ maxC C ∈ C := by
  suffices h : ∀ (C : List Int) (m : Int), C.foldl max m = m ∨ C.foldl max m ∈ C from h C 0
  intro C
  induction C with
  | nil => intro m; simp
  | cons y C ih =>
    intro m
    simp only [List.foldl_cons, List.mem_cons]
    rcases ih (max m y) with e | e
    · rw [e]
      rcases Int.le_total m y with h | h
      · rw [Int.max_eq_right h]; exact .inr (.inl rfl)
      · rw [Int.max_eq_left h]; exact .inl rfl
    · exact .inr (.inr e)
/-- What comes yet. -/
def restK (d C : List Int) (last : Option Nat) (left : Int) (i : Nat) : List Int := (((upR i d.length).find? (nxB d C last left)).map (pathK d C)).getD []
theorem restK_end (d C : List Int) (last : Option Nat) (left : Int) {i : Nat} (hi : d.length ≤ i) : restK d C last left i = [] := by rw [restK, upR_nil hi]; rfl
section
variable {d C : List Int} (h : BegR d C)
include h
theorem keepK_rest : keepK d C = restK d C none (maxC C) 0 := by
  have hmem : ∀ k, k < d.length → gd C k ∈ C := fun k hk => by rw [gd_lt (by rw [h.len]; exact hk)]; exact List.getElem_mem _
  rcases Nat.eq_zero_or_pos d.length with h0 | h0
  · rw [restK_end d C none _ (by omega), keepK, upR_nil (by omega)]; rfl
  · have h1 := h.pos 0 h0
    have h2 := (maxC_ge C).2 _ (hmem 0 h0)
    obtain ⟨T, hT⟩ : ∃ T : Nat, maxC C = (T : Int) := ⟨(maxC C).toNat, by omega⟩
    have hex : ∃ m, (upR 0 d.length).find? (nxB d C none (maxC C)) = some m := by
      cases hf : (upR 0 d.length).find? (nxB d C none (maxC C)) with
      | some m => exact ⟨m, rfl⟩
      | none =>
        exfalso
        rcases maxC_mem C with e | e
        · omega
        · obtain ⟨k, hk, e2⟩ := List.mem_iff_getElem.1 e
          have := find_none hf k (Nat.zero_le _) (by rw [← h.len]; exact hk)
          simp only [nxB, Bool.and_true, decide_eq_false_iff_not] at this
          rw [gd_lt hk] at this
          exact this e2
    obtain ⟨m, hm⟩ := hex
    rw [restK, hm, keepK]
    have hfi : (upR 0 d.length).filter (fun _ => true) = upR 0 d.length := by simp
    rw [← hfi]
    refine first_find h (T := T) (by omega) (Nat.le_refl _) (p := fun _ => true) (fun k _ hk _ => ?_) ?_
    · rw [← hT]; exact (maxC_ge C).2 _ (hmem k hk)
    · rw [← hm]
      congr 1
      funext k
      simp only [nxB, hT, Bool.true_and, Bool.and_true]
end

/-! ### Passes -/
theorem PassR.zero {b m p : Nat} (h : PassR b m p) : p = 0 ↔ m = 0 := by
  constructor
  · intro e; subst e; have := h.1; simpa using this
  · intro e
    refine Decidable.by_contra fun hp => ?_
    have := h.2 0 (by omega)
    simp at this; omega
theorem PassR.one {b m p : Nat} (h : PassR b m p) (hm : 0 < m) : p = 1 ↔ m < b := by
  have hz := h.zero
  constructor
  · intro e; subst e; have := h.1; simpa using this
  · intro hlt
    refine Decidable.by_contra fun hp => ?_
    have := h.2 1 (by omega)
    simp at this; omega
theorem PassR.more {b b' m p p' : Nat} (h : PassR b m p) (g : PassR b' m p') (hb : b ≤ b') : p' ≤ p := by
  refine Decidable.by_contra fun hc => ?_
  have h1 := g.2 p (by omega)
  have h2 : b ^ p ≤ b' ^ p := Nat.pow_le_pow_left hb _
  have := h.1
  omega
/-! ### One more slip behind all others -/
section
variable {d : List Int} {r : Int} (hr : ∀ x ∈ d, x ≤ r)
include hr
end

theorem key_nat {d : List Int} {x : Int} (_h : 0 ≤ x) : keyD d x = gd d x.toNat := rfl
/-! ### Moves -/
/-! ### The moves that put a deck right -/

/-! ### A part of a deck that lay right -/
/-- Ranks that do not fall, but for those from a to b, which lie between the others. -/
def FellI (d : List Int) (a b : Nat) : Prop := ∀ i j, i < j → j < d.length → (i < a ∨ b < i ∨ j < a ∨ b < j) → gd d i ≤ gd d j
/-- Two ranks of the part change their places. -/
theorem FellI.swap {d : List Int} {a b i k : Nat} (hf : FellI d a b) (hi : a ≤ i ∧ i ≤ b) (hk : a ≤ k ∧ k ≤ b) (hb : b < d.length) : FellI ((d.set i (gd d k)).set k (gd d i)) a b := by
  intro x y hxy hy ho
  have hl : ((d.set i (gd d k)).set k (gd d i)).length = d.length := by simp
  rw [hl] at hy
  have g : ∀ z, gd ((d.set i (gd d k)).set k (gd d i)) z = if z = k then gd d i else if z = i then gd d k else gd d z := fun z => by
    rw [gd_set, gd_set, List.length_set]
    by_cases e1 : z = k
    · rw [if_pos ⟨e1, by omega⟩, if_pos e1]
    · rw [if_neg (fun h => e1 h.1), if_neg e1]
      by_cases e2 : z = i
      · rw [if_pos ⟨e2, by omega⟩, if_pos e2]
      · rw [if_neg (fun h => e2 h.1), if_neg e2]
  rw [g, g]
  have key : ∀ z, ∃ z', gd d z' = (if z = k then gd d i else if z = i then gd d k else gd d z) ∧ ((z < a ∨ b < z) → z' = z) ∧ ((a ≤ z ∧ z ≤ b) → a ≤ z' ∧ z' ≤ b) := fun z => by
    by_cases e1 : z = k
    · exact ⟨i, by rw [if_pos e1], by omega, by omega⟩
    · by_cases e2 : z = i
      · exact ⟨k, by rw [if_neg e1, if_pos e2], by omega, by omega⟩
      · exact ⟨z, by rw [if_neg e1, if_neg e2], fun _ => rfl, fun h => h⟩
  obtain ⟨x', x1, x2, x3⟩ := key x
  obtain ⟨y', y1, y2, y3⟩ := key y
  rw [← x1, ← y1]
  refine hf x' y' ?_ ?_ ?_ <;> omega

section rules
variable {P : Program} {ro : Option Nat} {n : Nat} {all rest : List Oper} {K : Sl → World → Prop} {s : Sl} {w : World} {d : Nat} {ty : Nat} {pos : String} {af : Array Edge}
variable {x y : Operand} {t t' e : Nat}
theorem flatMap_take {k : Nat} : ∀ {xs : List Value} (m : Nat), (∀ x ∈ xs, x.cells.toList.length = k) → (xs.take m).flatMap (·.cells.toList) = (xs.flatMap (·.cells.toList)).take (m * k)
  | [], m, _ => by simp
  | y :: xs, 0, _ => by simp
  | y :: xs, m + 1, h => by
    have hy := h y List.mem_cons_self
    rw [List.take_succ_cons, List.flatMap_cons, List.flatMap_cons, flatMap_take m fun x hx => h x (List.mem_cons_of_mem _ hx), List.take_append, hy, Nat.add_mul, Nat.one_mul, Nat.add_sub_cancel]
    rw [List.take_of_length_le (l := y.cells.toList) (by omega)]
/-- The first m elements of a slice of the call's own. -/
theorem OwnL.cut {w : World} {B e k l c : Nat} {agg : Bool} {a : Option Addr} {xs : List Value} (h : OwnL w B e agg k (.slice a l c) xs) {m : Nat} (hm : m ≤ xs.length) (h0 : 0 < c) : OwnL w B e agg k (.slice a m c) (xs.take m) := by
  have hl : (xs.take m).length = m := by rw [List.length_take]; omega
  have hf : ∀ x ∈ xs.take m, fitsV agg k x = true := fun x hx => h.fit x (List.mem_of_mem_take hx)
  have hlen := h.len
  refine ⟨⟨?_, ?_⟩, hf, by omega⟩
  · rw [flatMap_take (k := k) m fun x hx => by rw [Array.length_toList]; exact fitsV_cells (h.fit x hx)]
    rw [List.length_take, hl, flat_len (k := k) (xs := xs) fun y hy => fitsV_cells (h.fit y hy)]
    exact Nat.min_eq_left (Nat.mul_le_mul_right _ hm)
  · rcases h.own.2 with ⟨e0, _⟩ | ⟨g, cap, cur, e0, hB, hh, hn, hm', hs, ht⟩
    · simp only [Value.slice.injEq] at e0; omega
    · simp only [Value.slice.injEq] at e0
      obtain ⟨rfl, _, rfl⟩ := e0
      refine .inr ⟨g, c, cur, by rw [hl], hB, hh, by omega, hm', hs, ?_⟩
      rw [hl, flatMap_take (k := k) m fun x hx => by rw [Array.length_toList]; exact fitsV_cells (h.fit x hx), ← ht, List.take_take, Nat.min_eq_left (Nat.mul_le_mul_right _ hm)]
theorem Ops.sliceXHv {l c hi k bytes : Nat} {j : Int} {k2 : IntKind} {xh : Operand} {a : Option Addr} {z : Value} (hx : ev n s x = .slice a l c) (hh : ev n s xh = .int k2 j) (hj : j = (hi : Int)) (h2 : hi ≤ c) (h0 : 0 < c) [ht : TSl P t e] [hz : TS P e z k bytes]
    (h : Ops P ro n all rest K (upd s d (.slice a hi c)) w) : Ops P ro n all (⟨some d, .slice t x none (some xh) none, ty, pos, af, none⟩ :: rest) K s w := by
  subst hj
  refine Ops.ofRun rfl ?_ h
  have hc : ¬ c = 0 := by omega
  cases a <;> simp [execOp, Instr.sliceAt, Instr.slice, Instr.sliceBounds, Instr.sliceBound, hx, hh, run_underlying ht.h, asIntOf, h2, run_sizeOf' w hz, hc, Addr.add]
end rules


/-! ### Words and places of a chapter -/
def lnP (k n : Nat) (q : Nat) : List Pl := (List.range q).map fun (w : Nat) => ((k : Int), (n : Int), (w : Int))
def runAn (k : Nat) (x : List (List ByteArray)) (n : Nat) : List Pl := (List.range n).flatMap fun i => lnP k i (x.getD i []).length
def runA (k : Nat) (x : List (List ByteArray)) : List Pl := runAn k x x.length
theorem lnP_succ (k n q : Nat) : lnP k n (q + 1) = lnP k n q ++ [((k : Int), (n : Int), (q : Int))] := by simp [lnP, List.range_succ]
theorem lnP_len (k n q : Nat) : (lnP k n q).length = q := by simp [lnP]
theorem runAn_succ (k : Nat) {x : List (List ByteArray)} {n : Nat} {y : List ByteArray} (h : x[n]? = some y) : runAn k x (n + 1) = runAn k x n ++ lnP k n y.length := by
  simp [runAn, List.range_succ, List.getD_eq_getElem?_getD, h]
theorem runAn_len (k : Nat) {x : List (List ByteArray)} : ∀ {n : Nat}, n ≤ x.length → (runAn k x n).length = (x.take n).flatten.length
  | 0, _ => by simp [runAn]
  | n + 1, h => by
    have hg : x[n]? = some x[n] := List.getElem?_eq_getElem (by omega)
    rw [runAn_succ k hg, take_snoc_get hg, List.length_append, runAn_len k (by omega), lnP_len, List.flatten_append, List.length_append, List.flatten_singleton]
theorem runA_len (k : Nat) (x : List (List ByteArray)) : (runA k x).length = x.flatten.length := by
  rw [runA, runAn_len k (Nat.le_refl _), List.take_length]
theorem flatW_len {m : Nat} : ∀ {x : List (List ByteArray)}, (∀ y ∈ x, y.length ≤ m) → x.flatten.length ≤ x.length * m
  | [], _ => by simp
  | y :: x, h => by
    have := flatW_len (x := x) fun z hz => h z (by simp [hz])
    have := h y (by simp)
    rw [List.flatten_cons, List.length_append, List.length_cons, Nat.add_mul]
    omega
theorem flat_take {m n : Nat} {x : List (List ByteArray)} (h : ∀ y ∈ x, y.length ≤ m) (hn : n ≤ 1000) : (x.take n).flatten.length ≤ 1000 * m := by
  have h1 := flatW_len (x := x.take n) (m := m) fun y hy => h y (List.mem_of_mem_take hy)
  have h2 : (x.take n).length ≤ 1000 := by rw [List.length_take]; omega
  exact Nat.le_trans h1 (Nat.mul_le_mul_right _ h2)
theorem flat_step {x : List (List ByteArray)} {n q : Nat} {y : List ByteArray} {s : ByteArray} (h : y[q]? = some s) : ((x.take n).flatten ++ y.take q) ++ [s] = (x.take n).flatten ++ y.take (q + 1) := by
  rw [take_snoc_get h, List.append_assoc]
theorem flat_next {x : List (List ByteArray)} {n : Nat} {y : List ByteArray} (h : x[n]? = some y) : (x.take n).flatten ++ y = (x.take (n + 1)).flatten := by
  rw [take_snoc_get h]; simp

/-! ### Lengths -/
abbrev Cx := Nat × Nat
def preW (ws : List ByteArray) (k : Nat) : Nat := ((ws.take k).map fun s => s.size + 1).sum
theorem preW_succ {ws : List ByteArray} {k : Nat} (h : k < ws.length) : preW ws (k + 1) = preW ws k + ws[k].size + 1 := by
  rw [preW, preW, take_snoc_get (List.getElem?_eq_getElem h), List.map_append, List.sum_append]; simp only [List.map_cons, List.map_nil, List.sum_cons, List.sum_nil]; omega
theorem preW_mono {ws : List ByteArray} {a b : Nat} (h : a ≤ b) (hb : b ≤ ws.length) : preW ws a + (b - a) ≤ preW ws b := by
  obtain ⟨d, rfl⟩ : ∃ d, b = a + d := ⟨b - a, by omega⟩
  induction d with
  | zero => simp
  | succ d ih =>
    have := ih (by omega) (by omega)
    rw [← Nat.add_assoc, preW_succ (by omega)]
    omega
theorem preW_le {ws : List ByteArray} {m : Nat} (h : ∀ s ∈ ws, s.size ≤ m) : ∀ {k : Nat}, k ≤ ws.length → preW ws k ≤ k * (m + 1)
  | 0, _ => by simp [preW]
  | k + 1, hk => by
    rw [preW_succ hk, Nat.add_mul]
    have := preW_le h (k := k) (by omega)
    have := h _ (List.getElem_mem hk)
    omega
/-- The length of the words from one to another one, with spaces. -/
def lenX (ws : List ByteArray) (x : Cx) : Int := (preW ws (x.2 + 1) : Int) - preW ws x.1 - 1
theorem lenX_to {ws : List ByteArray} {a b : Nat} (h : b + 1 < ws.length) : lenX ws (a, b + 1) = lenX ws (a, b) + (ws[b + 1].size + 1) := by
  simp only [lenX]; rw [preW_succ h]; omega
theorem lenX_from {ws : List ByteArray} {a b : Nat} (h : a < ws.length) : lenX ws (a, b) = lenX ws (a + 1, b) + (ws[a].size + 1) := by
  simp only [lenX]; rw [preW_succ h]; omega
theorem lenX_self {ws : List ByteArray} {a : Nat} (h : a < ws.length) : lenX ws (a, a) = ws[a].size := by
  simp only [lenX]; rw [preW_succ h]; omega
theorem lenX_mono {ws : List ByteArray} {a b a' b' : Nat} (ha : a' ≤ a) (hb : b ≤ b') (hl : b' < ws.length) (hab : a ≤ b) : lenX ws (a, b) ≤ lenX ws (a', b') := by
  simp only [lenX]
  have := preW_mono (ws := ws) ha (by omega)
  have := preW_mono (ws := ws) (a := b + 1) (b := b' + 1) (by omega) (by omega)
  omega
theorem lenX_inj {ws : List ByteArray} {a b b' : Nat} (hb : b < ws.length) (hb' : b' < ws.length) (h : lenX ws (a, b) = lenX ws (a, b')) : b = b' := by
  simp only [lenX] at h
  rcases Nat.lt_trichotomy b b' with hl | he | hl
  · have := preW_mono (ws := ws) (a := b + 1) (b := b' + 1) (by omega) (by omega); omega
  · exact he
  · have := preW_mono (ws := ws) (a := b' + 1) (b := b + 1) (by omega) (by omega); omega
theorem lenX_bound {ws : List ByteArray} {a b : Nat} (hs : ∀ s ∈ ws, s.size ≤ 1000) (hn : ws.length ≤ 1000000) (hab : a ≤ b) (hb : b < ws.length) : 0 ≤ lenX ws (a, b) ∧ lenX ws (a, b) ≤ 1001000000 := by
  have h1 := preW_le hs (k := b + 1) (by omega)
  have h2 := preW_mono (ws := ws) (a := a) (b := b + 1) (by omega) (by omega)
  simp only [lenX]
  have : (b + 1) * 1001 ≤ 1000000 * 1001 := Nat.mul_le_mul_right _ (by omega)
  omega

/-! ### The order of contexts -/
def unE (i : Nat) (x : Cx) : Int := max ((i : Int) - x.1 - ((x.2 : Int) - i)) (-((i : Int) - x.1 - ((x.2 : Int) - i)))
def sdI (side : Int) (i : Nat) (x y : Cx) : Int := if side = 1 then (x.1 : Int) - y.1 else if side = 2 then (y.1 : Int) - x.1 else orF [unE i x - unE i y, (y.1 : Int) - x.1]
def ordI (ws : List ByteArray) (side : Int) (i : Nat) (x y : Cx) : Int := orF [lenX ws y - lenX ws x, sdI side i x y]
theorem orF_1 (a : Int) : orF [a] = a := by unfold orF orF; split <;> omega
theorem orF_2 (a b : Int) : orF [a, b] = if a = 0 then b else a := by rw [orF, orF_1]
theorem ordI_lt (ws : List ByteArray) (side : Int) (i : Nat) (x y : Cx) : ordI ws side i x y < 0 ↔ lenX ws y < lenX ws x ∨ lenX ws y = lenX ws x ∧ sdI side i x y < 0 := by
  rw [ordI, orF_2]; split <;> omega
theorem sdI_lt (side : Int) (i : Nat) (x y : Cx) : sdI side i x y < 0 ↔ (side = 1 ∧ x.1 < y.1) ∨ (side ≠ 1 ∧ side = 2 ∧ y.1 < x.1) ∨ (side ≠ 1 ∧ side ≠ 2 ∧ (unE i x < unE i y ∨ unE i x = unE i y ∧ y.1 < x.1)) := by
  unfold sdI
  split
  · omega
  · split
    · omega
    · rw [orF_2]; split <;> omega
theorem ordI_trans {ws : List ByteArray} {side : Int} {i : Nat} {x y z : Cx} (h1 : ordI ws side i x y < 0) (h2 : ordI ws side i y z < 0) : ordI ws side i x z < 0 := by
  rw [ordI_lt, sdI_lt] at *
  omega
theorem ordI_asymm {ws : List ByteArray} {side : Int} {i : Nat} {x y : Cx} (h1 : ordI ws side i x y < 0) (h2 : ordI ws side i y x < 0) : False := by
  rw [ordI_lt, sdI_lt] at *
  omega
theorem ordI_total {ws : List ByteArray} {side : Int} {i : Nat} {x y : Cx} (hx : x.2 < ws.length) (hy : y.2 < ws.length) (hne : x ≠ y) : ordI ws side i x y < 0 ∨ ordI ws side i y x < 0 := by
  by_cases he : x.1 = y.1
  · have : lenX ws x ≠ lenX ws y := fun h => by
      obtain ⟨a, b⟩ := x
      obtain ⟨a', b'⟩ := y
      simp only at he
      subst he
      exact hne (congrArg _ (lenX_inj hx hy h))
    rw [ordI_lt, ordI_lt]; omega
  · rw [ordI_lt, ordI_lt, sdI_lt, sdI_lt]
    omega

/-! ### The first of a list -/
def bestS (o : Cx → Cx → Int) (b : Option Cx) (x : Cx) : Option Cx := match b with
  | none => some x
  | some y => if o x y < 0 then some x else some y
def fstF (o : Cx → Cx → Int) (l : List Cx) : Option Cx := l.foldl (bestS o) none
def bestR (o : Cx → Cx → Int) (b x : Cx) : Cx := if o x b < 0 then x else b
theorem foldl_some (o : Cx → Cx → Int) : ∀ (l : List Cx) (b : Cx), l.foldl (bestS o) (some b) = some (l.foldl (bestR o) b)
  | [], _ => rfl
  | x :: l, b => by
    rw [List.foldl_cons, List.foldl_cons]
    have : bestS o (some b) x = some (bestR o b x) := by simp only [bestS, bestR]; split <;> rfl
    rw [this, foldl_some o l]
def IsMin (o : Cx → Cx → Int) (l : List Cx) (m : Cx) : Prop := m ∈ l ∧ ∀ y ∈ l, y = m ∨ o m y < 0
theorem foldl_min (o : Cx → Cx → Int) (ht : ∀ x y z, o x y < 0 → o y z < 0 → o x z < 0) : ∀ (l : List Cx) (b : Cx), (∀ x ∈ b :: l, ∀ y ∈ b :: l, x ≠ y → o x y < 0 ∨ o y x < 0) → IsMin o (b :: l) (l.foldl (bestR o) b)
  | [], b, _ => ⟨by simp, fun y hy => by simp at hy; exact .inl hy⟩
  | x :: l, b, hT => by
    rw [List.foldl_cons]
    have hsub : ∀ z, z ∈ bestR o b x :: l → z ∈ b :: x :: l := fun z hz => by
      rcases List.mem_cons.1 hz with rfl | hz
      · unfold bestR; split <;> simp
      · simp [hz]
    obtain ⟨h1, h2⟩ := foldl_min o ht l (bestR o b x) fun u hu v hv => hT u (hsub u hu) v (hsub v hv)
    generalize l.foldl (bestR o) (bestR o b x) = m at h1 h2
    refine ⟨hsub _ h1, fun y hy => ?_⟩
    have hb : bestR o b x = m ∨ o m (bestR o b x) < 0 := h2 _ (by simp)
    have key : y = bestR o b x ∨ o (bestR o b x) y < 0 ∨ y ∈ l := by
      rcases List.mem_cons.1 hy with rfl | hy
      · by_cases e : x = y
        · subst e; left; unfold bestR; split <;> rfl
        · unfold bestR
          split
          · exact .inr (.inl ‹_›)
          · exact .inl rfl
      · rcases List.mem_cons.1 hy with rfl | hy
        · by_cases e : y = b
          · subst e; left; unfold bestR; split <;> rfl
          · unfold bestR
            split
            · exact .inl rfl
            · rename_i hn
              rcases hT y (by simp) b (by simp) e with h | h
              · exact absurd h hn
              · exact .inr (.inl h)
        · exact .inr (.inr hy)
    rcases key with rfl | h | h
    · rcases hb with e | h
      · exact .inl e
      · exact .inr h
    · rcases hb with e | h'
      · rw [← e]; exact .inr h
      · exact .inr (ht _ _ _ h' h)
    · exact h2 _ (by simp [h])
theorem min_unique {o : Cx → Cx → Int} (ha : ∀ x y, o x y < 0 → o y x < 0 → False) {l l' : List Cx} {m m' : Cx} (h : IsMin o l m) (h' : IsMin o l' m') (e : ∀ x, x ∈ l ↔ x ∈ l') : m = m' := by
  rcases h.2 m' ((e _).2 h'.1) with h1 | h1
  · exact h1.symm
  · rcases h'.2 m ((e _).1 h.1) with h2 | h2
    · exact h2
    · exact (ha _ _ h1 h2).elim

/-! ### Contexts -/
def okX (ws : List ByteArray) (W : Int) (x : Cx) : Bool := decide (lenX ws x ≤ W)
def ctxTo (ws : List ByteArray) (i : Nat) (W : Int) (a m : Nat) : List Cx := ((List.range m).map fun t => (a, i + t)).filter (okX ws W)
def ctxN (ws : List ByteArray) (i : Nat) (W : Int) (f : Nat) : List Cx := (List.range f).flatMap fun j => ctxTo ws i W (i - j) (ws.length - i)
def ctxA (ws : List ByteArray) (i : Nat) (W : Int) : List Cx := ctxN ws i W (i + 1)
theorem range_split {j m : Nat} (h : j < m) : ∃ r, List.range m = List.range j ++ j :: r := by
  refine ⟨(List.range m).drop (j + 1), ?_⟩
  have h1 := List.take_append_drop j (List.range m)
  rw [List.take_range, Nat.min_eq_left (by omega)] at h1
  rw [List.drop_eq_getElem_cons (by simpa using h), List.getElem_range] at h1
  exact h1.symm
theorem ctxTo_succ (ws : List ByteArray) (i : Nat) (W : Int) (a t : Nat) : ctxTo ws i W a (t + 1) = ctxTo ws i W a t ++ (if okX ws W (a, i + t) then [(a, i + t)] else []) := by
  simp only [ctxTo, List.range_succ, List.map_append, List.filter_append, List.map_cons, List.map_nil]
  congr 1
  by_cases h : okX ws W (a, i + t) = true
  · rw [if_pos h]; simp [h]
  · rw [if_neg h]; simp [h]
theorem ctxTo_split (ws : List ByteArray) (i : Nat) (W : Int) (a : Nat) {t m : Nat} (h : t < m) (hok : okX ws W (a, i + t) = true) : ∃ r, ctxTo ws i W a m = ctxTo ws i W a t ++ (a, i + t) :: r := by
  obtain ⟨r, hr⟩ := range_split h
  refine ⟨(r.map fun t => (a, i + t)).filter (okX ws W), ?_⟩
  rw [ctxTo, hr, List.map_append, List.filter_append, List.map_cons, List.filter_cons_of_pos hok]; rfl
theorem ctx_get {ws : List ByteArray} {i : Nat} {W : Int} {j t : Nat} (hj : j ≤ i) (ht : i + t < ws.length) (hok : lenX ws (i - j, i + t) ≤ W) :
    (ctxA ws i W)[(ctxN ws i W j ++ ctxTo ws i W (i - j) t).length]? = some (i - j, i + t) := by
  obtain ⟨r, hr⟩ := range_split (j := j) (m := i + 1) (by omega)
  obtain ⟨q, hq⟩ := ctxTo_split ws i W (i - j) (t := t) (m := ws.length - i) (by omega) (decide_eq_true hok)
  have : ctxA ws i W = (ctxN ws i W j ++ ctxTo ws i W (i - j) t) ++ (i - j, i + t) :: (q ++ r.flatMap fun j => ctxTo ws i W (i - j) (ws.length - i)) := by
    rw [ctxA, ctxN, hr, List.flatMap_append, List.flatMap_cons, hq]
    simp [ctxN]
  rw [this]
  simp
theorem ctxTo_stop {ws : List ByteArray} {i : Nat} {W : Int} {a : Nat} (hai : a ≤ i) {t m : Nat} (hm : i + m ≤ ws.length) (htm : t ≤ m) (h : W < lenX ws (a, i + t)) : ctxTo ws i W a m = ctxTo ws i W a t := by
  obtain ⟨d, rfl⟩ : ∃ d, m = t + d := ⟨m - t, by omega⟩
  induction d with
  | zero => rfl
  | succ d ih =>
    rw [← Nat.add_assoc, ctxTo_succ, ih (by omega) (by omega), if_neg, List.append_nil]
    have := lenX_mono (ws := ws) (a := a) (a' := a) (b := i + t) (b' := i + (t + d)) (Nat.le_refl _) (by omega) (by omega) (by omega)
    simp only [okX, decide_eq_true_eq]; omega
theorem ctxN_succ (ws : List ByteArray) (i : Nat) (W : Int) (j : Nat) : ctxN ws i W (j + 1) = ctxN ws i W j ++ ctxTo ws i W (i - j) (ws.length - i) := by
  simp [ctxN, List.range_succ]
theorem ctxN_stop {ws : List ByteArray} {i : Nat} {W : Int} {j m : Nat} (hi : i < ws.length) (hjm : j ≤ m) (h : W < lenX ws (i - j, i)) : ctxN ws i W m = ctxN ws i W j := by
  obtain ⟨d, rfl⟩ : ∃ d, m = j + d := ⟨m - j, by omega⟩
  induction d with
  | zero => rfl
  | succ d ih =>
    have h0 : ctxTo ws i W (i - (j + d)) (ws.length - i) = ctxTo ws i W (i - (j + d)) 0 := by
      refine ctxTo_stop (by omega) (by omega) (by omega) ?_
      have := lenX_mono (ws := ws) (a := i - j) (a' := i - (j + d)) (b := i) (b' := i) (by omega) (Nat.le_refl _) hi (by omega)
      rw [Nat.add_zero]; omega
    rw [← Nat.add_assoc, ctxN_succ, ih (by omega), h0]
    simp [ctxTo]
theorem mem_ctxTo {ws : List ByteArray} {i : Nat} {W : Int} {a m : Nat} {x : Cx} : x ∈ ctxTo ws i W a m ↔ x.1 = a ∧ i ≤ x.2 ∧ x.2 < i + m ∧ lenX ws x ≤ W := by
  simp only [ctxTo, List.mem_filter, List.mem_map, List.mem_range, okX, decide_eq_true_eq]
  constructor
  · rintro ⟨⟨t, ht, rfl⟩, h⟩; exact ⟨rfl, by simp, by simp; omega, h⟩
  · rintro ⟨rfl, h1, h2, h3⟩
    exact ⟨⟨x.2 - i, by omega, by ext <;> simp; omega⟩, h3⟩
theorem mem_ctxA {ws : List ByteArray} {i : Nat} {W : Int} {x : Cx} (hi : i < ws.length) : x ∈ ctxA ws i W ↔ x.1 ≤ i ∧ i ≤ x.2 ∧ x.2 < ws.length ∧ lenX ws x ≤ W := by
  simp only [ctxA, ctxN, List.mem_flatMap, List.mem_range, mem_ctxTo]
  constructor
  · rintro ⟨j, hj, h1, h2, h3, h4⟩; exact ⟨by omega, h2, by omega, h4⟩
  · rintro ⟨h1, h2, h3, h4⟩; exact ⟨i - x.1, by omega, by omega, h2, by omega, h4⟩
/-- The reference's contexts, in its order. -/
def refN (ws : List ByteArray) (i : Nat) (W : Int) (f : Nat) : List Cx := (List.range f).flatMap fun a => ctxTo ws i W a (ws.length - i)
def refA (ws : List ByteArray) (i : Nat) (W : Int) : List Cx := refN ws i W (i + 1)
theorem mem_refA {ws : List ByteArray} {i : Nat} {W : Int} {x : Cx} (hi : i < ws.length) : x ∈ refA ws i W ↔ x.1 ≤ i ∧ i ≤ x.2 ∧ x.2 < ws.length ∧ lenX ws x ≤ W := by
  simp only [refA, refN, List.mem_flatMap, List.mem_range, mem_ctxTo]
  constructor
  · rintro ⟨j, hj, h1, h2, h3, h4⟩; exact ⟨by omega, h2, by omega, h4⟩
  · rintro ⟨h1, h2, h3, h4⟩; exact ⟨x.1, by omega, rfl, h2, by omega, h4⟩
def bestA (ws : List ByteArray) (side W : Int) (i : Nat) : Cx := (refA ws i W).foldl (bestR (ordI ws side i)) (i, i)
/-- The law: the first of the code's contexts is the reference's. -/
theorem fst_best {ws : List ByteArray} {side W : Int} {i : Nat} (hi : i < ws.length) (hW : (ws[i].size : Int) ≤ W) : fstF (ordI ws side i) (ctxA ws i W) = some (bestA ws side W i) := by
  have hself : lenX ws (i, i) ≤ W := by rw [lenX_self hi]; exact hW
  have hne : ctxA ws i W ≠ [] := fun h => by
    have : (i, i) ∈ ctxA ws i W := (mem_ctxA hi).2 ⟨Nat.le_refl _, Nat.le_refl _, hi, hself⟩
    rw [h] at this; cases this
  obtain ⟨c, cs, hc⟩ := List.exists_cons_of_ne_nil hne
  rw [fstF, hc, List.foldl_cons, show bestS (ordI ws side i) none c = some c from rfl, foldl_some]
  congr 1
  have ht : ∀ x y z, ordI ws side i x y < 0 → ordI ws side i y z < 0 → ordI ws side i x z < 0 := fun _ _ _ => ordI_trans
  have m1 := foldl_min (ordI ws side i) ht cs c fun x hx y hy hne => by
    rw [← hc, mem_ctxA hi] at hx hy
    exact ordI_total hx.2.2.1 hy.2.2.1 hne
  have hin : ∀ x, x ∈ (i, i) :: refA ws i W ↔ x ∈ ctxA ws i W := fun x => by
    rw [List.mem_cons, mem_refA hi, mem_ctxA hi]
    constructor
    · rintro (rfl | h)
      · exact ⟨Nat.le_refl _, Nat.le_refl _, hi, hself⟩
      · exact h
    · exact .inr
  have m2 := foldl_min (ordI ws side i) ht (refA ws i W) (i, i) fun x hx y hy hne => by
    rw [hin, mem_ctxA hi] at hx hy
    exact ordI_total hx.2.2.1 hy.2.2.1 hne
  refine min_unique (fun _ _ => ordI_asymm) m1 m2 fun x => ?_
  rw [← hc, hin]

theorem runA_nodup (k : Nat) (x : List (List ByteArray)) : (runA k x).Nodup := by
  unfold runA runAn List.Nodup
  rw [List.pairwise_flatMap]
  refine ⟨fun i _ => ?_, ?_⟩
  · refine List.pairwise_map.2 (List.Pairwise.imp (R := (· < ·)) ?_ List.pairwise_lt_range)
    intro a b h e
    simp only [Prod.mk.injEq] at e
    omega
  · refine List.Pairwise.imp (R := (· < ·)) ?_ List.pairwise_lt_range
    intro a b h p hp q hq e
    simp only [lnP, List.mem_map] at hp hq
    obtain ⟨_, _, rfl⟩ := hp
    obtain ⟨_, _, rfl⟩ := hq
    simp only [Prod.mk.injEq] at e
    omega
theorem nodup_inj {α : Type} {l : List α} (h : l.Nodup) {i j : Nat} {x : α} (hi : l[i]? = some x) (hj : l[j]? = some x) : i = j := by
  obtain ⟨hi1, hi2⟩ := List.getElem?_eq_some_iff.1 hi
  obtain ⟨hj1, hj2⟩ := List.getElem?_eq_some_iff.1 hj
  rcases Nat.lt_trichotomy i j with hl | he | hl
  · exact absurd (hi2.trans hj2.symm) (List.pairwise_iff_getElem.1 h i j hi1 hj1 hl)
  · exact he
  · exact absurd (hj2.trans hi2.symm) (List.pairwise_iff_getElem.1 h j i hj1 hi1 hl)
/-- The slip of the word i of a run, at place p. -/
def slipX (ws : List ByteArray) (side W : Int) (i : Nat) (p : Pl) : Slp :=
  (p, ws.getD i ⟨#[]⟩, joinB ((ws.take i).drop (bestA ws side W i).1), joinB ((ws.take ((bestA ws side W i).2 + 1)).drop (i + 1)))
/-- The state of the reference's search. -/
def stA (ws : List ByteArray) (side W : Int) (i a : Nat) : Cx := (refN ws i W a).foldl (bestR (ordI ws side i)) (i, i)
def stB (ws : List ByteArray) (side W : Int) (i a m : Nat) : Cx := (ctxTo ws i W a m).foldl (bestR (ordI ws side i)) (stA ws side W i a)
theorem stA_end (ws : List ByteArray) (side W : Int) (i : Nat) : stA ws side W i (i + 1) = bestA ws side W i := rfl
theorem stB_zero (ws : List ByteArray) (side W : Int) (i a : Nat) : stB ws side W i a 0 = stA ws side W i a := rfl
theorem foldl_inv {α β : Type} (P : β → Prop) (f : β → α → β) : ∀ (l : List α) (b : β), P b → (∀ b x, x ∈ l → P b → P (f b x)) → P (l.foldl f b)
  | [], _, h, _ => h
  | x :: l, b, h, hf => foldl_inv P f l (f b x) (hf b x (by simp) h) fun b y hy => hf b y (by simp [hy])
theorem stB_in {ws : List ByteArray} {side W : Int} {i a m : Nat} (hi : i < ws.length) (ha : a ≤ i + 1) (hm : i + m ≤ ws.length) (ham : a ≤ i ∨ m = 0) : (stB ws side W i a m).1 ≤ i ∧ i ≤ (stB ws side W i a m).2 ∧ (stB ws side W i a m).2 < ws.length := by
  have h1 : ∀ (b x : Cx), (x.1 ≤ i ∧ i ≤ x.2 ∧ x.2 < ws.length) → (b.1 ≤ i ∧ i ≤ b.2 ∧ b.2 < ws.length) → ((bestR (ordI ws side i) b x).1 ≤ i ∧ i ≤ (bestR (ordI ws side i) b x).2 ∧ (bestR (ordI ws side i) b x).2 < ws.length) := fun b x hx hb => by
    unfold bestR; split
    · exact hx
    · exact hb
  refine foldl_inv (fun y : Cx => y.1 ≤ i ∧ i ≤ y.2 ∧ y.2 < ws.length) _ _ _ (foldl_inv (fun y : Cx => y.1 ≤ i ∧ i ≤ y.2 ∧ y.2 < ws.length) _ _ _ ⟨Nat.le_refl _, Nat.le_refl _, hi⟩ ?_) ?_
  · intro b x hx hb
    simp only [refN, List.mem_flatMap, List.mem_range, mem_ctxTo] at hx
    obtain ⟨j, hj, h2, h3, h4, _⟩ := hx
    exact h1 b x ⟨by omega, h3, by omega⟩ hb
  · intro b x hx hb
    rw [mem_ctxTo] at hx
    exact h1 b x ⟨by omega, hx.2.1, by omega⟩ hb

abbrev chW (x : Ch) : List (List ByteArray) := x.2.2.2.map (·.2.2)
/-- The words of a chapter. -/
abbrev rnW (x : Ch) : List ByteArray := (chW x).flatten
theorem one_str (s : ByteArray) : [strV s].all (fun v => v.cells.toList.all (·.oneCell')) = true := rfl
theorem one_pl (p : Pl) : [encPl p].all (fun v => v.cells.toList.all (·.oneCell')) = true := rfl
theorem chW_get {x : Ch} {n : Nat} (h : n < x.2.2.2.length) : (chW x)[n]? = some x.2.2.2[n].2.2 := by simp [chW, h]
theorem chW_small {x : Ch} (h : ∀ y ∈ x.2.2.2, y.2.2.length ≤ 1000) : ∀ y ∈ chW x, y.length ≤ 1000 := fun y hy => by
  obtain ⟨l, hl, rfl⟩ := List.mem_map.1 hy
  exact h l hl

section
variable (a : Option Addr) (c : Nat) (cs : List Ch) (w : World) [hrow : RowI w (.slice a cs.length c) true 2 (cs.map encCh)] [hT : TextI w cs]
set_option maxHeartbeats 4000000 in
theorem runs_slip (hs : SmallT cs) (width side : Int) (k : Nat) (hk : k < cs.length) : Ct Tryz.prog 141 [.agg #[.slice a cs.length c], .agg #[.int .i64 width, .int .u8 side], .int .i64 (k : Int)] w fun v w' =>
    ∃ wv av, v = .agg #[.int .i64 width, .int .u8 side, wv, av] ∧ OwnL w' w.heap.size 9 false 1 wv ((rnW cs[k]).map strV) ∧ OwnL w' w.heap.size 47 true 3 av ((runA k (chW cs[k])).map encPl) := by
  have hs1 := hs.1
  have hsk := hs.2 _ (List.getElem_mem hk)
  have hsl := hsk.1
  have hsm := chW_small fun y hy => (hsk.2 y hy).1
  have hcl : (chW cs[k]).length = cs[k].2.2.2.length := by simp [chW]
  refine Ct.ofW (by simp) ?_
  (refine jjB (jjC ?_))
  (refine jy rfl ?_; intro b3 w_b3 hb_b3 hs_b3 hS_b3 hk_b3; have hA_b3 := At.ofBlock hk_b3)
  skip
  (refine jy rfl ?_; intro b4 w_b4 hb_b4 hs_b4 hS_b4 hk_b4; have hA_b4 := At.ofBlock hk_b4)
  ((skip); refine jjY ?_; intro b6 w_b6 hb_b6 hs_b6 hS_b6 hk_b6; have hA_b6 := Bk.of hk_b6)
  (refine jz (jjB (jjC (jO rfl rfl rfl rfl ?_))))
  (refine jjS (cells := [.int .i64 width, .int .u8 side, .slice none 0 0, .slice none 0 0]) ?_ ?_; exact rfl)
  (apply jjR rfl; (intro _; first|exact eI rfl|exact eB rfl|exact eP rfl|exact eS rfl|exact eT rfl|exact eA rfl|exact eU rfl|exact eF rfl|exact eM rfl|exact eN rfl|exact rfl); exact rfl; exact rfl; exact rfl; exact rfl; intro b7 w_b7 hb_b7 hs_b7 hS_b7 hk_b7; have hA_b7 := Bk.of hk_b7)
  have hgk := List.getElem?_eq_getElem hk
  (refine jz (jjB (jjB (jjC (jm (jn rfl ?_))))); refine jN rfl rfl rfl (jI (eI rfl) ?_); refine jF rfl rfl rfl (map_get (by omega)) ?_; intro _ _ _; refine jm (jn rfl (jP rfl rfl rfl (jh rfl (jI (eI rfl) (jz ?_))))); refine jjD ?_)
  have z7 := hS_b7.size
  have z6 := hS_b6.size
  have hE7 : Ext w w_b7 := inferInstance
  have i1 := hT.line hk
  have hB6 : Bk w_b7 b6 [.int .i64 0, .int .u8 0, .slice none 0 0, .slice none 0 0] 196 := hA_b6.ext hS_b7.ext
  refine W.keep0 [(2, .int .i64 ((k : Nat) : Int)), (6, .pointer (some ⟨b6, 0, none⟩)), (7, .pointer (some ⟨b7, 0, none⟩)), (18, .slice cs[k].2.1 cs[k].2.2.2.length cs[k].2.2.1), (19, .int .i64 ((cs[k].2.2.2.length : Nat) : Int)), (20, .int .i64 ((0 : Nat) : Int))] ⟨eI rfl, eP rfl, eP rfl, eS rfl, eI rfl, eI rfl, trivial⟩ fun s0 => ?_
  refine W.loopG (21 :: 22 :: 23 :: 24 :: 8 :: 9 :: 25 :: 26 :: 27 :: 28 :: 29 :: 10 :: 30 :: 31 :: 32 :: 33 :: 34 :: 35 :: 36 :: 37 :: 38 :: 39 :: 40 :: 41 :: 42 :: 43 :: 44 :: 45 :: 46 :: 47 :: 48 :: 49 :: 20 :: []) (fun g s' V => ∃ (n : Nat) (wv av : Value), s' 20 = .int .i64 ((n : Nat) : Int) ∧ g = cs[k].2.2.2.length - n ∧ n ≤ cs[k].2.2.2.length ∧ Ext w V ∧ w_b7.heap.size ≤ V.heap.size ∧ Bk V b6 [.int .i64 0, .int .u8 0, .slice none 0 0, .slice none 0 0] 196 ∧ Bk V b7 [.int .i64 width, .int .u8 side, wv, av] 196 ∧ OwnL V w_b7.heap.size 9 false 1 wv (((chW cs[k]).take n).flatten.map strV) ∧ OwnL V w_b7.heap.size 47 true 3 av ((runAn k (chW cs[k]) n).map encPl)) cs[k].2.2.2.length ⟨0, _, _, rfl, rfl, Nat.zero_le _, hE7, Nat.le_refl _, hB6, hA_b7, OwnL.nil _ _ _ _ _, OwnL.nil _ _ _ _ _⟩ ?_
  rintro _ sd V ⟨n, wv, av, h20, rfl, hn, hE, hz, hV6, hV7, hOw, hOa⟩
  refine W.fix h20 ?_
  clear h20
  by_cases hnl : n < cs[k].2.2.2.length
  rotate_left
  · obtain rfl : n = cs[k].2.2.2.length := by omega
    rw [← hcl, List.take_length] at hOw
    rw [← hcl] at hOa
    obtain ⟨wa, wc, rfl⟩ := hOw.slice
    obtain ⟨aa, ac, rfl⟩ := hOa.slice
    have := Bk.toAt (h := hV7)
    (refine jjB (jjC (jja rfl rfl (by omega) (jz (jjB (jjK rfl ?_))))); refine jjE (jjB (jjC (jO rfl rfl rfl rfl ?_))))
    refine Ops.store rfl rfl rfl rfl rfl ?_
    intro V2 hp2
    have hA2 : At V2 b6 0 [.int .i64 width, .int .u8 side, .slice wa _ wc, .slice aa _ ac] := Bk.toAt (h := ⟨hp2.new⟩)
    (refine jz (jjF ?_))
    refine fin1C rfl rfl rfl rfl rfl ⟨hp2.ext hE (by omega), _, _, rfl, ?_, ?_⟩
    · exact (hOw.put hp2 fun e => by have := (hOw.block _ e).1; omega).mono (by omega)
    · exact (hOa.put hp2 fun e => by have := (hOa.block _ e).1; omega).mono (by omega)
  have hsn := hsk.2 _ (List.getElem_mem hnl)
  have hgn := chW_get hnl
  have hTV : TextI V cs := hT.ext hE
  have i2 := hTV.line hk
  (refine jjB (jjC (jjZ rfl rfl (by omega) (jz (jjB (jjJ rfl ?_))))); refine jjG (jjB (jjD (jjB (jjC (jI (eI rfl) ?_))))); refine jF rfl rfl rfl (map_get (by omega)) ?_; intro _ _ _; refine jQ rfl rfl (jJ (eI rfl) (jJ (eS rfl) (jz (jjB (jjC ?_))))); refine jI (eS rfl) (jh rfl (jI (eI rfl) (jz (jjD ?_)))))
  refine W.keep [(2, .int .i64 ((k : Nat) : Int)), (6, .pointer (some ⟨b6, 0, none⟩)), (7, .pointer (some ⟨b7, 0, none⟩)), (18, .slice cs[k].2.1 cs[k].2.2.2.length cs[k].2.2.1), (19, .int .i64 ((cs[k].2.2.2.length : Nat) : Int)), (20, .int .i64 ((n : Nat) : Int)), (8, .int .i64 ((n : Nat) : Int)), (9, .slice cs[k].2.2.2[n].1 cs[k].2.2.2[n].2.2.length cs[k].2.2.2[n].2.1), (26, .int .i64 ((cs[k].2.2.2[n].2.2.length : Nat) : Int)), (27, .int .i64 ((0 : Nat) : Int))] (D := (21 :: 22 :: 23 :: 24 :: 8 :: 9 :: 25 :: 26 :: 27 :: 28 :: 29 :: 10 :: 30 :: 31 :: 32 :: 33 :: 34 :: 35 :: 36 :: 37 :: 38 :: 39 :: 40 :: 41 :: 42 :: 43 :: 44 :: 45 :: 46 :: 47 :: 48 :: 49 :: 20 :: [])) (sO := upds s0 _) (by (((iterate 10 refine Same.upd rfl ?_); exact Same.ovN))) ⟨eI rfl, eP rfl, eP rfl, eS rfl, eI rfl, eI rfl, eI rfl, eS rfl, eI rfl, eI rfl, trivial⟩ fun s1 hs1' => ?_
  refine W.loopG (28 :: 29 :: 10 :: 30 :: 31 :: 32 :: 33 :: 34 :: 35 :: 36 :: 37 :: 38 :: 39 :: 40 :: 41 :: 42 :: 43 :: 44 :: 45 :: 46 :: 47 :: 48 :: 27 :: []) (fun g s' V => ∃ (q : Nat) (wv av : Value), s' 27 = .int .i64 ((q : Nat) : Int) ∧ g = cs[k].2.2.2[n].2.2.length - q ∧ q ≤ cs[k].2.2.2[n].2.2.length ∧ Ext w V ∧ w_b7.heap.size ≤ V.heap.size ∧ Bk V b6 [.int .i64 0, .int .u8 0, .slice none 0 0, .slice none 0 0] 196 ∧ Bk V b7 [.int .i64 width, .int .u8 side, wv, av] 196 ∧ OwnL V w_b7.heap.size 9 false 1 wv ((((chW cs[k]).take n).flatten ++ cs[k].2.2.2[n].2.2.take q).map strV) ∧ OwnL V w_b7.heap.size 47 true 3 av ((runAn k (chW cs[k]) n ++ lnP k n q).map encPl)) cs[k].2.2.2[n].2.2.length ⟨0, wv, av, rfl, rfl, Nat.zero_le _, hE, hz, hV6, hV7, by simpa using hOw, by simpa [lnP] using hOa⟩ ?_
  rintro _ sd2 V2 ⟨q, wv, av, h27, rfl, hq, hE, hz, hV6, hV7, hOw, hOa⟩
  refine W.fix h27 ?_
  clear h27
  by_cases hql : q < cs[k].2.2.2[n].2.2.length
  rotate_left
  · obtain rfl : q = cs[k].2.2.2[n].2.2.length := by omega
    rw [List.take_length, flat_next hgn] at hOw
    rw [← runAn_succ k hgn] at hOa
    (refine jjB (jjC (jja rfl rfl (by omega) (jz (jjB (jjK rfl ?_))))); refine jjE (jjC (jY rfl rfl (by omega) (jI (eI rfl) (jz ?_)))))
    exact ⟨rfl, by (((iterate 4 refine Same.upd rfl ?_); refine Same.ovN' rfl ?_; assumption)), cs[k].2.2.2.length - (n + 1), by omega, n + 1, wv, av, congrArg (Value.int .i64) (by omega), rfl, by omega, hE, hz, hV6, hV7, hOw, hOa⟩
  have hTV2 : TextI V2 cs := hT.ext hE
  obtain ⟨bl, ol, el, hAl⟩ := (hT.word hk hnl).h.place' (map_get hql)
  rw [Nat.mul_one] at hAl
  have hl1 : (((chW cs[k]).take n).flatten ++ cs[k].2.2.2[n].2.2.take q).length ≤ 1001000 := by
    have := flat_take hsm (n := n) (by omega)
    rw [List.length_append, List.length_take]; omega
  have hl2 : (runAn k (chW cs[k]) n ++ lnP k n q).length ≤ 1001000 := by
    have := flat_take hsm (n := n) (by omega)
    rw [List.length_append, lnP_len, runAn_len k (by omega)]; omega
  (refine jjB (jjC (jjZ rfl rfl (by omega) (jz (jjB (jjJ rfl ?_))))); refine jjG (jjB (jjD (jjB (jjC (jI (eI rfl) ?_))))); refine jJ (eI rfl) (jz (jjB ?_)))
  refine W.draw (fun w' => Ext w w') ?_
  intro w1 hS1
  (refine jjV [0, 2, 3] ?_ ?_ ?_; (decide +kernel); (exact hE.trans hS1.ext); (((apply jjT; exact rfl; rintro w' q1; have := q1.toStep; refine jm (jn rfl (jz ?_)); exact ⟨rfl, rfl⟩; apply jjT; exact rfl; rintro w' q1; have := q1.toStep; refine jI (eS rfl) (jz ?_); exact ⟨rfl, rfl⟩; apply jjT; exact rfl; rintro w' q1; have := q1.toStep; refine jI (eI rfl) (jz ?_); exact ⟨rfl, rfl⟩; refine jjU ?_))))
  refine jjV [4] (by decide +kernel) (hE.trans hS1.ext) (jjT (v := .pointer (some ⟨bl, ol + q, none⟩)) rfl (fun w' q1 => ?_) (jjU ?_))
  · refine jG (b := bl) (o := ol) (j := q) (by rw [← el]; exact rfl) rfl rfl hql ?_
    refine jz ?_
    exact ⟨rfl, rfl⟩
  (refine jjV [5] ?_ ?_ ?_; (decide +kernel); (exact hE.trans hS1.ext); (((apply jjT; exact rfl; rintro w' q1; have := q1.toStep; refine jQ rfl rfl (jz ?_); exact ⟨rfl, rfl⟩; refine jjU ?_))))
  have h71 : Bk w1 b7 [.int .i64 width, .int .u8 side, wv, av] 196 := hV7.ext hS1.ext
  refine jjl 1 6 (by decide +kernel) rfl rfl (hE.trans hS1.ext) ?b1 ?b2
  case b1 =>
    have := Bk.toAt (h := h71)
    (refine jN rfl rfl rfl ?_)
    refine jz ?_
    (apply jjW 6; (decide +kernel); exact rfl; (exact hE.trans hS1.ext))
    (refine jjP (v := .string _) rfl (by exact rfl) (by exact rfl) (by exact rfl) (by exact rfl) ?_; intro b36 w_b36 hb_b36 hs_b36 hS_b36 hk_b36; have hR_b36 := RowV.one (agg := false) (k := 1) rfl hk_b36)
    refine jz ?_
    have hE36 : Ext V2 w_b36 := hS1.ext.trans hS_b36.ext
    have z36 := hE36.size
    (apply jjW 7; (decide +kernel); exact rfl; (exact hE.trans hE36))
    refine Ops.appendL (hOw.ext hE36) (by omega) hR_b36 rfl rfl rfl rfl (one_str _) ?_ ?_ ?_
    · rw [List.length_map]; simp only [List.length_cons, List.length_nil]; omega
    · rw [List.length_map]; simp only [List.length_cons, List.length_nil]; omega
    intro wv2 w37 hA37 hO37 _ hown37
    have hn7 : wv.ownBlock ≠ some b7 := fun e => by have := (hOw.block _ e).1; omega
    have hE37 : Ext w w37 := hA37.ext (hE.trans hE36) (by omega)
    have h37 : Bk w37 b7 [.int .i64 width, .int .u8 side, wv, av] 196 := hA37.bk (hV7.ext hE36) hn7
    refine jz ?_
    (refine jjV [8] ?_ ?_ ?_; (decide +kernel); (exact hE37); (((apply jjT; exact rfl; rintro w' q1; have := q1.toStep; refine jm (jn rfl (jz ?_)); exact ⟨rfl, rfl⟩; refine jjU ?_))))
    (apply jjW 9; (decide +kernel); exact rfl; (exact hE37))
    rw [← List.map_singleton, ← List.map_append, flat_step (List.getElem?_eq_getElem hql)] at hO37
    obtain ⟨wa2, wc2, rfl⟩ := hO37.slice
    refine Ops.storeC (cs := [.int .i64 width, .int .u8 side, wv, av]) (j := 2) (v := .slice wa2 _ wc2) rfl rfl rfl rfl (show 2 < 4 by omega) ?_
    intro w38 hp38
    refine jz ?_
    have hE38 : Ext w w38 := hp38.ext hE37 (by omega)
    have hn7' : (Value.slice wa2 (List.map strV (((chW cs[k]).take n).flatten ++ cs[k].2.2.2[n].2.2.take (q + 1))).length wc2).ownBlock ≠ some b7 := fun e => by have := (hO37.block _ e).1; omega
    have h38 : Bk w38 b7 [.int .i64 width, .int .u8 side, .slice wa2 _ wc2, av] 196 := ⟨hp38.new⟩
    have z37 := hA37.g.size
    have z38 := hp38.size
    have hO38 := hO37.put hp38 hn7'
    have hna : av.ownBlock ≠ some b7 := fun e => by have := (hOa.block _ e).1; omega
    have hOa38 : OwnL w38 w_b7.heap.size 47 true 3 av ((runAn k (chW cs[k]) n ++ lnP k n q).map encPl) := ((hOa.ext hE36).app hA37 (OwnL.ne (hOa.ext hE36) (hOw.ext hE36) (by decide))).put hp38 hna
    refine jjX (by decide +kernel) hE38 ?_
    have h6a : Bk w38 b6 _ _ := hp38.bk (hA37.bk (hV6.ext hE36) fun e => by have := (hOw.block _ e).1; omega) (show b6 ≠ b7 by omega)
    (refine jjC (jm (jn rfl (jN rfl rfl rfl (jI (eI rfl) (jI (eI rfl) ?_))))); refine jI (eI rfl) ?_)
    (refine jjS (cells := [.int .i64 (k : Int), .int .i64 (n : Int), .int .i64 (q : Int)]) ?_ ?_; exact rfl)
    skip
    (refine jjP (v := .agg _) rfl (by exact rfl) (by exact rfl) (by exact rfl) (by exact rfl) ?_; intro b45 w_b45 hb_b45 hs_b45 hS_b45 hk_b45; have hR_b45 := RowV.one (agg := true) (k := 3) rfl hk_b45)
    skip
    refine Ops.appendL (hOa38.ext hS_b45.ext) (by have := hS_b45.size; omega) hR_b45 rfl rfl rfl rfl (one_pl ((k : Int), (n : Int), (q : Int))) ?_ ?_ ?_
    · rw [List.length_map]; simp only [List.length_cons, List.length_nil]; omega
    · rw [List.length_map]; simp only [List.length_cons, List.length_nil]; omega
    intro av2 w46 hA46 hO46 _ hown46
    have z45 := hS_b45.size
    have z46 := hA46.g.size
    have hE46 : Ext w w46 := hA46.ext (hE38.trans hS_b45.ext) (by omega)
    have h46 : Bk w46 b7 _ _ := hA46.bk (h38.ext hS_b45.ext) hna
    have e46 : (runAn k (chW cs[k]) n ++ lnP k n q).map encPl ++ [encPl ((k : Int), (n : Int), (q : Int))] = (runAn k (chW cs[k]) n ++ lnP k n (q + 1)).map encPl := by rw [lnP_succ]; simp
    rw [e46] at hO46
    obtain ⟨aa2, ac2, rfl⟩ := hO46.slice
    have hna' : (Value.slice aa2 (List.map encPl (runAn k (chW cs[k]) n ++ lnP k n (q + 1))).length ac2).ownBlock ≠ some b7 := fun e => by have := (hO46.block _ e).1; omega
    (refine jm (jn rfl ?_))
    refine Ops.storeC (cs := [.int .i64 width, .int .u8 side, .slice wa2 _ wc2, av]) (j := 3) (v := .slice aa2 _ ac2) rfl rfl rfl rfl (show 3 < 4 by omega) ?_
    intro w47 hp47
    have z47 := hp47.size
    (refine jz (jjC (jY rfl rfl (by omega) (jI (eI rfl) (jz ?_)))))
    refine ⟨rfl, by (((iterate 24 refine Same.upd rfl ?_); exact Same.ovN)), cs[k].2.2.2[n].2.2.length - (q + 1), by omega, q + 1, _, _, congrArg (Value.int .i64) (by omega), rfl, by omega, hp47.ext hE46 (by omega), by omega, ?_, ⟨hp47.new⟩, ?_, hO46.put hp47 hna'⟩
    · exact hp47.bk (hA46.bk (h6a.ext hS_b45.ext) fun e => by have := (hOa.block _ e).1; omega) (show b6 ≠ b7 by omega)
    · exact ((hO38.ext hS_b45.ext).app hA46 (OwnL.ne (hO38.ext hS_b45.ext) (hOa38.ext hS_b45.ext) (by decide))).put hp47 hn7'
  case b2 =>
    (refine jjP (v := .string _) rfl (by exact rfl) (by exact rfl) (by exact rfl) (by exact rfl) ?_; intro b36 w_b36 hb_b36 hs_b36 hS_b36 hk_b36; have hR_b36 := RowV.one (agg := false) (k := 1) rfl hk_b36)
    refine jz ?_
    have hE36 : Ext V2 w_b36 := hS1.ext.trans hS_b36.ext
    have z36 := hE36.size
    (apply jjW 1; (decide +kernel); exact rfl; (exact hE.trans hE36))
    have := Bk.toAt (h := hV7.ext hE36)
    (refine jN rfl rfl rfl ?_)
    refine jz ?_
    (apply jjW 7; (decide +kernel); exact rfl; (exact hE.trans hE36))
    refine Ops.appendL (hOw.ext hE36) (by omega) hR_b36 rfl rfl rfl rfl (one_str _) ?_ ?_ ?_
    · rw [List.length_map]; simp only [List.length_cons, List.length_nil]; omega
    · rw [List.length_map]; simp only [List.length_cons, List.length_nil]; omega
    intro wv2 w37 hA37 hO37 _ hown37
    have hn7 : wv.ownBlock ≠ some b7 := fun e => by have := (hOw.block _ e).1; omega
    have hE37 : Ext w w37 := hA37.ext (hE.trans hE36) (by omega)
    have h37 : Bk w37 b7 [.int .i64 width, .int .u8 side, wv, av] 196 := hA37.bk (hV7.ext hE36) hn7
    refine jz ?_
    (refine jjV [8] ?_ ?_ ?_; (decide +kernel); (exact hE37); (((apply jjT; exact rfl; rintro w' q1; have := q1.toStep; refine jm (jn rfl (jz ?_)); exact ⟨rfl, rfl⟩; refine jjU ?_))))
    (apply jjW 9; (decide +kernel); exact rfl; (exact hE37))
    rw [← List.map_singleton, ← List.map_append, flat_step (List.getElem?_eq_getElem hql)] at hO37
    obtain ⟨wa2, wc2, rfl⟩ := hO37.slice
    refine Ops.storeC (cs := [.int .i64 width, .int .u8 side, wv, av]) (j := 2) (v := .slice wa2 _ wc2) rfl rfl rfl rfl (show 2 < 4 by omega) ?_
    intro w38 hp38
    refine jz ?_
    have hE38 : Ext w w38 := hp38.ext hE37 (by omega)
    have hn7' : (Value.slice wa2 (List.map strV (((chW cs[k]).take n).flatten ++ cs[k].2.2.2[n].2.2.take (q + 1))).length wc2).ownBlock ≠ some b7 := fun e => by have := (hO37.block _ e).1; omega
    have h38 : Bk w38 b7 [.int .i64 width, .int .u8 side, .slice wa2 _ wc2, av] 196 := ⟨hp38.new⟩
    have z37 := hA37.g.size
    have z38 := hp38.size
    have hO38 := hO37.put hp38 hn7'
    have hna : av.ownBlock ≠ some b7 := fun e => by have := (hOa.block _ e).1; omega
    have hOa38 : OwnL w38 w_b7.heap.size 47 true 3 av ((runAn k (chW cs[k]) n ++ lnP k n q).map encPl) := ((hOa.ext hE36).app hA37 (OwnL.ne (hOa.ext hE36) (hOw.ext hE36) (by decide))).put hp38 hna
    refine jjX (by decide +kernel) hE38 ?_
    have h6a : Bk w38 b6 _ _ := hp38.bk (hA37.bk (hV6.ext hE36) fun e => by have := (hOw.block _ e).1; omega) (show b6 ≠ b7 by omega)
    (refine jjC (jm (jn rfl (jN rfl rfl rfl (jI (eI rfl) (jI (eI rfl) ?_))))); refine jI (eI rfl) ?_)
    (refine jjS (cells := [.int .i64 (k : Int), .int .i64 (n : Int), .int .i64 (q : Int)]) ?_ ?_; exact rfl)
    skip
    (refine jjP (v := .agg _) rfl (by exact rfl) (by exact rfl) (by exact rfl) (by exact rfl) ?_; intro b45 w_b45 hb_b45 hs_b45 hS_b45 hk_b45; have hR_b45 := RowV.one (agg := true) (k := 3) rfl hk_b45)
    skip
    refine Ops.appendL (hOa38.ext hS_b45.ext) (by have := hS_b45.size; omega) hR_b45 rfl rfl rfl rfl (one_pl ((k : Int), (n : Int), (q : Int))) ?_ ?_ ?_
    · rw [List.length_map]; simp only [List.length_cons, List.length_nil]; omega
    · rw [List.length_map]; simp only [List.length_cons, List.length_nil]; omega
    intro av2 w46 hA46 hO46 _ hown46
    have z45 := hS_b45.size
    have z46 := hA46.g.size
    have hE46 : Ext w w46 := hA46.ext (hE38.trans hS_b45.ext) (by omega)
    have h46 : Bk w46 b7 _ _ := hA46.bk (h38.ext hS_b45.ext) hna
    have e46 : (runAn k (chW cs[k]) n ++ lnP k n q).map encPl ++ [encPl ((k : Int), (n : Int), (q : Int))] = (runAn k (chW cs[k]) n ++ lnP k n (q + 1)).map encPl := by rw [lnP_succ]; simp
    rw [e46] at hO46
    obtain ⟨aa2, ac2, rfl⟩ := hO46.slice
    have hna' : (Value.slice aa2 (List.map encPl (runAn k (chW cs[k]) n ++ lnP k n (q + 1))).length ac2).ownBlock ≠ some b7 := fun e => by have := (hO46.block _ e).1; omega
    (refine jm (jn rfl ?_))
    refine Ops.storeC (cs := [.int .i64 width, .int .u8 side, .slice wa2 _ wc2, av]) (j := 3) (v := .slice aa2 _ ac2) rfl rfl rfl rfl (show 3 < 4 by omega) ?_
    intro w47 hp47
    have z47 := hp47.size
    (refine jz (jjC (jY rfl rfl (by omega) (jI (eI rfl) (jz ?_)))))
    refine ⟨rfl, by (((iterate 24 refine Same.upd rfl ?_); exact Same.ovN)), cs[k].2.2.2[n].2.2.length - (q + 1), by omega, q + 1, _, _, congrArg (Value.int .i64) (by omega), rfl, by omega, hp47.ext hE46 (by omega), by omega, ?_, ⟨hp47.new⟩, ?_, hO46.put hp47 hna'⟩
    · exact hp47.bk (hA46.bk (h6a.ext hS_b45.ext) fun e => by have := (hOa.block _ e).1; omega) (show b6 ≠ b7 by omega)
    · exact ((hO38.ext hS_b45.ext).app hA46 (OwnL.ne (hO38.ext hS_b45.ext) (hOa38.ext hS_b45.ext) (by decide))).put hp47 hn7'
end

def wsT (t : Tx) (k : Nat) : List (List ByteArray) := (t.getD k (0, [])).2
theorem wsT_get {cs : List Ch} {k : Nat} (hk : k < cs.length) : wsT (txF cs) k = chW cs[k] := by
  simp [wsT, txF, hk, chW]
/-- Where a place is in a list. -/
noncomputable def idP (l : List Pl) (p : Pl) : Option Nat := open Classical in if h : ∃ i, l[i]? = some p then some (Classical.choose h) else none
theorem idP_some {l : List Pl} {p : Pl} {i : Nat} (hn : l.Nodup) (h : l[i]? = some p) : idP l p = some i := by
  have hx : ∃ i, l[i]? = some p := ⟨i, h⟩
  rw [idP, dif_pos hx, nodup_inj hn (Classical.choose_spec hx) h]
theorem idP_get {l : List Pl} {p : Pl} {i : Nat} (h : idP l p = some i) : l[i]? = some p := by
  unfold idP at h
  split at h
  · rename_i hx
    cases h
    exact Classical.choose_spec hx
  · cases h
theorem mem_runA {k : Nat} {x : List (List ByteArray)} {p : Pl} : p ∈ runA k x ↔ ∃ (n q : Nat) (hn : n < x.length), q < x[n].length ∧ p = ((k : Int), (n : Int), (q : Int)) := by
  simp only [runA, runAn, lnP, List.mem_flatMap, List.mem_range, List.mem_map]
  constructor
  · rintro ⟨n, hn, q, hq, rfl⟩
    refine ⟨n, q, hn, ?_, rfl⟩
    rwa [List.getD_eq_getElem?_getD, List.getElem?_eq_getElem hn, Option.getD_some] at hq
  · rintro ⟨n, q, hn, hq, rfl⟩
    refine ⟨n, hn, q, ?_, rfl⟩
    rwa [List.getD_eq_getElem?_getD, List.getElem?_eq_getElem hn, Option.getD_some]
theorem runA_fst {k : Nat} {x : List (List ByteArray)} {p : Pl} (h : p ∈ runA k x) : p.1 = (k : Int) := by
  obtain ⟨n, q, _, _, rfl⟩ := mem_runA.1 h
  rfl
/-- The slip of the word i of a chapter. -/
def slK (side W : Int) (k : Nat) (x : List (List ByteArray)) (i : Nat) : Slp := slipX x.flatten side W i ((runA k x).getD i (0, 0, 0))
theorem slK_eq {side W : Int} {k : Nat} {x : List (List ByteArray)} {i : Nat} {p : Pl} (h : (runA k x)[i]? = some p) : slK side W k x i = slipX x.flatten side W i p := by
  rw [slK, List.getD_eq_getElem?_getD, h, Option.getD_some]
/-- The slip of a place, if it is one of a text. -/
noncomputable def makeF (t : Tx) (side W : Int) (p : Pl) : Option Slp := if 0 ≤ p.1 ∧ p.1 < t.length then (idP (runA p.1.toNat (wsT t p.1.toNat)) p).map (slK side W p.1.toNat (wsT t p.1.toNat)) else none
theorem makeF_in {t : Tx} {side W : Int} {p : Pl} {k : Nat} (hk : k < t.length) (hp : p.1 = (k : Int)) : makeF t side W p = (idP (runA k (wsT t k)) p).map (slK side W k (wsT t k)) := by
  rw [makeF, if_pos (by omega), hp, Int.toNat_natCast]
theorem makeF_yes {t : Tx} {side W : Int} {p : Pl} {k i : Nat} (hk : k < t.length) (h : (runA k (wsT t k))[i]? = some p) : makeF t side W p = some (slipX (wsT t k).flatten side W i p) := by
  rw [makeF_in hk (runA_fst (List.mem_of_getElem? h)), idP_some (runA_nodup _ _) h, Option.map_some, slK_eq h]
theorem makeF_some {t : Tx} {side W : Int} {p : Pl} {s : Slp} (h : makeF t side W p = some s) : ∃ k i, k < t.length ∧ (runA k (wsT t k))[i]? = some p ∧ s = slipX (wsT t k).flatten side W i p := by
  unfold makeF at h
  split at h
  · rename_i hc
    obtain ⟨i, hi, e⟩ := Option.map_eq_some_iff.1 h
    have hg := idP_get hi
    exact ⟨p.1.toNat, i, by omega, hg, by rw [← e, slK_eq hg]⟩
  · cases h
theorem makeF_at {t : Tx} {side W : Int} {p : Pl} {s : Slp} (h : makeF t side W p = some s) : s.1 = p := by
  obtain ⟨_, _, _, _, rfl⟩ := makeF_some h; rfl
/-- All places of a text, of its first n chapters. -/
def allP (t : Tx) (n : Nat) : List Pl := (List.range n).flatMap fun k => runA k (wsT t k)
theorem allP_succ (t : Tx) (n : Nat) : allP t (n + 1) = allP t n ++ runA n (wsT t n) := by simp [allP, List.range_succ, List.flatMap_append]
noncomputable def slP (t : Tx) (side W : Int) (p : Pl) : Slp := (makeF t side W p).getD (p, ⟨#[]⟩, ⟨#[]⟩, ⟨#[]⟩)
theorem slP_at (t : Tx) (side W : Int) (p : Pl) : (slP t side W p).1 = p := by
  rw [slP]
  cases h : makeF t side W p with
  | none => rfl
  | some s => exact makeF_at h
theorem slP_eq {t : Tx} {side W : Int} {p : Pl} {k i : Nat} (hk : k < t.length) (h : (runA k (wsT t k))[i]? = some p) : slP t side W p = slipX (wsT t k).flatten side W i p := by
  rw [slP, makeF_yes hk h, Option.getD_some]
/-- All slips of a text. -/
noncomputable def allS (t : Tx) (side W : Int) : List Slp := (allP t t.length).map (slP t side W)
noncomputable def slA (t : Tx) (side W : Int) (n : Nat) : List Slp := (allP t n).map (slP t side W)
noncomputable def slsN (t : Tx) (side W : Int) (k i : Nat) : List Slp := ((runA k (wsT t k)).take i).map (slP t side W)
theorem slA_succ (t : Tx) (side W : Int) (n : Nat) : slA t side W (n + 1) = slA t side W n ++ slsN t side W n (wsT t n).flatten.length := by
  rw [slA, allP_succ, List.map_append, ← slA, slsN, ← runA_len n, List.take_length]
theorem slA_get {t : Tx} {side W : Int} {k i n : Nat} {p : Pl} (hk : k < n) (h : (runA k (wsT t k))[i]? = some p) : (slA t side W n)[(slA t side W k).length + i]? = some (slP t side W p) := by
  have : ∀ d, (slA t side W (k + 1 + d))[(slA t side W k).length + i]? = some (slP t side W p) := by
    intro d
    induction d with
    | zero =>
      have hi := (List.getElem?_eq_some_iff.1 h).1
      rw [Nat.add_zero, slA_succ, List.getElem?_append_right (by omega), Nat.add_sub_cancel_left, slsN, ← runA_len k, List.take_length, List.getElem?_map, h, Option.map_some]
    | succ d ih =>
      rw [← Nat.add_assoc, slA_succ]
      have hl := (List.getElem?_eq_some_iff.1 ih).1
      rw [List.getElem?_append_left hl, ih]
  have := this (n - (k + 1))
  rwa [show k + 1 + (n - (k + 1)) = n by omega] at this
theorem slA_end (t : Tx) (side W : Int) : slA t side W t.length = allS t side W := rfl
theorem slsN_len {t : Tx} {side W : Int} {k i : Nat} (h : i ≤ (wsT t k).flatten.length) : (slsN t side W k i).length = i := by
  rw [slsN, List.length_map, List.length_take, runA_len]; omega
theorem mem_allP {t : Tx} {n : Nat} {p : Pl} : p ∈ allP t n ↔ ∃ k, k < n ∧ p ∈ runA k (wsT t k) := by
  simp [allP]
/-! Words of a valid text are short. -/
theorem word_short {t : Tx} {k : Nat} (h : textB t = true) {s : ByteArray} (hk : k < t.length) (hs : s ∈ (wsT t k).flatten) : s.size ≤ 12 := by
  simp only [textB, Bool.and_eq_true, List.all_eq_true] at h
  have hm : t.getD k (0, []) ∈ t := by rw [List.getD_eq_getElem?_getD, List.getElem?_eq_getElem hk, Option.getD_some]; exact List.getElem_mem hk
  have h1 := h.1.2 _ hm
  simp only [chapB, Bool.and_eq_true, List.all_eq_true] at h1
  obtain ⟨y, hy, hsy⟩ := List.mem_flatten.1 hs
  have h2 := h1.2 y hy
  simp only [lineB, Bool.and_eq_true, List.all_eq_true] at h2
  have h3 := h2.2 s hsy
  simp only [wordB, Bool.and_eq_true, decide_eq_true_eq] at h3
  omega
theorem cutB_width {W side : Int} (h : (inB 12 80 W && inB 1 3 side) = true) : 12 ≤ W ∧ W ≤ 80 ∧ 1 ≤ side ∧ side ≤ 3 := by
  simp only [inB, Bool.and_eq_true, decide_eq_true_eq] at h
  omega
theorem rnW_small {cs : List Ch} (hs : SmallT cs) {k : Nat} (hk : k < cs.length) : (rnW cs[k]).length ≤ 1000000 ∧ ∀ s ∈ rnW cs[k], s.size ≤ 1000 := by
  have h1 := hs.2 _ (List.getElem_mem hk)
  refine ⟨?_, fun s h => ?_⟩
  · have := flatW_len (x := chW cs[k]) (m := 1000) (chW_small fun y hy => (h1.2 y hy).1)
    have h2 : (chW cs[k]).length ≤ 1000 := by simp [chW]; exact h1.1
    have := Nat.mul_le_mul_right 1000 h2
    show (chW cs[k]).flatten.length ≤ _
    omega
  · obtain ⟨y, hy, hs'⟩ := List.mem_flatten.1 h
    obtain ⟨l, hl, rfl⟩ := List.mem_map.1 hy
    exact (h1.2 l hl).2 s hs'

theorem wordsB_len {s : ByteArray} (h0 : s.size ≠ 0) (h : ¬ s.size ≤ 80) : wordsB s = false := by simp [wordsB, h0, h]
theorem wordsB_all {s : ByteArray} (h0 : s.size ≠ 0) (h : s.size ≤ 80) : wordsB s = (splB s).all wordB := by simp [wordsB, h0, h]
section
variable (w : World) [hm : MxI w]
set_option maxHeartbeats 1000000 in
theorem words_slip (s : ByteArray) (hs : s.size ≤ 1000) : Ct Tryz.prog 113 [.string s] w fun v w' => ∃ sv, v = .tuple #[sv, .bool (wordsB s)] ∧ OwnL w' w.heap.size 9 false 1 sv ((wordsL s).map strV) := by
  refine Ct.ofW (by simp) ?_
  (refine jjB (jjC (jJ (eS rfl) (jJ (eB rfl) (jz (jjH ?_))))); refine jjB (jjB (jjC (jI (eT rfl) ?_))))
  refine Ops.eqlS rfl rfl ?_
  by_cases h0 : s.size = 0
  · have e0 := str_nil.2 h0
    subst e0
    rw [decide_eq_true rfl]
    (refine jz (jjJ rfl (jjB (jjC (jJ (eS rfl) (jJ (eB rfl) ?_))))); refine jz (jjF ?_); refine jC rfl rfl rfl ⟨inferInstance, ?_⟩)
    exact ⟨_, rfl, OwnL.nil _ _ _ _ _⟩
  have hne : ¬ s = ⟨#[]⟩ := fun e => h0 (str_nil.1 e)
  rw [decide_eq_false hne]
  have hb := splB_bound s
  (refine jz (jjK rfl (jjG (jjB (jjC (jI (eT rfl) ?_))))))
  refine jjQ (Split_str s _ (by omega)) rfl rfl ?_
  rintro _ w2 hS2 ⟨sv, rfl, hO⟩
  obtain ⟨a, c, rfl⟩ := hO.slice
  rw [List.length_map] at hO ⊢
  have hE2 : Ext w w2 := inferInstance
  have hL : wordsL s = splB s := by rw [wordsL, if_neg h0]
  rw [hL]
  by_cases h80 : s.size ≤ 80
  · have hwb := wordsB_all h0 h80
    (refine jJ (eS rfl) (jz (jjB (jjC (jI (eT rfl) (ji rfl ?_))))); refine jjb rfl rfl (by omega) (jJ (eB rfl) (jz (jjB (jjI (jjB ?_))))); refine jjB (jjC (jI (eS rfl) (jh rfl (jI (eI rfl) (jz ?_))))); refine jjD ?_)
    refine W.keep0 [(4, .slice a (splB s).length c), (5, .bool true), (15, .slice a (splB s).length c), (16, .int .i64 (((splB s).length : Nat) : Int)), (17, .int .i64 ((0 : Nat) : Int))] ⟨eS rfl, eB rfl, eS rfl, eI rfl, eI rfl, trivial⟩ fun s0 => ?_
    refine W.loop (18 :: 19 :: 20 :: 7 :: 21 :: 22 :: 23 :: 5 :: 24 :: 17 :: []) (fun g s' V => ∃ k : Nat, s' 17 = .int .i64 ((k : Nat) : Int) ∧ s' 5 = .bool true ∧ g = (splB s).length - k ∧ k ≤ (splB s).length ∧ ∀ (j : Nat) (hj : j < (splB s).length), j < k → wordB (splB s)[j] = true) (splB s).length ⟨0, rfl, rfl, rfl, Nat.zero_le _, by intros; omega⟩ ?_
    rintro _ sd w3 hS3 ⟨k, h17, h5, rfl, hk, hpre⟩
    refine W.fix h17 (W.fix (d := 5) h5 ?_)
    clear h17 h5
    by_cases hkl : k < (splB s).length
    rotate_left
    · have hall : (splB s).all wordB = true := all_yes fun j hj => hpre j hj (by omega)
      (refine jjB (jjC (jja rfl rfl (by omega) (jz (jjB (jjK rfl ?_))))); refine jjE (jjB (jjC (jI (eS rfl) (jI (eB rfl) (jJ (eS rfl) ?_))))); refine jJ (eB rfl) (jz (jjF ?_)); refine jC rfl rfl rfl ⟨inferInstance, ?_⟩)
      rw [hwb, hall]
      exact ⟨_, rfl, (hO.ext hS3.ext)⟩
    have hsz := hb.2 _ (List.getElem_mem hkl)
    have i3 : RowI w3 (.slice a (splB s).length c) false 1 ((splB s).map strV) := ⟨(hO.ext hS3.ext).row⟩
    obtain ⟨B, hB⟩ : ∃ B, wordB (splB s)[k] = B := ⟨_, rfl⟩
    (refine jjB (jjC (jjZ rfl rfl (by omega) (jz (jjB (jjJ rfl ?_))))); refine jjG (jjB (jjD (jjB (jjC ?_)))); refine jF rfl rfl rfl (map_get (by omega)) ?_; intro _ _ _; refine jQ rfl rfl (jJ (eT rfl) (jz (jjB (jjC (jI (eT rfl) ?_))))))
    refine jjQ ((word_slip (splB s)[k] _ (by omega)).mono fun v _ _ e => e.trans (by rw [hB])) rfl rfl ?_
    rintro _ w4 hS4 rfl
    cases B
    · have hall : (splB s).all wordB = false := all_no hkl hB
      (refine jq rfl (jz (jjJ rfl (jjB (jjC (jJ (eB rfl) ?_))))); refine jz (jjE (jjB (jjC (jI (eS rfl) (jI (eB rfl) ?_))))); refine jJ (eS rfl) (jJ (eB rfl) (jz (jjF ?_))); refine jC rfl rfl rfl ⟨inferInstance, ?_⟩)
      rw [hwb, hall]
      exact ⟨_, rfl, hO.ext (hS3.ext.trans hS4.ext)⟩
    · (refine jp rfl (jz (jjK rfl (jjG (jjC (jY rfl rfl (by omega) ?_))))); refine jI (eI rfl) (jz ?_))
      refine ⟨rfl, by (((iterate 11 refine Same.upd rfl ?_); exact Same.ovN)), (splB s).length - (k + 1), by omega, inferInstance, k + 1, congrArg (Value.int .i64) (by omega), rfl, rfl, by omega, fun j hj hjk => ?_⟩
      by_cases e : j = k
      · subst e; exact hB
      · exact hpre j hj (by omega)
  · have hwb := wordsB_len h0 h80
    (refine jJ (eS rfl) (jz (jjB (jjC (jI (eT rfl) (ji rfl ?_))))); refine jjc rfl rfl (by omega) (jJ (eB rfl) (jz (jjB (jjI (jjB ?_))))); refine jjB (jjC (jI (eS rfl) (jh rfl (jI (eI rfl) (jz ?_))))); refine jjD ?_)
    refine W.keep0 [(4, .slice a (splB s).length c), (5, .bool false), (15, .slice a (splB s).length c), (16, .int .i64 (((splB s).length : Nat) : Int)), (17, .int .i64 ((0 : Nat) : Int))] ⟨eS rfl, eB rfl, eS rfl, eI rfl, eI rfl, trivial⟩ fun s0 => ?_
    refine W.loop (18 :: 19 :: 20 :: 7 :: 21 :: 22 :: 23 :: 5 :: 24 :: 17 :: []) (fun g s' V => ∃ k : Nat, s' 17 = .int .i64 ((k : Nat) : Int) ∧ s' 5 = .bool false ∧ g = (splB s).length - k ∧ k ≤ (splB s).length) (splB s).length ⟨0, rfl, rfl, rfl, Nat.zero_le _⟩ ?_
    rintro _ sd w3 hS3 ⟨k, h17, h5, rfl, hk⟩
    refine W.fix h17 (W.fix (d := 5) h5 ?_)
    clear h17 h5
    by_cases hkl : k < (splB s).length
    rotate_left
    · (refine jjB (jjC (jja rfl rfl (by omega) (jz (jjB (jjK rfl ?_))))); refine jjE (jjB (jjC (jI (eS rfl) (jI (eB rfl) (jJ (eS rfl) ?_))))); refine jJ (eB rfl) (jz (jjF ?_)); refine jC rfl rfl rfl ⟨inferInstance, ?_⟩)
      rw [hwb]
      exact ⟨_, rfl, (hO.ext hS3.ext)⟩
    have hsz := hb.2 _ (List.getElem_mem hkl)
    have i3 : RowI w3 (.slice a (splB s).length c) false 1 ((splB s).map strV) := ⟨(hO.ext hS3.ext).row⟩
    obtain ⟨B, hB⟩ : ∃ B, wordB (splB s)[k] = B := ⟨_, rfl⟩
    (refine jjB (jjC (jjZ rfl rfl (by omega) (jz (jjB (jjJ rfl ?_))))); refine jjG (jjB (jjD (jjB (jjC ?_)))); refine jF rfl rfl rfl (map_get (by omega)) ?_; intro _ _ _; refine jQ rfl rfl (jJ (eT rfl) (jz (jjB (jjC (jI (eT rfl) ?_))))))
    refine jjQ ((word_slip (splB s)[k] _ (by omega)).mono fun v _ _ e => e.trans (by rw [hB])) rfl rfl ?_
    rintro _ w4 hS4 rfl
    cases B
    · (refine jq rfl (jz (jjJ rfl (jjB (jjC (jJ (eB rfl) ?_))))); refine jz (jjE (jjB (jjC (jI (eS rfl) (jI (eB rfl) ?_))))); refine jJ (eS rfl) (jJ (eB rfl) (jz (jjF ?_))); refine jC rfl rfl rfl ⟨inferInstance, ?_⟩)
      rw [hwb]
      exact ⟨_, rfl, hO.ext (hS3.ext.trans hS4.ext)⟩
    · (refine jp rfl (jz (jjK rfl (jjG (jjC (jY rfl rfl (by omega) ?_))))); refine jI (eI rfl) (jz ?_))
      exact ⟨rfl, by (((iterate 11 refine Same.upd rfl ?_); exact Same.ovN)), (splB s).length - (k + 1), by omega, inferInstance, k + 1, congrArg (Value.int .i64) (by omega), rfl, rfl, by omega⟩
end

/-- The order of two texts. -/
def cmpS (x y : ByteArray) : Int := if Op.bytesLess x.toList y.toList then -1 else if x = y then 0 else 1
def slipB (x : Slp) : Bool := wordsB x.2.2.1 && (wordsB x.2.2.2 && wordB x.2.1)
def SmallS (x : Slp) : Prop := x.2.1.size ≤ 1000 ∧ x.2.2.1.size ≤ 1000 ∧ x.2.2.2.size ≤ 1000
/-- The order of two slips. -/
def ordS (a b : Slp) : Int := orF [cmpS a.2.1 b.2.1, cmpP a.1 b.1, cmpS a.2.2.2 b.2.2.2, cmpS a.2.2.1 b.2.2.1]
def ordR (a b : Slp) : Int × Int := if slipB a && slipB b then (ordS a b, 0) else (0, 31)

theorem isNaN_str (x : ByteArray) (w : World) : Ct Tryz.prog 115 [.string x] w fun v _ => v = .bool false := by
  refine Ct.ofW (by simp) ?_
  (refine jjB (jjC (jJ (eB rfl) (jz (jjB (jjC ?_))))); refine jI (eT rfl) (jI (eT rfl) ?_))
  refine Ops.neqS rfl rfl ?_
  (refine jJ (eB rfl) (jz (jjF ?_)); refine jB rfl rfl ⟨inferInstance, ?_⟩)
  exact congrArg Value.bool (by simp)
theorem Compare_str (x y : ByteArray) (w : World) : Ct Tryz.prog 81 [.string x, .string y] w fun v _ => v = .int .i64 (cmpS x y) := by
  refine Ct.ofW (by simp) ?_
  (refine jjB (jjC (jJ (eI rfl) (jz (jjB (jjC ?_))))); refine jI (eT rfl) ?_)
  refine jjQ (isNaN_str x _) rfl rfl ?_
  rintro _ w2 hS2 rfl
  (refine jJ (eB rfl) (jz (jjB (jjC (jI (eT rfl) ?_)))))
  refine jjQ (isNaN_str y _) rfl rfl ?_
  rintro _ w3 hS3 rfl
  (refine jJ (eB rfl) (jz (jjB (jjB (jjC (jI (eB rfl) ?_))))); refine jz (jjK rfl (jjG (jjB (jjB (jjC ?_))))); refine jI (eB rfl) (jz (jjK rfl (jjG (jjB (jjB ?_))))); refine jjC (jI (eT rfl) (jI (eT rfl) ?_)))
  refine Ops.lssS rfl rfl ?_
  obtain ⟨B, hB⟩ : ∃ B, Op.bytesLess x.toList y.toList = B := ⟨_, rfl⟩
  rw [cmpS, hB]
  cases B
  · (refine jz (jjK rfl (jjG (jjB (jjB (jjC ?_))))); refine jI (eT rfl) (jI (eT rfl) ?_))
    refine Ops.gtrS rfl rfl ?_
    rw [hB, beqS, Bool.false_or]
    by_cases e : x = y
    · rw [decide_eq_true e, if_pos e]
      (refine jz (jjK rfl (jjG (jjB (jjC (jJ (eI rfl) ?_))))); refine jz (jjF ?_); refine jB rfl rfl ⟨inferInstance, ?_⟩)
      exact rfl
    · rw [decide_eq_false e, if_neg e]
      (refine jz (jjJ rfl (jjB (jjC (jJ (eI rfl) (jz ?_))))); refine jjF ?_; refine jB rfl rfl ⟨inferInstance, ?_⟩)
      exact rfl
  · (refine jz (jjJ rfl (jjB (jjC (jJ (eI rfl) (jz ?_))))); refine jjF ?_; refine jB rfl rfl ⟨inferInstance, ?_⟩)
    exact rfl

section
variable (w : World) [hm : MxI w]
set_option maxHeartbeats 1000000 in
theorem right_slip (x : Slp) (hx : SmallS x) : Ct Tryz.prog 79 [encSl x] w fun v _ => v = .bool (slipB x) := by
  obtain ⟨h1, h2, h3⟩ := hx
  refine Ct.ofW (by simp) ?_
  (refine jjB (jjC ?_))
  (refine jy rfl ?_; intro b1 w_b1 hb_b1 hs_b1 hS_b1 hk_b1; have hA_b1 := At.ofBlock hk_b1)
  (refine jJ (eB rfl) (jz (jjB (jjC (jm (jn rfl ?_))))); refine jN rfl rfl rfl ?_)
  obtain ⟨B1, e1⟩ : ∃ B, wordsB x.2.2.1 = B := ⟨_, rfl⟩
  obtain ⟨B2, e2⟩ : ∃ B, wordsB x.2.2.2 = B := ⟨_, rfl⟩
  obtain ⟨B3, e3⟩ : ∃ B, wordB x.2.1 = B := ⟨_, rfl⟩
  refine jjQ ((words_slip _ x.2.2.1 h2).mono fun v _ _ h => by rw [e1] at h; exact h) rfl rfl ?_
  rintro _ w2 hS2 ⟨sv, rfl, -⟩
  (refine jI (eU rfl) (ju rfl rfl (ju rfl rfl (jJ rfl (jJ (eB rfl) (jz ?_))))); refine jjB (jjC (jm (jn rfl (jN rfl rfl rfl ?_)))))
  refine jjQ ((words_slip _ x.2.2.2 h3).mono fun v _ _ h => by rw [e2] at h; exact h) rfl rfl ?_
  rintro _ w3 hS3 ⟨sv2, rfl, -⟩
  rw [slipB, e1, e2, e3]
  cases B1
  · (refine jI (eU rfl) (ju rfl rfl (ju rfl rfl (jJ rfl (jJ (eB rfl) (jz ?_))))); refine jjB (jjC (jI (eB rfl) (jI (eB rfl) (jU rfl rfl rfl rfl (jL rfl (eB rfl) ?_))))); refine jI (eB rfl) (jU rfl rfl rfl rfl (jU rfl rfl rfl rfl (jU rfl rfl rfl rfl (jL rfl (eB rfl) (jJ (eB rfl) ?_))))); refine jz (jjF ?_); refine jB rfl rfl ⟨inferInstance, ?_⟩)
    exact rfl
  cases B2
  · (refine jI (eU rfl) (ju rfl rfl (ju rfl rfl (jJ rfl (jJ (eB rfl) (jz ?_))))); refine jjB (jjC (jI (eB rfl) (jI (eB rfl) (jT rfl rfl rfl (jI (eB rfl) ?_))))); refine jK rfl (eB rfl) (jI (eB rfl) (jU rfl rfl rfl rfl (jU rfl rfl rfl rfl (jU rfl rfl rfl rfl (jL rfl (eB rfl) ?_))))); refine jJ (eB rfl) (jz (jjF ?_)); refine jB rfl rfl ⟨inferInstance, ?_⟩)
    exact rfl
  (refine jI (eU rfl) (ju rfl rfl (ju rfl rfl (jJ rfl (jJ (eB rfl) (jz ?_))))); refine jjB (jjC (jI (eB rfl) (jI (eB rfl) (jT rfl rfl rfl (jI (eB rfl) ?_))))); refine jK rfl (eB rfl) (jI (eB rfl) (jT rfl rfl rfl (jm (jn rfl (jT rfl rfl rfl ?_))))); refine jN rfl rfl rfl (jT rfl rfl rfl ?_))
  refine jjQ ((word_slip x.2.1 _ (by omega)).mono fun v _ _ h => h.trans (by rw [e3])) rfl rfl ?_
  rintro _ w4 hS4 rfl
  (refine jK rfl (eB rfl) (jJ (eB rfl) (jz (jjF ?_))); refine jB rfl rfl ⟨inferInstance, ?_⟩)
  exact rfl
set_option maxHeartbeats 2000000 in
theorem Order_slip (x y : Slp) (hx : SmallS x) (hy : SmallS y) : Ct Tryz.prog 46 [encSl x, encSl y] w fun v _ => v = .tuple #[.int .i64 (ordR x y).1, .int .i64 (ordR x y).2] := by
  refine Ct.ofW (by simp) ?_
  (refine jjB (jjC ?_))
  (refine jy rfl ?_; intro b2 w_b2 hb_b2 hs_b2 hS_b2 hk_b2; have hA_b2 := At.ofBlock hk_b2)
  skip
  (refine jy rfl ?_; intro b3 w_b3 hb_b3 hs_b3 hS_b3 hk_b3; have hA_b3 := At.ofBlock hk_b3)
  obtain ⟨B1, e1⟩ : ∃ B, slipB x = B := ⟨_, rfl⟩
  obtain ⟨B2, e2⟩ : ∃ B, slipB y = B := ⟨_, rfl⟩
  (refine jJ (eI rfl) (jJ (eI rfl) (jz (jjB (jjB (jjC ?_))))); refine jO rfl rfl rfl rfl ?_)
  refine jjQ ((right_slip _ x hx).mono fun v _ _ h => h.trans (by rw [e1])) rfl rfl ?_
  rintro _ w2 hS2 rfl
  rw [ordR, e1, e2]
  cases B1
  · (refine jq rfl (jI (eB rfl) (jU rfl rfl rfl rfl (jU rfl rfl rfl rfl (jU rfl rfl rfl rfl (jK rfl (eB rfl) ?_))))); refine jz (jjJ rfl (jjB (jjC (jJ (eI rfl) (jJ (eI rfl) ?_))))); refine jz (jjF ?_); refine jC rfl rfl rfl ⟨inferInstance, ?_⟩)
    exact rfl
  (refine jp rfl (jI (eB rfl) (jT rfl rfl rfl (jO rfl rfl rfl rfl (jT rfl rfl rfl ?_)))))
  refine jjQ ((right_slip _ y hy).mono fun v _ _ h => h.trans (by rw [e2])) rfl rfl ?_
  rintro _ w3 hS3 rfl
  cases B2
  · (refine jT rfl rfl rfl (jq rfl (jL rfl (eB rfl) (jz (jjJ rfl (jjB ?_))))); refine jjC (jJ (eI rfl) (jJ (eI rfl) (jz (jjF ?_)))); refine jC rfl rfl rfl ⟨inferInstance, ?_⟩)
    exact rfl
  (refine jT rfl rfl rfl (jp rfl (jL rfl (eB rfl) (jz (jjK rfl (jjG ?_))))); refine jjB ?_)
  refine W.draw (fun w' => Ext w3 w') ?_
  intro w1 hS1
  have x1 := hS1.ext
  (refine jjV [0, 1, 2, 3, 5, 6, 7, 8, 10, 11, 12, 13, 15, 16, 17, 18] ?_ ?_ ?_; (decide +kernel); (exact x1); (((apply jjT; exact rfl; rintro w' hq; have := hq.toStep; refine jm (jn rfl (jz ?_)); exact ⟨rfl, rfl⟩; apply jjT; exact rfl; rintro w' hq; have := hq.toStep; refine jN rfl rfl rfl (jz ?_); exact ⟨rfl, rfl⟩; apply jjT; exact rfl; rintro w' hq; have := hq.toStep; refine jm (jn rfl (jz ?_)); exact ⟨rfl, rfl⟩; apply jjT; exact rfl; rintro w' hq; have := hq.toStep; refine jN rfl rfl rfl (jz ?_); exact ⟨rfl, rfl⟩; apply jjT; exact rfl; rintro w' hq; have := hq.toStep; refine jm (jn rfl (jz ?_)); exact ⟨rfl, rfl⟩; apply jjT; exact rfl; rintro w' hq; have := hq.toStep; refine jO rfl rfl rfl rfl (jz ?_); exact ⟨rfl, rfl⟩; apply jjT; exact rfl; rintro w' hq; have := hq.toStep; refine jm (jn rfl (jz ?_)); exact ⟨rfl, rfl⟩; apply jjT; exact rfl; rintro w' hq; have := hq.toStep; refine jO rfl rfl rfl rfl (jz ?_); exact ⟨rfl, rfl⟩; apply jjT; exact rfl; rintro w' hq; have := hq.toStep; refine jm (jn rfl (jz ?_)); exact ⟨rfl, rfl⟩; apply jjT; exact rfl; rintro w' hq; have := hq.toStep; refine jN rfl rfl rfl (jz ?_); exact ⟨rfl, rfl⟩; apply jjT; exact rfl; rintro w' hq; have := hq.toStep; refine jm (jn rfl (jz ?_)); exact ⟨rfl, rfl⟩; apply jjT; exact rfl; rintro w' hq; have := hq.toStep; refine jN rfl rfl rfl (jz ?_); exact ⟨rfl, rfl⟩; apply jjT; exact rfl; rintro w' hq; have := hq.toStep; refine jm (jn rfl (jz ?_)); exact ⟨rfl, rfl⟩; apply jjT; exact rfl; rintro w' hq; have := hq.toStep; refine jN rfl rfl rfl (jz ?_); exact ⟨rfl, rfl⟩; apply jjT; exact rfl; rintro w' hq; have := hq.toStep; refine jm (jn rfl (jz ?_)); exact ⟨rfl, rfl⟩; apply jjT; exact rfl; rintro w' hq; have := hq.toStep; refine jN rfl rfl rfl (jz ?_); exact ⟨rfl, rfl⟩; refine jjU ?_))))
  (apply jjW 4; (decide +kernel); exact rfl; (exact x1))
  refine jjQ (Compare_str _ _ _) rfl rfl ?_
  rintro _ w4 hS4 rfl
  refine jz ?_
  have x2 := x1.trans hS4.ext
  (apply jjW 9; (decide +kernel); exact rfl; (exact x2))
  refine jjQ (places_slip x.1 y.1 _) rfl rfl ?_
  rintro _ w5 hS5 rfl
  refine jz ?_
  have x3 := x2.trans hS5.ext
  (apply jjW 14; (decide +kernel); exact rfl; (exact x3))
  refine jjQ (Compare_str _ _ _) rfl rfl ?_
  rintro _ w6 hS6 rfl
  refine jz ?_
  have x4 := x3.trans hS6.ext
  (apply jjW 19; (decide +kernel); exact rfl; (exact x4))
  refine jjQ (Compare_str _ _ _) rfl rfl ?_
  rintro _ w7 hS7 rfl
  refine jz ?_
  have x5 := x4.trans hS7.ext
  (apply jjW 20; (decide +kernel); exact rfl; (exact x5))
  refine Ops.buildSlice4 (v1 := .int .i64 (cmpS x.2.1 y.2.1)) (v2 := .int .i64 (cmpP x.1 y.1)) (v3 := .int .i64 (cmpS x.2.2.2 y.2.2.2)) (v4 := .int .i64 (cmpS x.2.2.1 y.2.2.1)) rfl rfl rfl rfl rfl rfl rfl rfl rfl ?_
  intro b8 w8 hb8 hs8 hS8 hk8
  refine jz ?_
  have x6 := x5.trans hS8.ext
  (apply jjW 21; (decide +kernel); exact rfl; (exact x6))
  have hr8 : RowV w8 false 1 (.slice (some ⟨b8, 0, none⟩) 4 4) ([cmpS x.2.1 y.2.1, cmpP x.1 y.1, cmpS x.2.2.2 y.2.2.2, cmpS x.2.2.1 y.2.2.1].map intV) := hk8.row (fun x hx => by simp at hx; rcases hx with rfl | rfl | rfl | rfl <;> rfl) (by simp)
  refine jjQ (Or_int _ _ _ [cmpS x.2.1 y.2.1, cmpP x.1 y.1, cmpS x.2.2.2 y.2.2.2, cmpS x.2.2.1 y.2.2.1] _ rfl hr8) rfl rfl ?_
  rintro _ w9 hS9 rfl
  refine jz ?_
  have x7 := x6.trans hS9.ext
  (refine jjV [22, 23] ?_ ?_ ?_; (decide +kernel); (exact x7); (((apply jjT; exact rfl; rintro w' hq; refine jJ (eI rfl) (jz ?_); exact ⟨rfl, rfl⟩; apply jjT; exact rfl; rintro w' hq; refine jJ (eI rfl) (jz ?_); exact ⟨rfl, rfl⟩; refine jjU ?_))))
  refine jjX (by decide +kernel) x7 ?_
  have := x7.toStep
  (refine jjF ?_; refine jC rfl rfl rfl ⟨inferInstance, ?_⟩)
  exact rfl
end

theorem cmpP_lt {a b : Pl} (h : befP a b = true) : cmpP a b = -1 := by
  unfold cmpP orF orF orF orF cmp1
  rw [befP_iff] at h
  repeat' split
  all_goals omega

theorem bytesLess_irr : ∀ l : List UInt8, Op.bytesLess l l = false
  | [] => rfl
  | c :: l => by simp [Op.bytesLess, bytesLess_irr l]
theorem cmpS_self (x : ByteArray) : cmpS x x = 0 := by rw [cmpS, bytesLess_irr]; simp
theorem cmpS_ne {x y : ByteArray} (h : x ≠ y) : cmpS x y ≠ 0 := by
  unfold cmpS
  repeat' split
  all_goals (first | decide | (exfalso; exact h ‹_›))

/-- Three answers; turned round the other way; zero for equals alone; one behind the other. -/
structure Ord3 {α : Type} (f : α → α → Int) : Prop where
  r : ∀ a b, f a b = -1 ∨ f a b = 0 ∨ f a b = 1
  anti : ∀ a b, f a b = - f b a
  z : ∀ a b, f a b = 0 ↔ a = b
  tr : ∀ a b c, f a b = -1 → f b c = -1 → f a c = -1
theorem Ord3.lex {α β : Type} {f : α → α → Int} {g : β → β → Int} (hf : Ord3 f) (hg : Ord3 g) : Ord3 (fun (x y : α × β) => if f x.1 y.1 = 0 then g x.2 y.2 else f x.1 y.1) where
  r a b := by
    split
    · exact hg.r _ _
    · exact hf.r _ _
  anti a b := by
    have h1 := hf.anti a.1 b.1
    have h2 := hg.anti a.2 b.2
    split <;> split <;> omega
  z a b := by
    have h1 := hf.z a.1 b.1
    have h2 := hg.z a.2 b.2
    split
    · rename_i h
      rw [h2, Prod.ext_iff]
      exact ⟨fun e => ⟨h1.1 h, e⟩, fun e => e.2⟩
    · rename_i h
      exact ⟨fun e => absurd e h, fun e => absurd (h1.2 (by rw [e])) h⟩
  tr a b c := by
    intro h1 h2
    by_cases e1 : f a.1 b.1 = 0
    · rw [if_pos e1] at h1
      have q1 := (hf.z _ _).1 e1
      by_cases e2 : f b.1 c.1 = 0
      · rw [if_pos e2] at h2
        have q2 := (hf.z _ _).1 e2
        rw [if_pos ((hf.z _ _).2 (q1.trans q2))]
        exact hg.tr _ _ _ h1 h2
      · rw [if_neg e2] at h2
        rw [q1, if_neg e2]; exact h2
    · rw [if_neg e1] at h1
      by_cases e2 : f b.1 c.1 = 0
      · have q2 := (hf.z _ _).1 e2
        rw [← q2, if_neg e1]; exact h1
      · rw [if_neg e2] at h2
        have := hf.tr _ _ _ h1 h2
        rw [if_neg (by omega)]; exact this
theorem Ord3.map {α β : Type} {f : α → α → Int} (hf : Ord3 f) (k : β → α) (hk : ∀ x y, k x = k y → x = y) : Ord3 (fun x y => f (k x) (k y)) where
  r _ _ := hf.r _ _
  anti _ _ := hf.anti _ _
  z a b := by rw [hf.z]; exact ⟨hk a b, fun e => by rw [e]⟩
  tr _ _ _ := hf.tr _ _ _
theorem ord_cmp1 : Ord3 cmp1 where
  r a b := by unfold cmp1; split <;> (try split) <;> omega
  anti a b := by unfold cmp1; repeat' split
                 all_goals omega
  z a b := by unfold cmp1; repeat' split
              all_goals omega
  tr a b c := by unfold cmp1; repeat' split
                 all_goals omega
theorem bytesLess_asymm : ∀ a b : List UInt8, Op.bytesLess a b = true → Op.bytesLess b a = false
  | _, [], h => by cases h' : (‹List UInt8›) <;> simp_all [Op.bytesLess]
  | [], _ :: _, _ => rfl
  | x :: a, y :: b, h => by
    simp only [Op.bytesLess, Bool.or_eq_true, Bool.and_eq_true, decide_eq_true_eq, beq_iff_eq, Bool.or_eq_false_iff, Bool.and_eq_false_iff, decide_eq_false_iff_not] at h ⊢
    rcases h with h | ⟨rfl, h⟩
    · have h1 : x.toNat < y.toNat := UInt8.lt_iff_toNat_lt.1 h
      refine ⟨fun h2 => ?_, ?_⟩
      · have := UInt8.lt_iff_toNat_lt.1 h2; omega
      · left
        cases hb : (y == x)
        · rfl
        · have := eq_of_beq hb; subst this; omega
    · refine ⟨fun h2 => ?_, .inr (bytesLess_asymm a b h)⟩
      have := UInt8.lt_iff_toNat_lt.1 h2; omega
theorem bytesLess_tri : ∀ a b : List UInt8, Op.bytesLess a b = true ∨ a = b ∨ Op.bytesLess b a = true
  | [], [] => .inr (.inl rfl)
  | [], _ :: _ => .inl rfl
  | _ :: _, [] => .inr (.inr rfl)
  | x :: a, y :: b => by
    simp only [Op.bytesLess, Bool.or_eq_true, Bool.and_eq_true, decide_eq_true_eq, beq_iff_eq]
    rcases Nat.lt_trichotomy x.toNat y.toNat with h | h | h
    · exact .inl (.inl (UInt8.lt_iff_toNat_lt.2 h))
    · have e : x = y := UInt8.toNat_inj.1 h
      subst e
      rcases bytesLess_tri a b with h1 | h1 | h1
      · exact .inl (.inr ⟨rfl, h1⟩)
      · exact .inr (.inl (by rw [h1]))
      · exact .inr (.inr (.inr ⟨rfl, h1⟩))
    · exact .inr (.inr (.inl (UInt8.lt_iff_toNat_lt.2 h)))
theorem bytesLess_trans : ∀ a b c : List UInt8, Op.bytesLess a b = true → Op.bytesLess b c = true → Op.bytesLess a c = true
  | _, _, [], _, h => by cases ‹List UInt8› <;> simp [Op.bytesLess] at h
  | [], _, _ :: _, _, _ => rfl
  | _ :: _, [], _ :: _, h, _ => by simp [Op.bytesLess] at h
  | x :: a, y :: b, z :: c, h1, h2 => by
    simp only [Op.bytesLess, Bool.or_eq_true, Bool.and_eq_true, decide_eq_true_eq, beq_iff_eq] at h1 h2 ⊢
    rcases h1 with h1 | ⟨rfl, h1⟩
    · rcases h2 with h2 | ⟨rfl, h2⟩
      · left; have := UInt8.lt_iff_toNat_lt.1 h1; have := UInt8.lt_iff_toNat_lt.1 h2; exact UInt8.lt_iff_toNat_lt.2 (by omega)
      · exact .inl h1
    · rcases h2 with h2 | ⟨rfl, h2⟩
      · exact .inl h2
      · exact .inr ⟨rfl, bytesLess_trans a b c h1 h2⟩
theorem toList_inj {a b : ByteArray} (h : a.toList = b.toList) : a = b := by
  have := beqS a b
  rw [h, beq_self_eq_true] at this
  exact of_decide_eq_true this.symm
theorem ord_cmpS : Ord3 cmpS where
  r a b := by unfold cmpS; split <;> (try split) <;> omega
  anti a b := by
    unfold cmpS
    rcases bytesLess_tri a.toList b.toList with h | h | h
    · have h2 := bytesLess_asymm _ _ h
      have hne : ¬ b = a := fun e => by subst e; rw [h] at h2; cases h2
      rw [if_pos h, if_neg (by rw [h2]; simp), if_neg hne]
    · have e := toList_inj h
      subst e
      rw [bytesLess_irr]; simp
    · have h2 := bytesLess_asymm _ _ h
      have hne : ¬ a = b := fun e => by subst e; rw [h] at h2; cases h2
      rw [if_pos h, if_neg (by rw [h2]; simp), if_neg hne]; rfl
  z a b := by
    refine ⟨fun h => ?_, fun e => by subst e; exact cmpS_self _⟩
    refine Decidable.by_contra fun hne => cmpS_ne hne h
  tr a b c := by
    unfold cmpS
    intro h1 h2
    have q1 : Op.bytesLess a.toList b.toList = true := by
      cases h : Op.bytesLess a.toList b.toList
      · rw [h] at h1; simp at h1; split at h1 <;> omega
      · rfl
    have q2 : Op.bytesLess b.toList c.toList = true := by
      cases h : Op.bytesLess b.toList c.toList
      · rw [h] at h2; simp at h2; split at h2 <;> omega
      · rfl
    rw [if_pos (bytesLess_trans _ _ _ q1 q2)]
theorem orF_cons (a : Int) (l : List Int) : orF (a :: l) = if a = 0 then orF l else a := rfl
theorem ord_cmpP : Ord3 cmpP := by
  have h := (ord_cmp1.lex (ord_cmp1.lex ord_cmp1))
  have e : cmpP = fun (x y : Int × Int × Int) => if cmp1 x.1 y.1 = 0 then (if cmp1 x.2.1 y.2.1 = 0 then cmp1 x.2.2 y.2.2 else cmp1 x.2.1 y.2.1) else cmp1 x.1 y.1 := by
    funext x y
    simp only [cmpP, orF]
    repeat' split
    all_goals omega
  rw [e]; exact h
theorem ord_slip : Ord3 ordS := by
  have h := (ord_cmpS.lex (ord_cmpP.lex (ord_cmpS.lex ord_cmpS))).map (fun x : Slp => (x.2.1, x.1, x.2.2.2, x.2.2.1)) (fun x y e => by
    simp only [Prod.mk.injEq] at e
    exact Prod.ext e.2.1 (Prod.ext e.1 (Prod.ext e.2.2.2 e.2.2.1)))
  have e : ordS = fun (x y : Slp) => if cmpS x.2.1 y.2.1 = 0 then (if cmpP x.1 y.1 = 0 then (if cmpS x.2.2.2 y.2.2.2 = 0 then cmpS x.2.2.1 y.2.2.1 else cmpS x.2.2.2 y.2.2.2) else cmpP x.1 y.1) else cmpS x.2.1 y.2.1 := by
    funext x y
    simp only [ordS, orF]
    repeat' split
    all_goals omega
  rw [e]; exact h

/-- An order by a part of a thing: what is equal compares alike. -/
structure Pre3 {α : Type} (f : α → α → Int) : Prop where
  r : ∀ a b, f a b = -1 ∨ f a b = 0 ∨ f a b = 1
  anti : ∀ a b, f a b = - f b a
  tr : ∀ a b c, f a b = -1 → f b c = -1 → f a c = -1
  eql : ∀ a b c, f a b = 0 → f a c = f b c
theorem Ord3.pre {α β : Type} {f : α → α → Int} (h : Ord3 f) (k : β → α) : Pre3 (fun x y => f (k x) (k y)) where
  r _ _ := h.r _ _
  anti _ _ := h.anti _ _
  tr _ _ _ := h.tr _ _ _
  eql a b c e := by
    have := (h.z (k a) (k b)).1 e
    simp only [this]
def cmpBy (n : Int) (x y : Slp) : Int := if n = 1 then ordS x y else if n = 2 then cmpS x.2.1 y.2.1 else if n = 3 then cmpS x.2.2.1 y.2.2.1 else cmpS x.2.2.2 y.2.2.2
theorem pre_by (n : Int) : Pre3 (cmpBy n) := by
  by_cases h1 : n = 1
  · have e : cmpBy n = fun x y => ordS x y := by funext x y; rw [cmpBy, if_pos h1]
    rw [e]; exact ord_slip.pre id
  by_cases h2 : n = 2
  · have e : cmpBy n = fun x y => cmpS x.2.1 y.2.1 := by funext x y; rw [cmpBy, if_neg h1, if_pos h2]
    rw [e]; exact ord_cmpS.pre fun x : Slp => x.2.1
  by_cases h3 : n = 3
  · have e : cmpBy n = fun x y => cmpS x.2.2.1 y.2.2.1 := by funext x y; rw [cmpBy, if_neg h1, if_neg h2, if_pos h3]
    rw [e]; exact ord_cmpS.pre fun x : Slp => x.2.2.1
  · have e : cmpBy n = fun x y => cmpS x.2.2.2 y.2.2.2 := by funext x y; rw [cmpBy, if_neg h1, if_neg h2, if_neg h3]
    rw [e]; exact ord_cmpS.pre fun x : Slp => x.2.2.2
section
variable {α : Type} {f : α → α → Int} (hf : Pre3 f)
include hf
theorem Pre3.refl (a : α) : f a a = 0 := by have := hf.anti a a; omega
theorem Pre3.sym {a b : α} (h : f a b = 0) : f b a = 0 := by have := hf.anti a b; omega
theorem reps_le : ∀ (A B : List α), A.Pairwise (fun a b => f a b ≠ 0) → (∀ a ∈ A, ∃ b ∈ B, f a b = 0) → A.length ≤ B.length
  | [], _, _, _ => Nat.zero_le _
  | a :: A, B, hp, hm => by
    obtain ⟨b, hb, e⟩ := hm a (by simp)
    rw [List.pairwise_cons] at hp
    have ih := reps_le A (B.filter fun y => decide (f a y ≠ 0)) hp.2 fun a' ha' => by
      obtain ⟨b', hb', e'⟩ := hm a' (by simp [ha'])
      refine ⟨b', List.mem_filter.2 ⟨hb', decide_eq_true fun h => hp.1 a' ha' ?_⟩, e'⟩
      have h1 := hf.eql a' b' a e'
      have h2 := hf.sym h
      exact hf.sym (h1.trans h2)
    have hlt : (B.filter fun y => decide (f a y ≠ 0)).length < B.length := by
      rw [List.length_filter_lt_length_iff_exists]
      exact ⟨b, hb, by rw [decide_eq_true_eq]; exact fun h => h e⟩
    rw [List.length_cons]
    omega
end
/-- Whether the k-th one counts: it is less, and none before it is its equal. -/
def isFst {α : Type} (f : α → α → Int) (l : List α) (s : α) (k : Nat) : Bool :=
  decide (f (l.getD k s) s < 0) && (l.take k).all fun y => decide (f y (l.getD k s) ≠ 0)
/-- How many different ones are less. -/
def rankF {α : Type} (f : α → α → Int) (l : List α) (s : α) : Nat := ((List.range l.length).filter (isFst f l s)).length
section
variable {α : Type} {f : α → α → Int} (hf : Pre3 f)
include hf
omit hf in
theorem fst_of (l : List α) (x s : α) : ∀ {n : Nat}, n ≤ l.length → (∃ k, k < n ∧ f (l.getD k s) x = 0) → ∃ k, k < n ∧ f (l.getD k s) x = 0 ∧ ∀ j, j < k → f (l.getD j s) x ≠ 0
  | 0, _, ⟨k, h, _⟩ => absurd h (Nat.not_lt_zero _)
  | n + 1, hn, ⟨k, h, e⟩ => by
    by_cases c : ∃ k, k < n ∧ f (l.getD k s) x = 0
    · obtain ⟨k, h1, h2, h3⟩ := fst_of l x s (by omega) c
      exact ⟨k, by omega, h2, h3⟩
    · have hk : k = n := by
        refine Decidable.by_contra fun hne => c ⟨k, by omega, e⟩
      exact ⟨k, h, e, fun j hj h0 => c ⟨j, by omega, h0⟩⟩
theorem rank_reps {l C : List α} {s : α} (hC : C.Pairwise (fun a b => f a b ≠ 0)) (h1 : ∀ x ∈ l, ∃ c ∈ C, f c x = 0) (h2 : ∀ c ∈ C, ∃ x ∈ l, f c x = 0) : rankF f l s = (C.filter fun c => decide (f c s < 0)).length := by
  have hA : rankF f l s = (((List.range l.length).filter (isFst f l s)).map fun k => l.getD k s).length := by rw [List.length_map]; rfl
  rw [hA]
  refine Nat.le_antisymm (reps_le hf _ _ ?_ ?_) (reps_le hf _ _ (hC.filter _) ?_)
  · rw [List.pairwise_map]
    refine List.Pairwise.imp_of_mem ?_ ((List.pairwise_lt_range (n := l.length)).filter _)
    intro i j hi hj hij
    obtain ⟨hj1, hj2⟩ := List.mem_filter.1 hj
    rw [List.mem_range] at hj1
    rw [isFst, Bool.and_eq_true, List.all_eq_true] at hj2
    have hm : l.getD i s ∈ l.take j := by
      rw [List.getD_eq_getElem?_getD, List.getElem?_eq_getElem (by omega), Option.getD_some]
      exact List.mem_take_iff_getElem.2 ⟨i, by omega, rfl⟩
    exact of_decide_eq_true (hj2.2 _ hm)
  · intro a ha
    obtain ⟨k, hk, rfl⟩ := List.mem_map.1 ha
    obtain ⟨hk1, hk2⟩ := List.mem_filter.1 hk
    rw [List.mem_range] at hk1
    rw [isFst, Bool.and_eq_true, decide_eq_true_eq] at hk2
    have hm : l.getD k s ∈ l := by
      rw [List.getD_eq_getElem?_getD, List.getElem?_eq_getElem hk1, Option.getD_some]; exact List.getElem_mem hk1
    obtain ⟨c, hc, e⟩ := h1 _ hm
    exact ⟨c, List.mem_filter.2 ⟨hc, decide_eq_true (by rw [hf.eql _ _ s e]; exact hk2.1)⟩, hf.sym e⟩
  · intro c hc
    obtain ⟨hc1, hc2⟩ := List.mem_filter.1 hc
    rw [decide_eq_true_eq] at hc2
    obtain ⟨x, hx, e⟩ := h2 c hc1
    obtain ⟨i, hi, rfl⟩ := List.getElem_of_mem hx
    have hgi : l.getD i s = l[i] := by rw [List.getD_eq_getElem?_getD, List.getElem?_eq_getElem hi, Option.getD_some]
    obtain ⟨k, hk, e2, e3⟩ := fst_of l l[i] s (Nat.le_refl _) ⟨i, hi, by rw [hgi]; exact hf.refl _⟩
    have e4 : f c (l.getD k s) = 0 := by rw [hf.eql _ _ _ e]; exact hf.sym e2
    refine ⟨_, List.mem_map.2 ⟨k, List.mem_filter.2 ⟨List.mem_range.2 hk, ?_⟩, rfl⟩, e4⟩
    rw [isFst, Bool.and_eq_true, decide_eq_true_eq, List.all_eq_true]
    refine ⟨by rw [← hf.eql _ _ s e4]; exact hc2, fun y hy => decide_eq_true fun h0 => ?_⟩
    obtain ⟨j, hj, rfl⟩ := List.mem_take_iff_getElem.1 hy
    have hgj : l.getD j s = l[j] := by rw [List.getD_eq_getElem?_getD, List.getElem?_eq_getElem (by omega), Option.getD_some]
    refine e3 j (by omega) ?_
    rw [hgj, hf.eql _ _ _ h0]
    exact e2
/-! ### One of each, out of a sorted list -/
end
def cptGo {α : Type} (f : α → α → Int) (p : α) : List α → List α
  | [] => []
  | y :: r => if f y p = 0 then cptGo f y r else y :: cptGo f y r
def cptL {α : Type} (f : α → α → Int) : List α → List α
  | [] => []
  | x :: r => x :: cptGo f x r
section
variable {α : Type} {f : α → α → Int} (hf : Pre3 f)
include hf
theorem cptGo_facts : ∀ (r : List α) (p : α), (p :: r).Pairwise (fun a b => f b a ≠ -1) → (∀ c ∈ cptGo f p r, f p c = -1 ∧ c ∈ r) ∧ (cptGo f p r).Pairwise (fun a b => f a b = -1) ∧ ∀ x ∈ r, f p x = 0 ∨ ∃ c ∈ cptGo f p r, f c x = 0
  | [], p, _ => ⟨fun c hc => by simp [cptGo] at hc, List.Pairwise.nil, fun x hx => by simp at hx⟩
  | y :: r, p, hs => by
    rw [List.pairwise_cons] at hs
    obtain ⟨i1, i2, i3⟩ := cptGo_facts r y hs.2
    have hyp := hs.1 y (by simp)
    by_cases e : f y p = 0
    · have e' := hf.sym e
      rw [cptGo, if_pos e]
      refine ⟨fun c hc => ⟨by rw [hf.eql _ _ c e']; exact (i1 c hc).1, by simp [(i1 c hc).2]⟩, i2, fun x hx => ?_⟩
      rcases List.mem_cons.1 hx with rfl | hx
      · exact .inl e'
      · rcases i3 x hx with h | h
        · exact .inl (by rw [hf.eql _ _ x e']; exact h)
        · exact .inr h
    · have e' : f p y = -1 := by have := hf.r y p; have := hf.anti p y; omega
      rw [cptGo, if_neg e]
      refine ⟨fun c hc => ?_, List.pairwise_cons.2 ⟨fun c hc => (i1 c hc).1, i2⟩, fun x hx => ?_⟩
      · rcases List.mem_cons.1 hc with rfl | hc
        · exact ⟨e', by simp⟩
        · exact ⟨hf.tr _ _ _ e' (i1 c hc).1, by simp [(i1 c hc).2]⟩
      · rcases List.mem_cons.1 hx with rfl | hx
        · exact .inr ⟨x, by simp, hf.refl x⟩
        · rcases i3 x hx with h | ⟨c, hc, h⟩
          · exact .inr ⟨y, by simp, h⟩
          · exact .inr ⟨c, by simp [hc], h⟩
theorem cpt_facts {S : List α} (hs : S.Pairwise (fun a b => f b a ≠ -1)) : (∀ c ∈ cptL f S, c ∈ S) ∧ (cptL f S).Pairwise (fun a b => f a b = -1) ∧ ∀ x ∈ S, ∃ c ∈ cptL f S, f c x = 0 := by
  cases S with
  | nil => exact ⟨fun c hc => hc, List.Pairwise.nil, fun x hx => by simp at hx⟩
  | cons p r =>
    obtain ⟨i1, i2, i3⟩ := cptGo_facts hf r p hs
    refine ⟨fun c hc => ?_, List.pairwise_cons.2 ⟨fun c hc => (i1 c hc).1, i2⟩, fun x hx => ?_⟩
    · rcases List.mem_cons.1 hc with rfl | hc
      · simp
      · simp [(i1 c hc).2]
    · rcases List.mem_cons.1 hx with rfl | hx
      · exact ⟨x, by simp [cptL], hf.refl x⟩
      · rcases i3 x hx with h | ⟨c, hc, h⟩
        · exact ⟨p, by simp [cptL], h⟩
        · exact ⟨c, by simp [cptL, hc], h⟩
/-- Where a slip stands among the different ones: its rank. -/
theorem rank_cpt {l S : List α} {s : α} (hp : S.Perm l) (hs : S.Pairwise (fun a b => f b a ≠ -1)) : rankF f l s = ((cptL f S).filter fun c => decide (f c s < 0)).length := by
  obtain ⟨h1, h2, h3⟩ := cpt_facts hf hs
  refine rank_reps hf (h2.imp fun h => by omega) (fun x hx => h3 x (hp.mem_iff.2 hx)) fun c hc => ⟨c, hp.mem_iff.1 (h1 c hc), hf.refl c⟩
theorem less_mono {C : List α} {s : α} (hC : C.Pairwise (fun a b => f a b = -1)) {i j : Nat} (hij : i < j) (hj : j < C.length) (h : f C[j] s < 0) : f (C[i]'(by omega)) s < 0 := by
  have h1 := List.pairwise_iff_getElem.1 hC i j (by omega) hj hij
  have h2 := hf.r C[j] s
  have := hf.tr _ _ _ h1 (show f C[j] s = -1 by omega)
  omega
end
theorem filt_upto {α : Type} (p : α → Bool) : ∀ (l : List α) (n : Nat), n ≤ l.length → (∀ i (h : i < l.length), i < n → p l[i] = true) → (∀ i (h : i < l.length), n ≤ i → p l[i] = false) → (l.filter p).length = n
  | [], n, h, _, _ => by simp at h ⊢; omega
  | x :: l, 0, _, _, h2 => by
    rw [List.filter_eq_nil_iff.2 fun a ha => ?_]
    · rfl
    · obtain ⟨i, hi, rfl⟩ := List.getElem_of_mem ha
      rw [h2 i hi (Nat.zero_le _)]; simp
  | x :: l, n + 1, h, h1, h2 => by
    have h0 := h1 0 (by simp) (Nat.succ_pos _)
    rw [List.getElem_cons_zero] at h0
    rw [List.filter_cons, if_pos h0, List.length_cons, filt_upto p l n (by simpa using h) (fun i hi hin => by have := h1 (i + 1) (by simpa using hi) (by omega); simpa using this) (fun i hi hin => by have := h2 (i + 1) (by simpa using hi) (by omega); simpa using this)]
end Go.Proofs.YtpijeomnplmakaaGreatDoor

/- The comparators that slips are ranked by. -/
namespace Go.Proofs.YtpijeomnplmakaaGreatDoor
open Go.Shelf Go.RowKit Go.Lib Go.Sort
def sh_lays106_ren : Go.Shelf.Ren := ⟨fun | 106 => 226 | 213 => 229 | 265 => 230 | n => n, fun | 9 => 9 | 3 => 3 | n => n, fun | n => n⟩

theorem sh_lays106 : Go.Proofs.Lays.n106 Tryz.prog sh_lays106_ren := {
  mixed := by kernel_rfl
  f106 := Tryz.func226.trans (congrArg some (by kernel_rfl))
  f213 := Tryz.func229.trans (congrArg some (by kernel_rfl))
  f265 := Tryz.func230.trans (congrArg some (by kernel_rfl))
  t3 := Tryz.underlying3
  a3 := Tryz.isAgg3
  z3 := Tryz.sizeOf3
  v3 := Tryz.zeroValue3
  t9 := Tryz.underlying9
  a9 := Tryz.isAgg9
  z9 := Tryz.sizeOf9
  v9 := Tryz.zeroValue9 }

theorem sh_strings_Compare (a b : ByteArray) (w : World) :
    Calls Tryz.prog 226 #[.string a, .string b] w fun e w' => e = .returned (.int .i64 (Lib.compareBytes a.data.toList b.data.toList)) ∧ w' = w := Any.strings_Compare sh_lays106 a b w

theorem compareBytes_if : ∀ a b : List UInt8, Lib.compareBytes a b = if Op.bytesLess a b then -1 else if a = b then 0 else 1
  | [], [] => rfl
  | [], _ :: _ => rfl
  | _ :: _, [] => rfl
  | x :: a, y :: b => by
    have ih := compareBytes_if a b
    rw [Lib.compareBytes, Op.bytesLess]
    by_cases h1 : x < y
    · have h1' : x.toNat < y.toNat := UInt8.lt_iff_toNat_lt.1 h1
      rw [if_pos h1]
      simp [h1]
    · rw [if_neg h1]
      by_cases h2 : y < x
      · have h2' : y.toNat < x.toNat := UInt8.lt_iff_toNat_lt.1 h2
        have hne : x ≠ y := by rintro rfl; omega
        rw [if_pos h2]
        simp [h1, hne]
      · have h1' := mt UInt8.lt_iff_toNat_lt.2 h1
        have h2' := mt UInt8.lt_iff_toNat_lt.2 h2
        obtain rfl : x = y := UInt8.toNat_inj.1 (by omega)
        rw [if_neg h2, ih]
        simp
theorem Ops.boxE {P : Program} {ro : Option Nat} {n : Nat} {all rest : List Oper} {K : Sl → World → Prop} {s : Sl} {w : World} {d : Nat} {ty : Nat} {pos : String} {af : Array Edge} {x : Operand} {t : Nat} {v : Value} (hx : ev n s x = v)
    (h : ∀ b w', w' = w.alloc (.cells v.cells t) → b = w.heap.size → w'.heap.size = w.heap.size + 1 → Step w w' → w'.heap[b]? = some (.cells v.cells t (0, 0)) → Ops P ro n all rest K (upd s d (.pointer (some ⟨b, 0, none⟩))) w') :
    Ops P ro n all (⟨some d, .box t x, ty, pos, af, none⟩ :: rest) K s w := by
  refine Ops.ofRun (w' := w.alloc (.cells v.cells t)) rfl (by simp [execOp, hx, Instr.box, newVar, newRow]) (h w.heap.size _ rfl rfl (by simp) ⟨(Below.refl _ w).alloc (Nat.le_refl _) _⟩ (World.alloc_heap_new w _))
theorem strings_cmp (a b : ByteArray) (w : World) : Calls Tryz.prog 226 [Value.string a, Value.string b].toArray w fun e w' => e = .returned (.int .i64 (cmpS a b)) ∧ w' = w := by
  have h := sh_strings_Compare a b w
  refine Calls.mono h fun e w' ⟨h1, h2⟩ => ⟨?_, h2⟩
  rw [h1, compareBytes_if, cmpS, ← ByteArray.toList_eq, ← ByteArray.toList_eq]
  have e : (a.toList = b.toList) = (a = b) := propext ⟨toList_inj, fun h => by rw [h]⟩
  simp only [e]
/-- A slip that may be ordered. -/
def GdS (x : Slp) : Prop := slipB x = true ∧ SmallS x
/-- A comparator of slips. -/
def CmpQ (q : Nat) (cf : Slp → Slp → Int) : Prop := ∀ (x y : Slp) (w : World), MxI w → GdS x → GdS y → Calls Tryz.prog q [encSl x, encSl y].toArray w fun e w' => e = .returned (.int .i64 (cf x y)) ∧ Ext w w' ∧ w.drawn ≤ w'.drawn
theorem by2_slip : CmpQ 225 (cmpBy 2) := fun x y w _ _ _ => by
  refine Calls.ofW (by simp) ?_
  (refine jjB (jjC ?_))
  refine Ops.boxE rfl ?_
  intro b1 w1 hw1 hb1 hs1 hS1 hk1
  have hA1 := At.ofBlock hk1
  refine Ops.boxE rfl ?_
  intro b2 w2 hw2 hb2 hs2 hS2 hk2
  have hA2 := At.ofBlock hk2
  (refine jJ (eI rfl) (jz (jjB (jjC (jm (jn rfl ?_))))); refine jN rfl rfl rfl (jm (jn rfl (jN rfl rfl rfl ?_))))
  refine Ops.callR rfl (Enters.h (P := Tryz.prog) (g := 226)) rfl (strings_cmp _ _ _) ?_
  rintro e w3 ⟨rfl, rfl⟩
  refine ⟨_, rfl, ?_⟩
  (refine jJ (eI rfl) (jz (jjF ?_)))
  exact jB rfl rfl ⟨rfl, inferInstance, by rw [hw2, hw1]; exact Nat.le_refl _⟩
theorem by3_slip : CmpQ 227 (cmpBy 3) := fun x y w _ _ _ => by
  refine Calls.ofW (by simp) ?_
  (refine jjB (jjC ?_))
  refine Ops.boxE rfl ?_
  intro b1 w1 hw1 hb1 hs1 hS1 hk1
  have hA1 := At.ofBlock hk1
  refine Ops.boxE rfl ?_
  intro b2 w2 hw2 hb2 hs2 hS2 hk2
  have hA2 := At.ofBlock hk2
  (refine jJ (eI rfl) (jz (jjB (jjC (jm (jn rfl ?_))))); refine jN rfl rfl rfl (jm (jn rfl (jN rfl rfl rfl ?_))))
  refine Ops.callR rfl (Enters.h (P := Tryz.prog) (g := 226)) rfl (strings_cmp _ _ _) ?_
  rintro e w3 ⟨rfl, rfl⟩
  refine ⟨_, rfl, ?_⟩
  (refine jJ (eI rfl) (jz (jjF ?_)))
  exact jB rfl rfl ⟨rfl, inferInstance, by rw [hw2, hw1]; exact Nat.le_refl _⟩
theorem by4_slip : CmpQ 228 (cmpBy 4) := fun x y w _ _ _ => by
  refine Calls.ofW (by simp) ?_
  (refine jjB (jjC ?_))
  refine Ops.boxE rfl ?_
  intro b1 w1 hw1 hb1 hs1 hS1 hk1
  have hA1 := At.ofBlock hk1
  refine Ops.boxE rfl ?_
  intro b2 w2 hw2 hb2 hs2 hS2 hk2
  have hA2 := At.ofBlock hk2
  (refine jJ (eI rfl) (jz (jjB (jjC (jm (jn rfl ?_))))); refine jN rfl rfl rfl (jm (jn rfl (jN rfl rfl rfl ?_))))
  refine Ops.callR rfl (Enters.h (P := Tryz.prog) (g := 226)) rfl (strings_cmp _ _ _) ?_
  rintro e w3 ⟨rfl, rfl⟩
  refine ⟨_, rfl, ?_⟩
  (refine jJ (eI rfl) (jz (jjF ?_)))
  exact jB rfl rfl ⟨rfl, inferInstance, by rw [hw2, hw1]; exact Nat.le_refl _⟩
end Go.Proofs.YtpijeomnplmakaaGreatDoor
namespace Go.Proofs.YtpijeomnplmakaaGreatDoor
open Go.RowKit

def ranksR (l : List Slp) (n : Int) : List Int × Int :=
  if 60 < l.length then ([], 4) else if ¬ l.all slipB = true then ([], 31) else if ¬ (1 ≤ n ∧ n ≤ 4) then ([], 2) else (l.map fun s => (rankF (cmpBy n) l s : Int), 0)
theorem rank_le {α : Type} (f : α → α → Int) (l : List α) (s : α) : rankF f l s ≤ l.length := by
  have := List.length_filter_le (isFst f l s) (List.range l.length)
  rw [List.length_range] at this
  exact this
theorem ranksR_ok {l : List Slp} {n : Int} (h1 : l.length ≤ 60) (h2 : l.all slipB = true) (h3 : 1 ≤ n ∧ n ≤ 4) : ranksR l n = (l.map fun s => (rankF (cmpBy n) l s : Int), 0) := by
  rw [ranksR, if_neg (by omega), if_neg (by simp [h2]), if_neg (by simp [h3])]
theorem ranks_deck {l : List Slp} {n : Int} : ∀ x ∈ (l.map fun s => (rankF (cmpBy n) l s : Int)), 0 ≤ x ∧ x ≤ l.length := by
  intro x hx
  obtain ⟨s, _, rfl⟩ := List.mem_map.1 hx
  have := rank_le (cmpBy n) l s
  omega

theorem RowV.place {w : World} {agg : Bool} {k l c j : Nat} {a : Option Addr} {xs : List Value} {x : Value} (h : RowV w agg k (.slice a l c) xs) (hj : xs[j]? = some x) : ∃ b o, a = some ⟨b, o, none⟩ ∧ At w b (o + j * k) x.cells.toList := by
  rcases h.at_ with ⟨rfl, _⟩ | ⟨b, o, c', hv, hl, hc⟩
  · simp at hj
  · simp only [Value.slice.injEq] at hv
    exact ⟨b, o, hv.1, hc j x hj⟩
theorem list_ne_len {α : Type} {xs ys : List α} (h : xs.length ≠ ys.length) : xs ≠ ys := fun e => h (by rw [e])
theorem list_ne_get {α : Type} {xs ys : List α} {k : Nat} (hk : k < xs.length) (hk' : k < ys.length) (h : xs[k] ≠ ys[k]) : xs ≠ ys := fun e => by subst e; exact h rfl
theorem list_eq_get {α : Type} {xs ys : List α} (hl : xs.length = ys.length) (h : ∀ k (h1 : k < xs.length) (h2 : k < ys.length), xs[k] = ys[k]) : xs = ys := List.ext_getElem hl h

theorem SameInts_ref (a1 a2 : Option Addr) (c1 c2 : Nat) (xs ys : List Int) (w : World) [h1 : RowI w (.slice a1 xs.length c1) false 1 (xs.map intV)] [h2 : RowI w (.slice a2 ys.length c2) false 1 (ys.map intV)] :
    Ct Tryz.prog 34 [.slice a1 xs.length c1, .slice a2 ys.length c2] w fun v _ => v = .bool (decide (xs = ys)) := by
  have hl1 := h1.h.len
  simp only [List.length_map] at hl1
  refine Ct.ofW (by simp) ?_
  repeat' (first|((first|apply jI|apply jJ); (first|exact eI rfl|exact eB rfl|exact eS rfl))|(refine jW (jc rfl rfl ?_))|(refine jg (jh rfl ?_))|refine jz ?_|(refine jjA ?_; (first|refine jjB ?_|refine jjC ?_|refine jjD ?_|refine jjF ?_|refine jjG ?_))|(refine jjA ?_; (refine jjN rfl ?_ ?_ <;> intro _))|refine jB rfl rfl ⟨inferInstance, ?_⟩)
  · exact congrArg Value.bool (decide_eq_false (list_ne_len (by omega))).symm
  · refine W.loop (11 :: 12 :: 13 :: 14 :: 17 :: 18 :: 19 :: 20 :: 21 :: 22 :: 23 :: 24 :: 25 :: 4 :: 15 :: 16 :: 5 :: []) (fun g s' _ => ∃ k : Nat, s' 5 = .int .i64 k ∧ g = xs.length - k ∧ k ≤ xs.length ∧ ∀ (j : Nat) (q1 : j < xs.length) (q2 : j < ys.length), j < k → xs[j] = ys[j]) xs.length ⟨0, rfl, rfl, by omega, by intros; omega⟩ ?_
    rintro _ d w' hS ⟨k, h5, rfl, hk, hpre⟩
    refine W.fix h5 ?_
    repeat' (first|((first|apply jI|apply jJ); (first|exact eI rfl|exact eB rfl|exact eS rfl))|(refine jW (jX rfl rfl ?_))|(refine jg (jh rfl ?_))|refine jz ?_|(refine jjA ?_; (first|refine jjB ?_|refine jjC ?_|refine jjD ?_|refine jjE ?_|refine jjF ?_|refine jjG ?_))|(refine jjA ?_; (refine jjN rfl ?_ ?_ <;> intro _))|refine jB rfl rfl ⟨inferInstance, ?_⟩)
    · have k1 : k < xs.length := by omega
      have k2 : k < ys.length := by omega
      refine W.draw (fun w'' => Ext w' w'') ?_
      intro V1 hS1
      obtain ⟨q1, o1, rfl, hA1⟩ := (h1.h.ext hS.ext).place (map_get k1)
      obtain ⟨q2, o2, rfl, hA2⟩ := (h2.h.ext hS.ext).place (map_get k2)
      rw [Nat.mul_one] at hA1 hA2
      refine jjV [0, 1, 2, 3, 4, 5, 6, 7, 8] (by decide +kernel) hS1.ext ?_
      (((apply jjT; exact rfl; rintro w' hq; have := hq.toStep; refine jI (eS rfl) (jz ?_); exact ⟨rfl, rfl⟩; apply jjT; exact rfl; rintro w' hq; have := hq.toStep; refine jI (eI rfl) (jz ?_); exact ⟨rfl, rfl⟩; apply jjT; exact rfl; rintro w' hq; have := hq.toStep; refine jG rfl rfl rfl (by omega) (jz ?_); exact ⟨rfl, rfl⟩; apply jjT; exact rfl; rintro w' hq; have := hq.toStep; refine jQ rfl rfl (jz ?_); exact ⟨rfl, rfl⟩; apply jjT; exact rfl; rintro w' hq; have := hq.toStep; refine jI (eS rfl) (jz ?_); exact ⟨rfl, rfl⟩; apply jjT; exact rfl; rintro w' hq; have := hq.toStep; refine jI (eI rfl) (jz ?_); exact ⟨rfl, rfl⟩; apply jjT; exact rfl; rintro w' hq; have := hq.toStep; refine jG rfl rfl rfl (by omega) (jz ?_); exact ⟨rfl, rfl⟩; apply jjT; exact rfl; rintro w' hq; have := hq.toStep; refine jQ rfl rfl (jz ?_); exact ⟨rfl, rfl⟩; apply jjT; exact rfl; rintro w' hq; have := hq.toStep; refine jc rfl rfl (jz ?_); exact ⟨rfl, rfl⟩; refine jjU ?_)))
      refine jjX (by decide +kernel) hS1.ext ?_
      repeat' (first|((first|apply jI|apply jJ); (first|exact eI rfl|exact eB rfl))|(refine jW (jY rfl rfl (by omega) ?_))|refine jz ?_|(refine jjA ?_; (first|refine jjB ?_|refine jjC ?_|refine jjF ?_|refine jjG ?_))|(refine jjA ?_; (refine jjN rfl ?_ ?_ <;> intro _))|refine jB rfl rfl ⟨inferInstance, ?_⟩)
      · exact congrArg Value.bool (decide_eq_false (list_ne_get k1 k2 ‹_›)).symm
      · refine ⟨rfl, by (((iterate 17 refine Same.upd rfl ?_); exact Same.ovN)), xs.length - (k + 1), by omega, inferInstance, k + 1, congrArg (Value.int .i64) (by omega), rfl, by omega, fun j q1 q2 hj => ?_⟩
        by_cases e : j = k
        · subst e; exact Decidable.not_not.1 ‹_›
        · exact hpre j q1 q2 (by omega)
    · exact congrArg Value.bool (decide_eq_true (list_eq_get (by omega) fun j q1 q2 => hpre j q1 q2 (by omega))).symm


section
variable (a : Option Addr) (c : Nat) (d : List Int) (w : World) [hrow : RowI w (.slice a d.length c) false 1 (d.map intV)]
end


/-- Zero cells of so many elements. -/
def zeroL (z : Value) (m : Nat) : List Value := (List.range m).map fun i => z.cells[i % z.cells.size]!
section rules
variable {P : Program} {ro : Option Nat} {n : Nat} {all rest : List Oper} {K : Sl → World → Prop} {s : Sl} {w : World} {d : Nat} {ty : Nat} {pos : String} {af : Array Edge} {t e : Nat}
theorem Ops.buildSliceF {len size bytes : Nat} {z : Value} {parts : Array (Nat × Operand)} {cells : List Value} [ht : TSl P t e] [hz : TS P e z size bytes] (h0 : Nat.blt 0 (len * size) = true) (h1 : Nat.blt (len * size) 10000 = true)
    (hf : fillL (fun i => some (i * size, size)) (zeroL z (len * size)) (parts.toList.map fun (i, x) => (i, ev n s x)) = some cells)
    (h : ∀ b w', b = w.heap.size → w'.heap.size = w.heap.size + 1 → Step w w' → Bk w' b cells e → Ops P ro n all rest K (upd s d (.slice (some ⟨b, 0, none⟩) len len)) w') :
    Ops P ro n all (⟨some d, .buildSlice t len parts, ty, pos, af, none⟩ :: rest) K s w := by
  have h0' : 0 < len * size := by simpa using h0
  have h1' : len * size < 10000 := by simpa using h1
  have hf2 := fillL_eq _ _ _ _ hf
  have e1 : (zeroL z (len * size)).toArray = (Array.range (len * size)).map (z.cells[· % z.cells.size]!) := by
    apply Array.ext'
    simp [zeroL]
  rw [e1] at hf2
  have e2 : (parts.map fun (p : Nat × Operand) => (p.1, ev n s p.2)).toList = parts.toList.map fun (i, x) => (i, ev n s x) := by simp
  refine Ops.ofRun (w' := w.alloc (.cells cells.toArray e)) rfl ?_ (h w.heap.size _ rfl (by simp) ⟨(Below.refl _ w).alloc (Nat.le_refl _) _⟩ (Bk.of (World.alloc_heap_new w _)))
  have hne : ¬ len * size = 0 := by omega
  have hbig : ¬ (16777216 < len * size) := by omega
  simp only [execOp, Instr.buildSlice, Sem.run_bind, run_underlying ht.h, run_sizeOf' w hz, Result.andThen_ok]
  simp [hbig, run_zeroValue' w hz, newRow]
  have hf3 : Instr.fill (fun i => some (i * size, size)) (Array.map (fun x => z.cells[x % z.cells.size]!) (Array.range (len * size))) (parts.toList.map fun p => (p.1, ev n s p.2)) = some cells.toArray := hf2
  simp [hf3]
  intro hc; exact absurd hc hne
end rules
/-- What such a literal reads as. -/
theorem Bk.rows {w : World} {b e k : Nat} {agg : Bool} {xs : List Value} (h : Bk w b (xs.flatMap (·.cells.toList)) e) (hf : ∀ x ∈ xs, fitsV agg k x = true) (hl : xs.length ≤ 140737488355328) : RowV w agg k (.slice (some ⟨b, 0, none⟩) xs.length xs.length) xs := by
  refine ⟨hl, hf, .inr ⟨b, 0, xs.length, rfl, Nat.le_refl _, fun j x hx => ⟨fun i v hv => ?_⟩⟩⟩
  have := flat_get (k := k) (xs := xs) (fun y hy => fitsV_cells (hf y hy)) hx hv
  have hc := (Bk.toAt (h := h)).h _ _ this
  rw [show 0 + j * k + i = 0 + (j * k + i) by omega]; exact hc

theorem same_law6 (a1 a2 : Option Addr) (c1 c2 : Nat) (xs ys : List Int) (w : World) [h1 : RowI w (.slice a1 xs.length c1) false 1 (xs.map intV)] [h2 : RowI w (.slice a2 ys.length c2) false 1 (ys.map intV)] :
    Ct Tryz.prog 51 [.slice a1 xs.length c1, .slice a2 ys.length c2] w fun v _ => v = .bool (decide (xs = ys)) := by
  refine Ct.ofW (by simp) ?_
  (refine jjB (jjC (jJ (eB rfl) (jz (jjB (jjC ?_))))); refine jI (eS rfl) (jI (eS rfl) ?_))
  refine jjQ (SameInts_ref a1 a2 c1 c2 xs ys _) rfl rfl ?_
  rintro _ w2 hS2 rfl
  (refine jJ (eB rfl) (jz (jjF ?_)); refine jB rfl rfl ⟨inferInstance, ?_⟩)
  exact rfl
/-- The deck of the examples. -/
def exD : List Int := [3, 1, 2, 1]
theorem deck_law6 (w : World) : Ct Tryz.prog 15 [] w fun v w' => ∃ b, v = .slice (some ⟨b, 0, none⟩) 4 4 ∧ RowV w' false 1 (.slice (some ⟨b, 0, none⟩) 4 4) (exD.map intV) := by
  refine Ct.ofW (by simp) ?_
  (refine jjB (jjC (jJ (eS rfl) (jz (jjB (jjC ?_))))))
  refine Ops.buildSliceF (cells := [.int .i64 3, .int .i64 1, .int .i64 2, .int .i64 1]) rfl rfl rfl ?_
  intro b w2 hb2 hs2 hS2 hk2
  have hr : RowV w2 false 1 (.slice (some ⟨b, 0, none⟩) 4 4) (exD.map intV) := hk2.row (fun x hx => by simp at hx; rcases hx with rfl | rfl | rfl | rfl <;> rfl) (by simp)
  (refine jJ (eS rfl) (jz (jjF ?_)); refine jB rfl rfl ⟨inferInstance, ?_⟩)
  exact ⟨b, rfl, hr⟩

theorem exD_open : opE exD 2 = 0 ∧ opE exD 3 = 0 ∧ deckB exD = true := by decide +kernel
theorem exD_num : numF exD = [2, 0, 1, 0] := by decide +kernel
theorem exD_end : endF exD = [(3, 2), (2, 0)] := by decide +kernel
theorem pass_is {b m p q : Nat} (h : PassR b m p) (g1 : m < b ^ q) (g2 : ∀ i, i < q → b ^ i ≤ m) : p = q := h.uniq ⟨g1, g2⟩
theorem exD_pass2 {p : Nat} (h : PassR 2 (endF exD).length p) : p = 2 := pass_is (by rw [exD_end] at h; exact h) (by decide) (by decide)
theorem exD_plan2 : planP 2 2 (numF exD) = [[0, 0, 1, 0], [1, 0, 0, 0]] := by decide +kernel
theorem exD_sort : sortP 4 [[0, 0, 1, 0], [1, 0, 0, 0]] = [1, 3, 2, 0] := by decide +kernel
theorem exD_beg : BegR exD [1, 2, 1, 1] where
  len := rfl
  pos := by decide
  up i k h1 h2 := (show ∀ k, k < 4 → ∀ i, i < k → gd exD i ≤ gd exD k → gd [1, 2, 1, 1] k + 1 ≤ gd [1, 2, 1, 1] i by decide) k h2 i h1
  ex i hi := by
    rcases (show ∀ i, i < 4 → gd [1, 2, 1, 1] i = 1 ∨ i = 1 by decide) i hi with h | rfl
    · exact .inl h
    · exact .inr ⟨2, by decide⟩
theorem exD_chain : ChainR exD [0, 0, 1, 1] where
  len := rfl
  pos := by decide
  up i hi k h1 := (show ∀ i, i < 4 → ∀ k, k < i → gd exD k ≤ gd exD i → gd [0, 0, 1, 1] k + 1 ≤ gd [0, 0, 1, 1] i by decide) i hi k h1
  ex i hi := by
    rcases (show ∀ i, i < 4 → gd [0, 0, 1, 1] i = 0 ∨ i = 2 ∨ i = 3 by decide) i hi with h | rfl | rfl
    · exact .inl h
    · exact .inr ⟨1, by decide⟩
    · exact .inr ⟨1, by decide⟩
theorem exD_keep {C : List Int} (h : BegR exD C) : keepK exD C = [1, 2] := by
  obtain rfl := h.uniq exD_beg
  decide +kernel
theorem exD_mend {C : List Int} (h : BegR exD C) : (mendF exD (keepK exD C) exD.length).2.2 = [(0, 3), (2, 1)] := by
  rw [exD_keep h]
  decide +kernel
theorem exD_moved : movedF 4 [(0, 3), (2, 1)] = [1, 3, 2, 0] := by decide +kernel

/-! What File answers. -/
def fileE (l : List Slp) (by_ boxes : Int) : Int := if (ranksR l by_).2 = 0 then opE (ranksR l by_).1 boxes else (ranksR l by_).2
def fileL (l : List Slp) (by_ boxes : Int) : List Slp := if fileE l by_ boxes = 0 then (ordF (ranksR l by_).1).map fun i => l.getD i.toNat ((0, 0, 0), ⟨#[]⟩, ⟨#[]⟩, ⟨#[]⟩) else []
def FileR (l : List Slp) (by_ boxes : Int) (B : Nat) (v : Value) (w' : World) : Prop :=
  ∃ (p : Nat) (a : Option Addr) (c : Nat), (if fileE l by_ boxes = 0 then PassR boxes.toNat (endF (ranksR l by_).1).length p else p = 0) ∧
    v = .tuple #[.slice a (fileL l by_ boxes).length c, .int .i64 (p : Int), .int .i64 (fileE l by_ boxes)] ∧ OwnL w' B 49 true 6 (.slice a (fileL l by_ boxes).length c) ((fileL l by_ boxes).map encSl)

abbrev xSea : ByteArray := ⟨#[115, 101, 97]⟩
abbrev xOld : ByteArray := ⟨#[111, 108, 100]⟩
abbrev xIs : ByteArray := ⟨#[105, 115]⟩
abbrev xAnd : ByteArray := ⟨#[97, 110, 100]⟩
def exS : List Slp := [((0, 0, 0), xSea, ⟨#[]⟩, ⟨#[]⟩), ((0, 0, 0), xOld, ⟨#[]⟩, ⟨#[]⟩), ((0, 0, 0), xSea, ⟨#[]⟩, xIs), ((0, 0, 0), xAnd, ⟨#[]⟩, ⟨#[]⟩)]
theorem exS_right : exS.all slipB = true := by decide +kernel
theorem exS_small : ∀ s ∈ exS, SmallS s := by unfold SmallS; decide +kernel
theorem exS_ranks : ranksR exS 2 = ([2, 1, 2, 0], 0) := by
  rw [ranksR_ok (by decide) exS_right (by decide)]
  decide +kernel
theorem exS_err : fileE exS 2 2 = 0 := by rw [fileE, exS_ranks]; decide +kernel
theorem exS_file : fileL exS 2 2 = [((0, 0, 0), xAnd, ⟨#[]⟩, ⟨#[]⟩), ((0, 0, 0), xOld, ⟨#[]⟩, ⟨#[]⟩), ((0, 0, 0), xSea, ⟨#[]⟩, ⟨#[]⟩), ((0, 0, 0), xSea, ⟨#[]⟩, xIs)] := by
  rw [fileL, if_pos exS_err, exS_ranks]
  decide +kernel
theorem exS_pass {p : Nat} (h : if fileE exS 2 2 = 0 then PassR (2 : Int).toNat (endF (ranksR exS 2).1).length p else p = 0) : p = 2 := by
  rw [if_pos exS_err, exS_ranks] at h
  refine pass_is (m := 2) (b := 2) ?_ (by decide) (by decide)
  have e : (endF [2, 1, 2, 0]).length = 2 := by decide +kernel
  rw [← e]; exact h

theorem best_spec {ws : List ByteArray} {side W : Int} {i : Nat} (hi : i < ws.length) (hW : (ws[i].size : Int) ≤ W) :
    ((bestA ws side W i).1 ≤ i ∧ i ≤ (bestA ws side W i).2 ∧ (bestA ws side W i).2 < ws.length ∧ lenX ws (bestA ws side W i) ≤ W) ∧
    ∀ y : Cx, y.1 ≤ i → i ≤ y.2 → y.2 < ws.length → lenX ws y ≤ W → y = bestA ws side W i ∨ ordI ws side i (bestA ws side W i) y < 0 := by
  have hself : lenX ws (i, i) ≤ W := by rw [lenX_self hi]; exact hW
  have hin : ∀ x, x ∈ (i, i) :: refA ws i W ↔ x.1 ≤ i ∧ i ≤ x.2 ∧ x.2 < ws.length ∧ lenX ws x ≤ W := fun x => by
    rw [List.mem_cons, mem_refA hi]
    constructor
    · rintro (rfl | h)
      · exact ⟨Nat.le_refl _, Nat.le_refl _, hi, hself⟩
      · exact h
    · exact .inr
  have m2 := foldl_min (ordI ws side i) (fun _ _ _ => ordI_trans) (refA ws i W) (i, i) fun x hx y hy hne => by
    rw [hin] at hx hy
    exact ordI_total hx.2.2.1 hy.2.2.1 hne
  exact ⟨(hin _).1 m2.1, fun y h1 h2 h3 h4 => m2.2 y ((hin y).2 ⟨h1, h2, h3, h4⟩)⟩
/-! ### Words with a space between them -/
abbrev noSp (l : List UInt8) : Prop := ∀ c ∈ l, c ≠ 32
theorem spl_word : ∀ {l : List UInt8}, noSp l → spl l = [l]
  | [], _ => rfl
  | c :: l, h => by
    rw [spl, if_neg (h c (by simp)), spl_word (l := l) fun x hx => h x (by simp [hx])]
theorem spl_app : ∀ {l : List UInt8} (r : List UInt8), noSp l → spl (l ++ 32 :: r) = l :: spl r
  | [], r, _ => by simp [spl]
  | c :: l, r, h => by
    rw [List.cons_append, spl, if_neg (h c (by simp)), spl_app (l := l) r fun x hx => h x (by simp [hx])]
theorem join_cc (x y : List UInt8) (r : List (List UInt8)) : Lib.join (x :: y :: r) [32] = x ++ 32 :: Lib.join (y :: r) [32] := by
  rw [Lib.join_cons, Lib.join_cons]; simp [Lib.joinTail]
theorem spl_join : ∀ {ws : List (List UInt8)}, ws ≠ [] → (∀ w ∈ ws, noSp w) → spl (Lib.join ws [32]) = ws
  | [], h, _ => absurd rfl h
  | [x], _, h => by rw [Lib.join_one, spl_word (h x (by simp))]
  | x :: y :: r, _, h => by
    rw [join_cc, spl_app _ (h x (by simp)), spl_join (by simp) fun w hw => h w (by simp only [List.mem_cons] at hw ⊢; exact .inr hw)]
theorem word_noSp {s : ByteArray} (h : wordB s = true) : noSp s.data.toList := by
  simp only [wordB, Bool.and_eq_true, List.all_eq_true] at h
  intro c hc e
  have := h.2 c hc
  subst e
  simp [lowB] at this
theorem word_size {s : ByteArray} (h : wordB s = true) : 1 ≤ s.size ∧ s.size ≤ 12 := by
  simp only [wordB, Bool.and_eq_true, decide_eq_true_eq] at h
  exact h.1
theorem splB_join {ws : List ByteArray} (hne : ws ≠ []) (h : ∀ w ∈ ws, wordB w = true) : splB (joinB ws) = ws := by
  have e : (joinB ws).data.toList = Lib.join (ws.map (·.data.toList)) [32] := by simp [joinB]
  rw [splB, e, spl_join (by simpa using hne) (fun w hw => by
    obtain ⟨y, hy, rfl⟩ := List.mem_map.1 hw
    exact word_noSp (h y hy)), List.map_map]
  exact (List.map_congr_left fun s _ => bytesL_data s).trans (List.map_id _)
theorem joinB_len : ∀ {ws : List ByteArray}, ws ≠ [] → (joinB ws).size + 1 = (ws.map fun s => s.size + 1).sum
  | [], h => absurd rfl h
  | [x], _ => by
    have : (joinB [x]).size = x.size := by show (joinB [x]).data.size = x.data.size; simp [joinB, Lib.join_one]
    rw [this]; simp
  | x :: y :: r, _ => by
    have ih := joinB_len (ws := y :: r) (by simp)
    have : (joinB (x :: y :: r)).size = x.size + 1 + (joinB (y :: r)).size := by
      show (joinB (x :: y :: r)).data.size = x.data.size + 1 + (joinB (y :: r)).data.size
      simp only [joinB, List.map_cons, join_cc]
      simp; omega
    rw [this, List.map_cons, List.sum_cons, ← ih]; omega
theorem wordsB_join {ws : List ByteArray} (h : ∀ w ∈ ws, wordB w = true) (h80 : (joinB ws).size ≤ 80) : wordsB (joinB ws) = true := by
  by_cases hne : ws = []
  · subst hne; rfl
  · rw [wordsB, splB_join hne h, List.all_eq_true.2 h, decide_eq_true h80]; simp
theorem joinB_zero {ws : List ByteArray} (h : ∀ w ∈ ws, wordB w = true) : (joinB ws).size = 0 ↔ ws = [] := by
  constructor
  · intro h0
    refine Decidable.by_contra fun hne => ?_
    have hl := joinB_len hne
    obtain ⟨x, r, rfl⟩ := List.exists_cons_of_ne_nil hne
    have := word_size (h x (by simp))
    rw [List.map_cons, List.sum_cons] at hl; omega
  · rintro rfl; rfl
theorem sum_pre {ws : List ByteArray} {a b : Nat} (hab : a ≤ b) (hb : b ≤ ws.length) : preW ws b = preW ws a + (((ws.take b).drop a).map fun s => s.size + 1).sum := by
  have e : ws.take b = ws.take a ++ (ws.take b).drop a := by
    have := List.take_append_drop a (ws.take b)
    rw [List.take_take, Nat.min_eq_left hab] at this
    exact this.symm
  rw [preW, preW]
  conv => lhs; rw [e]
  rw [List.map_append, List.sum_append]
/-- What a part of a run comes to with the space beside it. -/
def gapN (s : ByteArray) : Nat := if s.size = 0 then 0 else s.size + 1
theorem gap_join {ws : List ByteArray} (h : ∀ w ∈ ws, wordB w = true) {a b : Nat} (hab : a ≤ b) (hb : b ≤ ws.length) : preW ws b = preW ws a + gapN (joinB ((ws.take b).drop a)) := by
  rw [sum_pre hab hb, gapN]
  have hs : ∀ w ∈ (ws.take b).drop a, wordB w = true := fun w hw => h w (List.mem_of_mem_take (List.mem_of_mem_drop hw))
  by_cases h0 : (joinB ((ws.take b).drop a)).size = 0
  · rw [if_pos h0, (joinB_zero hs).1 h0]; rfl
  · rw [if_neg h0, joinB_len fun e => h0 ((joinB_zero hs).2 e)]
/-- The length of a slip's context. -/
def widthN (s : Slp) : Nat := s.2.1.size + gapN s.2.2.1 + gapN s.2.2.2
theorem width_cut {ws : List ByteArray} (h : ∀ w ∈ ws, wordB w = true) {i : Nat} (hi : i < ws.length) {x : Cx} (h1 : x.1 ≤ i) (h2 : i ≤ x.2) (h3 : x.2 < ws.length) (p : Pl) :
    (widthN (p, ws[i], joinB ((ws.take i).drop x.1), joinB ((ws.take (x.2 + 1)).drop (i + 1))) : Int) = lenX ws x := by
  have e1 := gap_join h h1 (Nat.le_of_lt hi)
  have e2 := gap_join h (a := i + 1) (b := x.2 + 1) (by omega) (by omega)
  have e3 := preW_succ hi
  simp only [widthN, lenX]
  omega

theorem word_valid {t : Tx} {k : Nat} (h : textB t = true) {s : ByteArray} (hk : k < t.length) (hs : s ∈ (wsT t k).flatten) : wordB s = true := by
  simp only [textB, Bool.and_eq_true, List.all_eq_true] at h
  have hm : t.getD k (0, []) ∈ t := by rw [List.getD_eq_getElem?_getD, List.getElem?_eq_getElem hk, Option.getD_some]; exact List.getElem_mem hk
  have h1 := h.1.2 _ hm
  simp only [chapB, Bool.and_eq_true, List.all_eq_true] at h1
  obtain ⟨y, hy, hsy⟩ := List.mem_flatten.1 hs
  have h2 := h1.2 y hy
  simp only [lineB, Bool.and_eq_true, List.all_eq_true] at h2
  exact h2.2 s hsy
/-- A slip of a text: its chapter, its word's number there, and its context. -/
theorem make_open {t : Tx} (ht : textB t = true) {wd side : Int} (hc : cutB wd side = true) {p : Pl} {s : Slp} (h : makeF t side wd p = some s) :
    ∃ (k i : Nat) (hi : i < (wsT t k).flatten.length), k < t.length ∧ (runA k (wsT t k))[i]? = some p ∧ (∀ w ∈ (wsT t k).flatten, wordB w = true) ∧ (((wsT t k).flatten[i].size : Int) ≤ wd) ∧
      s = (p, (wsT t k).flatten[i], joinB (((wsT t k).flatten.take i).drop (bestA (wsT t k).flatten side wd i).1), joinB (((wsT t k).flatten.take ((bestA (wsT t k).flatten side wd i).2 + 1)).drop (i + 1))) := by
  obtain ⟨k, i, hk, hi, rfl⟩ := makeF_some h
  have hil : i < (wsT t k).flatten.length := by rw [← runA_len k]; exact (List.getElem?_eq_some_iff.1 hi).1
  have hw := fun w (hw : w ∈ (wsT t k).flatten) => word_valid ht hk hw
  have hcb := cutB_width hc
  have := word_size (hw _ (List.getElem_mem hil))
  refine ⟨k, i, hil, hk, hi, hw, by omega, ?_⟩
  rw [slipX, List.getD_eq_getElem?_getD, List.getElem?_eq_getElem hil, Option.getD_some]
theorem take_words {ws : List ByteArray} (h : ∀ w ∈ ws, wordB w = true) {a b : Nat} : ∀ w ∈ (ws.take b).drop a, wordB w = true := fun w hw => h w (List.mem_of_mem_take (List.mem_of_mem_drop hw))
theorem make_right {t : Tx} (ht : textB t = true) {wd side : Int} (hc : cutB wd side = true) {p : Pl} {s : Slp} (h : makeF t side wd p = some s) : slipB s = true ∧ (widthN s : Int) ≤ wd := by
  obtain ⟨k, i, hi, hk, hp, hw, hW, rfl⟩ := make_open ht hc h
  obtain ⟨⟨b1, b2, b3, b4⟩, _⟩ := best_spec (side := side) hi hW
  have hcb := cutB_width hc
  have hwid := width_cut hw hi b1 b2 b3 p
  refine ⟨?_, by omega⟩
  have h1 := word_size (hw _ (List.getElem_mem hi))
  have hg : ∀ s : ByteArray, s.size ≤ gapN s := fun s => by unfold gapN; split <;> omega
  have g1 := hg (joinB (((wsT t k).flatten.take i).drop (bestA (wsT t k).flatten side wd i).1))
  have g2 := hg (joinB (((wsT t k).flatten.take ((bestA (wsT t k).flatten side wd i).2 + 1)).drop (i + 1)))
  simp only [widthN] at hwid
  simp only [slipB, Bool.and_eq_true]
  exact ⟨wordsB_join (take_words hw) (by omega), wordsB_join (take_words hw) (by omega), hw _ (List.getElem_mem hi)⟩

/-- A context of the word i. -/
abbrev encX (ws : List ByteArray) (i : Nat) (x : Cx) : Value := .agg #[.int .i64 (x.1 : Int), .int .i64 (i : Int), .int .i64 (x.2 : Int), .int .i64 (lenX ws x)]
abbrev encX1 (ws : List ByteArray) (i : Nat) (x : Cx) : List Value := [encX ws i x]
/-- The run at br, the word's number at bi. -/
structure RunF (bi br : Nat) (ws : List ByteArray) (wd side : Int) (i : Nat) (wa : Option Addr) (wc : Nat) (aa : Option Addr) (al ac : Nat) (w : World) : Prop where
  num : At w bi 0 [.int .i64 (i : Int)]
  run : At w br 0 [.int .i64 wd, .int .u8 side, .slice wa ws.length wc, .slice aa al ac]
  row : RowV w false 1 (.slice wa ws.length wc) (ws.map strV)
set_option maxHeartbeats 2000000 in
theorem contexts1_slip (bi br : Nat) (ws : List ByteArray) (wd side : Int) (i : Nat) (wa : Option Addr) (wc : Nat) (aa : Option Addr) (al ac : Nat) (hi : i < ws.length) (hsz : ∀ s ∈ ws, s.size ≤ 1000) (hn : ws.length ≤ 1000000) (hW : 0 ≤ wd ∧ wd ≤ 1000) :
    Iter Tryz.prog 171 [.pointer (some ⟨bi, 0, none⟩), .pointer (some ⟨br, 0, none⟩)] (ctxA ws i wd) (encX1 ws i) (RunF bi br ws wd side i wa wc aa al ac) := by
  intro l J Jx M w hJ hJx hF hM1 hM2 hY h0
  have hF0 := hF 0 w h0
  have := hF0.num
  have := hF0.run
  refine Calls.ofW (by simp) ?_
  (refine jjB (jjC (jJ (eI rfl) (jz (jjB (jjC ?_))))); refine jN rfl rfl rfl (jJ (eI rfl) (jz (jjD ?_))))
  refine W.keep0 [(0, .func (.yield l) #[] #[]), (1, .pointer (some ⟨bi, 0, none⟩)), (2, .pointer (some ⟨br, 0, none⟩)), (4, .int .i64 (-1 : Int)), (5, .int .i64 (i : Int))] ⟨eF rfl, eP rfl, eP rfl, eI rfl, eI rfl, trivial⟩ fun s0 => ?_
  refine W.loopG (9 :: 10 :: 13 :: 14 :: 15 :: 16 :: 17 :: 18 :: 19 :: 20 :: 21 :: 4 :: 22 :: 23 :: 24 :: 25 :: 26 :: 27 :: 6 :: 28 :: 7 :: 31 :: 32 :: 33 :: 34 :: 35 :: 36 :: 37 :: 38 :: 39 :: 40 :: 41 :: 42 :: 43 :: 44 :: 45 :: 46 :: 47 :: 48 :: 49 :: 50 :: 51 :: 52 :: 53 :: 54 :: 55 :: 56 :: 57 :: 58 :: 59 :: 60 :: 29 :: 30 :: 11 :: 12 :: 5 :: []) (fun g s' w' => ∃ j : Nat, s' 5 = .int .i64 ((i : Int) - j) ∧ s' 4 = .int .i64 (lenX ws (i + 1 - j, i)) ∧ j ≤ i + 1 ∧ g = i + 1 - j ∧ J (ctxN ws i wd j).length w') (i + 1) ⟨0, congrArg (Value.int .i64) (by omega), congrArg (Value.int .i64) (by simp only [lenX, Nat.sub_zero]; omega), by omega, rfl, h0⟩ ?_
  rintro _ sd w' ⟨j, h5, h4, hj, rfl, hJj⟩
  have hFj := hF _ _ hJj
  have := hFj.num
  have := hFj.run
  by_cases hji : j ≤ i
  rotate_left
  · obtain rfl : j = i + 1 := by omega
    refine W.fix h5 (W.fix (d := 4) h4 ?_)
    clear h5 h4
    (refine jjB (jjB (jjC (jI (eI rfl) (jjg rfl rfl (by omega) (jz ?_))))); refine jjK rfl (jjE ?_); refine jA rfl ⟨⟨_, rfl⟩, ?_⟩)
    exact .inl hJj
  replace h5 := h5.trans (congrArg (Value.int .i64) (show (i : Int) - j = ((i - j : Nat) : Int) by omega))
  refine W.fix h5 (W.fix (d := 4) h4 ?_)
  clear h5 h4
  have hlt : i - j < ws.length := by omega
  have hlf := lenX_from (b := i) hlt
  rw [show i - j + 1 = i + 1 - j by omega] at hlf
  have hsj := hsz _ (List.getElem_mem hlt)
  have hbd := lenX_bound (ws := ws) (a := i - j) (b := i) hsz hn (by omega) hi
  have hbd0 : -1 ≤ lenX ws (i + 1 - j, i) := by simp only [lenX]; have := preW_mono (ws := ws) (a := i + 1 - j) (b := i + 1) (by omega) (by omega); omega
  have hcast : ((i - j : Nat) : Int) = (i : Int) - j := by omega
  have hRow : RowI w' (.slice wa ws.length wc) false 1 (ws.map strV) := ⟨hFj.row⟩
  generalize lenX ws (i + 1 - j, i) = L0 at *
  by_cases hLW : wd < lenX ws (i - j, i)
  · have hst := ctxN_stop (m := i + 1) hi hj hLW
    (refine jjB (jjB (jjC (jI (eI rfl) (jjf rfl rfl (by omega) (jz ?_))))); refine jjJ rfl (jjG (jjB (jjD (jjB (jjC ?_))))); refine jI (eI rfl) (jm (jn rfl (jN rfl rfl rfl (jI (eI rfl) ?_)))); refine jF rfl rfl rfl (map_get (by omega)) ?_; intro _ _ _; refine jQ rfl rfl (ji rfl (jY rfl rfl (by omega) (jY rfl rfl (by omega) (jJ (eI rfl) (jz ?_))))); refine jjB (jjB (jjC (jI (eI rfl) (jm (jn rfl ?_))))); refine jm (jn rfl (jN rfl rfl rfl (jjd rfl rfl (by omega) (jz (jjJ rfl ?_))))); refine jjF ?_; refine jA rfl ⟨⟨_, rfl⟩, ?_⟩)
    exact .inl (by rw [ctxA, hst]; exact hJj)
  (refine jjB (jjB (jjC (jI (eI rfl) (jjf rfl rfl (by omega) (jz ?_))))); refine jjJ rfl (jjG (jjB (jjD (jjB (jjC ?_))))); refine jI (eI rfl) (jm (jn rfl (jN rfl rfl rfl (jI (eI rfl) ?_)))); refine jF rfl rfl rfl (map_get (by omega)) ?_; intro _ _ _; refine jQ rfl rfl (ji rfl (jY rfl rfl (by omega) (jY rfl rfl (by omega) (jJ (eI rfl) (jz ?_))))); refine jjB (jjB (jjC (jI (eI rfl) (jm (jn rfl ?_))))); refine jm (jn rfl (jN rfl rfl rfl (jje rfl rfl (by omega) (jz (jjK rfl ?_))))); refine jjG (jjB (jjC (jI (eI rfl) (jJ (eI rfl) (jz ?_))))); refine jjB (jjC (jN rfl rfl rfl (jJ (eI rfl) (jz (jjD ?_))))))
  refine W.keep [(0, .func (.yield l) #[] #[]), (1, .pointer (some ⟨bi, 0, none⟩)), (2, .pointer (some ⟨br, 0, none⟩)), (4, .int .i64 (lenX ws (i - j, i))), (5, .int .i64 ((i - j : Nat) : Int)), (6, .int .i64 (lenX ws (i - j, i))), (7, .int .i64 (i : Int))] (D := (9 :: 10 :: 13 :: 14 :: 15 :: 16 :: 17 :: 18 :: 19 :: 20 :: 21 :: 4 :: 22 :: 23 :: 24 :: 25 :: 26 :: 27 :: 6 :: 28 :: 7 :: 31 :: 32 :: 33 :: 34 :: 35 :: 36 :: 37 :: 38 :: 39 :: 40 :: 41 :: 42 :: 43 :: 44 :: 45 :: 46 :: 47 :: 48 :: 49 :: 50 :: 51 :: 52 :: 53 :: 54 :: 55 :: 56 :: 57 :: 58 :: 59 :: 60 :: 29 :: 30 :: 11 :: 12 :: 5 :: [])) (sO := upds s0 _) (by (((iterate 23 refine Same.upd rfl ?_); exact Same.ovN))) ⟨eF rfl, eP rfl, eP rfl, congrArg (Value.int .i64) (by omega), eI rfl, congrArg (Value.int .i64) (by omega), eI rfl, trivial⟩ fun s1 hs1 => ?_
  refine W.loopG (31 :: 32 :: 33 :: 34 :: 35 :: 36 :: 37 :: 38 :: 39 :: 40 :: 41 :: 42 :: 43 :: 44 :: 45 :: 46 :: 47 :: 6 :: 48 :: 49 :: 50 :: 51 :: 52 :: 53 :: 54 :: 55 :: 56 :: 57 :: 58 :: 59 :: 60 :: 29 :: 30 :: 7 :: []) (fun g s' V => ∃ t : Nat, s' 7 = .int .i64 ((i + t : Nat) : Int) ∧ s' 6 = .int .i64 (lenX ws (i - j, i + (t - 1))) ∧ i + t ≤ ws.length ∧ g = ws.length - (i + t) ∧ J ((ctxN ws i wd j).length + (ctxTo ws i wd (i - j) t).length) V) (ws.length - i) ⟨0, rfl, rfl, by omega, rfl, hJj⟩ ?_
  rintro _ sd2 V ⟨t, h7, h6, ht, rfl, hJt⟩
  have hFt := hF _ _ hJt
  have := hFt.num
  have := hFt.run
  have hRow : RowI V (.slice wa ws.length wc) false 1 (ws.map strV) := ⟨hFt.row⟩
  by_cases ht0 : t = 0
  · have htl : i + t < ws.length := by omega
    replace h6 := h6.trans (congrArg (fun b => Value.int .i64 (lenX ws (i - j, b))) (show i + (t - 1) = i + t by omega))
    have hLt : lenX ws (i - j, i + t) ≤ wd := by rw [ht0]; exact Int.not_lt.1 hLW
    refine W.fix h7 (W.fix (d := 6) h6 ?_)
    clear h7 h6
    (refine jjB (jjD (jjB (jjB (jjC (jI (eI rfl) ?_))))); refine jN rfl rfl rfl (jje rfl rfl (by omega) (jz (jjK rfl (jjG (jjB ?_))))); refine jjB (jjC (jI (eI rfl) (jm (jn rfl (jm ?_))))); refine jn rfl (jN rfl rfl rfl (jje rfl rfl (by omega) (jz (jjK rfl (jjG ?_))))); refine jjB (jjC (jI (eF rfl) (jI (eI rfl) (jN rfl rfl rfl (jI (eI rfl) ?_))))); refine jI (eI rfl) ?_)
    have hget := ctx_get (ws := ws) (i := i) (W := wd) (j := j) (t := t) hji htl (by omega)
    rw [List.length_append] at hget
    have e1 : ctxTo ws i wd (i - j) (t + 1) = ctxTo ws i wd (i - j) t ++ [(i - j, i + t)] := by rw [ctxTo_succ, if_pos (show okX ws wd (i - j, i + t) = true from decide_eq_true (by omega))]
    (refine jjS (cells := [.int .i64 ((i - j : Nat) : Int), .int .i64 (i : Int), .int .i64 ((i + t : Nat) : Int), .int .i64 (lenX ws (i - j, i + t))]) ?_ ?_; exact rfl)
    skip
    refine Ops.yield (hY _ _ _ hget hJt) rfl rfl ?_
    rintro e w9 (⟨rfl, hJ9, hFr⟩ | ⟨rfl, hJx9⟩)
    · refine ⟨_, rfl, ?_⟩
      (refine jp rfl (jz (jjK rfl (jjG (jjC (jI (eI rfl) ?_))))); refine jY rfl rfl (by omega) (jJ (eI rfl) (jz ?_)))
      refine ⟨rfl, by (((iterate 21 refine Same.upd rfl ?_); exact Same.ovN)), ws.length - (i + (t + 1)), by omega, t + 1, congrArg (Value.int .i64) (by omega), rfl, by omega, rfl, ?_⟩
      rw [e1, List.length_append]; exact hJ9
    · refine ⟨_, rfl, ?_⟩
      (refine jq rfl (jz (jjJ rfl (jjF ?_))); refine jA rfl ⟨⟨_, rfl⟩, ?_⟩)
      exact .inr ⟨_, (List.getElem?_eq_some_iff.1 hget).1, hJx9⟩
  by_cases hte : i + t = ws.length
  · have hsu := ctxN_succ ws i wd j
    rw [show ws.length - i = t by omega] at hsu
    refine W.fix h7 (W.fix (d := 6) h6 ?_)
    clear h7 h6
    (refine jjB (jjD (jjB (jjB (jjC (jI (eI rfl) ?_))))); refine jN rfl rfl rfl (jjd rfl rfl (by omega) (jz (jjJ rfl (jjB (jjB ?_))))); refine jjC (jI (eI rfl) (jm (jn rfl (jN rfl rfl rfl (jh rfl ?_))))); refine jjh rfl rfl (by omega) (jz (jjJ rfl (jjE (jjC (jI (eI rfl) ?_))))); refine jZ rfl rfl (by omega) (jJ (eI rfl) (jz ?_)))
    refine ⟨rfl, by (((iterate 13 refine Same.upd rfl ?_); refine Same.ovN' rfl ?_; assumption)), i + 1 - (j + 1), by omega, j + 1, congrArg (Value.int .i64) (by omega), congrArg (fun a => Value.int .i64 (lenX ws (a, i))) (by omega), by omega, rfl, ?_⟩
    rw [hsu, List.length_append]; exact hJt
  have htl : i + t < ws.length := by omega
  have hlt2 := lenX_to (ws := ws) (a := i - j) (b := i + (t - 1)) (by omega)
  have hst := hsz _ (List.getElem_mem htl)
  have hbt := lenX_bound (ws := ws) (a := i - j) (b := i + (t - 1)) hsz hn (by omega) (by omega)
  have hbt2 := lenX_bound (ws := ws) (a := i - j) (b := i + t) hsz hn (by omega) htl
  have hLe : lenX ws (i - j, i + t) = lenX ws (i - j, i + (t - 1)) + (ws[i + t].size + 1) := by
    have e : i + (t - 1) + 1 = i + t := by omega
    simp only [e] at hlt2
    exact hlt2
  refine W.fix h7 (W.fix (d := 6) h6 ?_)
  clear h7 h6
  generalize hL1 : lenX ws (i - j, i + (t - 1)) = L1 at *
  by_cases hLt : lenX ws (i - j, i + t) ≤ wd
  · (refine jjB (jjD (jjB (jjB (jjC (jI (eI rfl) ?_))))); refine jN rfl rfl rfl (jjd rfl rfl (by omega) (jz (jjJ rfl (jjB (jjB ?_))))); refine jjC (jI (eI rfl) (jm (jn rfl (jN rfl rfl rfl (jh rfl ?_))))); refine jji rfl rfl (by omega) (jz (jjK rfl (jjG (jjC (jI (eI rfl) ?_))))); refine jm (jn rfl (jN rfl rfl rfl (jI (eI rfl) ?_))); refine jF rfl rfl rfl (map_get (by omega)) ?_; intro _ _ _; refine jQ rfl rfl (ji rfl (jY rfl rfl (by omega) (jY rfl rfl (by omega) (jJ (eI rfl) (jz ?_))))); refine jjB (jjB (jjC (jI (eI rfl) (jm (jn rfl ?_))))); refine jm (jn rfl (jN rfl rfl rfl (jje rfl rfl (by omega) (jz (jjK rfl ?_))))); refine jjG (jjB (jjC (jI (eF rfl) (jI (eI rfl) (jN rfl rfl rfl ?_))))); refine jI (eI rfl) (jI (eI rfl) ?_))
    have hget := ctx_get (ws := ws) (i := i) (W := wd) (j := j) (t := t) hji htl (by omega)
    rw [List.length_append] at hget
    have e1 : ctxTo ws i wd (i - j) (t + 1) = ctxTo ws i wd (i - j) t ++ [(i - j, i + t)] := by rw [ctxTo_succ, if_pos (show okX ws wd (i - j, i + t) = true from decide_eq_true (by omega))]
    have hy := hY _ _ _ hget hJt
    simp only [encX1, encX, hLe] at hy
    (refine jjS (cells := [.int .i64 ((i - j : Nat) : Int), .int .i64 (i : Int), .int .i64 ((i + t : Nat) : Int), .int .i64 (L1 + (ws[i + t].size + 1))]) ?_ ?_; exact rfl)
    skip
    refine Ops.yield hy rfl rfl ?_
    rintro e w9 (⟨rfl, hJ9, hFr⟩ | ⟨rfl, hJx9⟩)
    · refine ⟨_, rfl, ?_⟩
      (refine jp rfl (jz (jjK rfl (jjG (jjC (jI (eI rfl) ?_))))); refine jY rfl rfl (by omega) (jJ (eI rfl) (jz ?_)))
      refine ⟨rfl, by (((iterate 36 refine Same.upd rfl ?_); exact Same.ovN)), ws.length - (i + (t + 1)), by omega, t + 1, congrArg (Value.int .i64) (by omega), congrArg (Value.int .i64) (by rw [Nat.add_sub_cancel]; omega), by omega, rfl, ?_⟩
      rw [e1, List.length_append]; exact hJ9
    · refine ⟨_, rfl, ?_⟩
      (refine jq rfl (jz (jjJ rfl (jjF ?_))); refine jA rfl ⟨⟨_, rfl⟩, ?_⟩)
      exact .inr ⟨_, (List.getElem?_eq_some_iff.1 hget).1, hJx9⟩
  · have hsu := ctxN_succ ws i wd j
    have hsp := ctxTo_stop (ws := ws) (i := i) (W := wd) (a := i - j) (by omega) (t := t) (m := ws.length - i) (by omega) (by omega) (by omega)
    (refine jjB (jjD (jjB (jjB (jjC (jI (eI rfl) ?_))))); refine jN rfl rfl rfl (jjd rfl rfl (by omega) (jz (jjJ rfl (jjB (jjB ?_))))); refine jjC (jI (eI rfl) (jm (jn rfl (jN rfl rfl rfl (jh rfl ?_))))); refine jji rfl rfl (by omega) (jz (jjK rfl (jjG (jjC (jI (eI rfl) ?_))))); refine jm (jn rfl (jN rfl rfl rfl (jI (eI rfl) ?_))); refine jF rfl rfl rfl (map_get (by omega)) ?_; intro _ _ _; refine jQ rfl rfl (ji rfl (jY rfl rfl (by omega) (jY rfl rfl (by omega) (jJ (eI rfl) (jz ?_))))); refine jjB (jjB (jjC (jI (eI rfl) (jm (jn rfl ?_))))); refine jm (jn rfl (jN rfl rfl rfl (jjd rfl rfl (by omega) (jz (jjJ rfl ?_))))); refine jjE (jjC (jI (eI rfl) (jZ rfl rfl (by omega) (jJ (eI rfl) (jz ?_))))))
    refine ⟨rfl, by (((iterate 28 refine Same.upd rfl ?_); refine Same.ovN' rfl ?_; assumption)), i + 1 - (j + 1), by omega, j + 1, congrArg (Value.int .i64) (by omega), congrArg (fun a => Value.int .i64 (lenX ws (a, i))) (by omega), by omega, rfl, ?_⟩
    rw [hsu, hsp, List.length_append]; exact hJt
theorem contexts_slip (ws : List ByteArray) (wd side : Int) (i : Nat) (wa : Option Addr) (wc : Nat) (aa : Option Addr) (al ac : Nat) (w : World) : Ct Tryz.prog 161 [.agg #[.int .i64 wd, .int .u8 side, .slice wa ws.length wc, .slice aa al ac], .int .i64 (i : Int)] w fun v w' =>
    ∃ bi br, v = .func (.func 171) #[] ([.pointer (some ⟨bi, 0, none⟩), .pointer (some ⟨br, 0, none⟩)] : List Value).toArray ∧ At w' bi 0 [.int .i64 (i : Int)] ∧ At w' br 0 [.int .i64 wd, .int .u8 side, .slice wa ws.length wc, .slice aa al ac] := by
  refine Ct.ofW (by simp) ?_
  (refine jjB (jjC ?_))
  (refine jy rfl ?_; intro br w_br hb_br hs_br hS_br hk_br; have hA_br := At.ofBlock hk_br)
  skip
  (refine jy rfl ?_; intro bi w_bi hb_bi hs_bi hS_bi hk_bi; have hA_bi := At.ofBlock hk_bi)
  (refine jJ rfl (jz (jjB (jjC (jv (jJ (eF rfl) ?_))))); refine jz (jjF ?_); refine jB rfl rfl ⟨inferInstance, ?_⟩)
  exact ⟨bi, br, rfl, inferInstance, inferInstance⟩

/-- A context of a short run. -/
abbrev InX (n i : Nat) (x : Cx) : Prop := x.1 ≤ i ∧ i ≤ x.2 ∧ x.2 < n ∧ n ≤ 1000000
theorem unE_bound {n i : Nat} {x : Cx} (h : InX n i x) : 0 ≤ unE i x ∧ unE i x ≤ 2000000 := by unfold unE; omega
theorem uneven_slip (ws : List ByteArray) (i : Nat) (x : Cx) (w : World) (hx : InX ws.length i x) : Ct Tryz.prog 221 [encX ws i x] w fun v _ => v = .int .i64 (unE i x) := by
  refine Ct.ofW (by simp) ?_
  (refine jjB (jjC ?_))
  (refine jy rfl ?_; intro b1 w_b1 hb_b1 hs_b1 hS_b1 hk_b1; have hA_b1 := At.ofBlock hk_b1)
  (refine jJ (eI rfl) (jz (jjB (jjC (jm (jn rfl ?_))))); refine jN rfl rfl rfl (jm (jn rfl (jN rfl rfl rfl (jZ rfl rfl (by omega) (jm ?_))))); refine jn rfl (jN rfl rfl rfl (jm (jn rfl (jN rfl rfl rfl (jZ rfl rfl (by omega) ?_))))); refine jZ rfl rfl (by omega) (jJ (eI rfl) (jz (jjB (jjC (jI (eI rfl) ?_))))); refine jI (eI rfl) ?_)
  refine jjm rfl (by omega) ?_
  (refine jk rfl rfl (jJ (eI rfl) (jz (jjF ?_))); refine jB rfl rfl ⟨inferInstance, ?_⟩)
  exact rfl
theorem sides1_slip (ws : List ByteArray) (i : Nat) (a b : Cx) (w : World) (ha : InX ws.length i a) (hb : InX ws.length i b) : Ct Tryz.prog 231 [encX ws i a, encX ws i b] w fun v _ => v = .int .i64 ((a.1 : Int) - b.1) := by
  refine Ct.ofW (by simp) ?_
  (refine jjB (jjC ?_))
  (refine jy rfl ?_; intro b1 w_b1 hb_b1 hs_b1 hS_b1 hk_b1; have hA_b1 := At.ofBlock hk_b1)
  skip
  (refine jy rfl ?_; intro b2 w_b2 hb_b2 hs_b2 hS_b2 hk_b2; have hA_b2 := At.ofBlock hk_b2)
  (refine jJ (eI rfl) (jz (jjB (jjC (jm (jn rfl ?_))))); refine jN rfl rfl rfl (jm (jn rfl (jN rfl rfl rfl (jZ rfl rfl (by omega) (jJ (eI rfl) ?_))))); refine jz (jjF ?_); refine jB rfl rfl ⟨inferInstance, ?_⟩)
  exact rfl
theorem sides2_slip (ws : List ByteArray) (i : Nat) (a b : Cx) (w : World) (ha : InX ws.length i a) (hb : InX ws.length i b) : Ct Tryz.prog 232 [encX ws i a, encX ws i b] w fun v _ => v = .int .i64 ((b.1 : Int) - a.1) := by
  refine Ct.ofW (by simp) ?_
  (refine jjB (jjC ?_))
  (refine jy rfl ?_; intro b1 w_b1 hb_b1 hs_b1 hS_b1 hk_b1; have hA_b1 := At.ofBlock hk_b1)
  skip
  (refine jy rfl ?_; intro b2 w_b2 hb_b2 hs_b2 hS_b2 hk_b2; have hA_b2 := At.ofBlock hk_b2)
  (refine jJ (eI rfl) (jz (jjB (jjC (jm (jn rfl ?_))))); refine jN rfl rfl rfl (jm (jn rfl (jN rfl rfl rfl (jZ rfl rfl (by omega) (jJ (eI rfl) ?_))))); refine jz (jjF ?_); refine jB rfl rfl ⟨inferInstance, ?_⟩)
  exact rfl
theorem sides3_slip (ws : List ByteArray) (i : Nat) (a b : Cx) (w : World) (ha : InX ws.length i a) (hb : InX ws.length i b) : Ct Tryz.prog 233 [encX ws i a, encX ws i b] w fun v _ => v = .int .i64 (orF [unE i a - unE i b, (b.1 : Int) - a.1]) := by
  have u1 := unE_bound ha
  have u2 := unE_bound hb
  refine Ct.ofW (by simp) ?_
  (refine jjB (jjC ?_))
  (refine jy rfl ?_; intro b1 w_b1 hb_b1 hs_b1 hS_b1 hk_b1; have hA_b1 := At.ofBlock hk_b1)
  skip
  (refine jy rfl ?_; intro b2 w_b2 hb_b2 hs_b2 hS_b2 hk_b2; have hA_b2 := At.ofBlock hk_b2)
  (refine jJ (eI rfl) (jz (jjB ?_)))
  refine W.draw (fun w' => Ext w_b2 w') ?_
  intro w1 hS1
  (refine jjV [0, 2, 5, 6, 7, 8, 9] ?_ ?_ ?_; (decide +kernel); (exact hS1.ext); (((apply jjT; exact rfl; rintro w' hq; have := hq.toStep; refine jO rfl rfl rfl rfl (jz ?_); exact ⟨rfl, rfl⟩; apply jjT; exact rfl; rintro w' hq; have := hq.toStep; refine jO rfl rfl rfl rfl (jz ?_); exact ⟨rfl, rfl⟩; apply jjT; exact rfl; rintro w' hq; have := hq.toStep; refine jm (jn rfl (jz ?_)); exact ⟨rfl, rfl⟩; apply jjT; exact rfl; rintro w' hq; have := hq.toStep; refine jN rfl rfl rfl (jz ?_); exact ⟨rfl, rfl⟩; apply jjT; exact rfl; rintro w' hq; have := hq.toStep; refine jm (jn rfl (jz ?_)); exact ⟨rfl, rfl⟩; apply jjT; exact rfl; rintro w' hq; have := hq.toStep; refine jN rfl rfl rfl (jz ?_); exact ⟨rfl, rfl⟩; apply jjT; exact rfl; rintro w' hq; have := hq.toStep; refine jZ rfl rfl (by omega) (jz ?_); exact ⟨rfl, rfl⟩; refine jjU ?_))))
  (apply jjW 1; (decide +kernel); exact rfl; (exact hS1.ext))
  refine jjQ (uneven_slip ws i a _ ha) rfl rfl ?_
  rintro _ w2 hS2 rfl
  refine jz ?_
  (apply jjW 3; (decide +kernel); exact rfl; (exact hS1.ext.trans hS2.ext))
  refine jjQ (uneven_slip ws i b _ hb) rfl rfl ?_
  rintro _ w3 hS3 rfl
  refine jz ?_
  have hE3 := (hS1.ext.trans hS2.ext).trans hS3.ext
  (refine jjV [4] ?_ ?_ ?_; (decide +kernel); (exact hE3); (((apply jjT; exact rfl; rintro w' hq; have := hq.toStep; refine jZ rfl rfl (by omega) (jz ?_); exact ⟨rfl, rfl⟩; refine jjU ?_))))
  (apply jjW 10; (decide +kernel); exact rfl; (exact hE3))
  refine Ops.buildSlice2 (u := .int .i64 (unE i a - unE i b)) (v := .int .i64 ((b.1 : Int) - a.1)) rfl rfl rfl rfl rfl ?_
  intro b9 w4 hb4 hs4 hS4 hk4
  refine jz ?_
  have hE4 := hE3.trans hS4.ext
  have hr4 : RowV w4 false 1 (.slice (some ⟨b9, 0, none⟩) 2 2) ([unE i a - unE i b, (b.1 : Int) - a.1].map intV) := hk4.row (fun x hx => by simp at hx; rcases hx with rfl | rfl <;> rfl) (by simp)
  (apply jjW 11; (decide +kernel); exact rfl; (exact hE4))
  refine jjQ (Or_int _ _ _ [unE i a - unE i b, (b.1 : Int) - a.1] _ rfl hr4) rfl rfl ?_
  rintro _ w5 hS5 rfl
  refine jz ?_
  (apply jjW 12; (decide +kernel); exact rfl; (exact hE4.trans hS5.ext))
  (refine jJ (eI rfl) (jz ?_))
  refine jjX (by decide +kernel) (hE4.trans hS5.ext) ?_
  (refine jjF ?_; refine jB rfl rfl ⟨inferInstance, ?_⟩)
  exact rfl

/-- The table of sides. -/
abbrev sidesC : List Value := [.nilFunc, .func (.func 231) #[] ([] : List Value).toArray, .func (.func 232) #[] ([] : List Value).toArray, .func (.func 233) #[] ([] : List Value).toArray]
set_option maxHeartbeats 2000000 in
theorem slip1_slip (br : Nat) (ws : List ByteArray) (wd side : Int) (i : Nat) (wv av : Value) (a b : Cx) (w : World) [hr : At w br 0 [.int .i64 wd, .int .u8 side, wv, av]] [hg : At w 1 0 sidesC] (hs : 1 ≤ side ∧ side ≤ 3) (ha : InX ws.length i a) (hb : InX ws.length i b)
    (la : 0 ≤ lenX ws a ∧ lenX ws a ≤ 1001000000) (lb : 0 ≤ lenX ws b ∧ lenX ws b ≤ 1001000000) : Ct Tryz.prog 162 [encX ws i a, encX ws i b, .pointer (some ⟨br, 0, none⟩)] w fun v _ => v = .int .i64 (ordI ws side i a b) := by
  have hsd : side = 1 ∨ side = 2 ∨ side = 3 := by omega
  rcases hsd with rfl | rfl | rfl
  · refine Ct.ofW (by simp) ?_
    (refine jjB (jjC ?_))
    (refine jy rfl ?_; intro b3 w_b3 hb_b3 hs_b3 hS_b3 hk_b3; have hA_b3 := At.ofBlock hk_b3)
    skip
    (refine jy rfl ?_; intro b4 w_b4 hb_b4 hs_b4 hS_b4 hk_b4; have hA_b4 := At.ofBlock hk_b4)
    (refine jJ (eI rfl) (jz (jjB ?_)))
    refine W.draw (fun w' => Ext w_b4 w') ?_
    intro w1 hS1
    (refine jjV [0, 1, 2, 3, 4, 5, 6, 7] ?_ ?_ ?_; (decide +kernel); (exact hS1.ext); (((apply jjT; exact rfl; rintro w' hq; have := hq.toStep; refine jm (jn rfl (jz ?_)); exact ⟨rfl, rfl⟩; apply jjT; exact rfl; rintro w' hq; have := hq.toStep; refine jN rfl rfl rfl (jz ?_); exact ⟨rfl, rfl⟩; apply jjT; exact rfl; rintro w' hq; have := hq.toStep; refine jm (jn rfl (jz ?_)); exact ⟨rfl, rfl⟩; apply jjT; exact rfl; rintro w' hq; have := hq.toStep; refine jN rfl rfl rfl (jz ?_); exact ⟨rfl, rfl⟩; apply jjT; exact rfl; rintro w' hq; have := hq.toStep; refine jZ rfl rfl (by omega) (jz ?_); exact ⟨rfl, rfl⟩; apply jjT; exact rfl; rintro w' hq; have := hq.toStep; refine jm (jn rfl (jz ?_)); exact ⟨rfl, rfl⟩; apply jjT; exact rfl; rintro w' hq; have := hq.toStep; refine jm (jn rfl (jz ?_)); exact ⟨rfl, rfl⟩; apply jjT; exact rfl; rintro w' hq; have := hq.toStep; refine jN rfl rfl rfl (jz ?_); exact ⟨rfl, rfl⟩; refine jjU ?_))))
    refine jjV [8] (by decide +kernel) hS1.ext (jjT (v := .pointer (some ⟨1, 0 + 1, none⟩)) rfl (fun w' q1 => ?_) (jjU ?_)); (refine Ops.indexAP (j := 1) rfl rfl rfl rfl ?_; refine jz ?_; exact ⟨rfl, rfl⟩)
    (refine jjV [9, 10, 11, 12] ?_ ?_ ?_; (decide +kernel); (exact hS1.ext); (((apply jjT; exact rfl; rintro w' hq; have := hq.toStep; refine jm (jn rfl (jz ?_)); exact ⟨rfl, rfl⟩; apply jjT; exact rfl; rintro w' hq; have := hq.toStep; refine jN rfl rfl rfl (jz ?_); exact ⟨rfl, rfl⟩; apply jjT; exact rfl; rintro w' hq; have := hq.toStep; refine jO rfl rfl rfl rfl (jz ?_); exact ⟨rfl, rfl⟩; apply jjT; exact rfl; rintro w' hq; have := hq.toStep; refine jO rfl rfl rfl rfl (jz ?_); exact ⟨rfl, rfl⟩; refine jjU ?_))))
    (apply jjW 13; (decide +kernel); exact rfl; (exact hS1.ext))
    refine jjQ (sides1_slip ws i a b _ ha hb) rfl rfl ?_
    rintro _ w2 hS2 rfl
    refine jz ?_
    (apply jjW 14; (decide +kernel); exact rfl; (exact hS1.ext.trans hS2.ext))
    refine Ops.buildSlice2 (u := .int .i64 (lenX ws b - lenX ws a)) (v := .int .i64 ((a.1 : Int) - b.1)) rfl rfl rfl rfl rfl ?_
    intro b9 w3 hb3 hs3 hS3 hk3
    refine jz ?_
    have hE3 := (hS1.ext.trans hS2.ext).trans hS3.ext
    have hr3 : RowV w3 false 1 (.slice (some ⟨b9, 0, none⟩) 2 2) ([lenX ws b - lenX ws a, (a.1 : Int) - b.1].map intV) := hk3.row (fun x hx => by simp at hx; rcases hx with rfl | rfl <;> rfl) (by simp)
    (apply jjW 15; (decide +kernel); exact rfl; (exact hE3))
    refine jjQ (Or_int _ _ _ [lenX ws b - lenX ws a, (a.1 : Int) - b.1] _ rfl hr3) rfl rfl ?_
    rintro _ w4 hS4 rfl
    refine jz ?_
    (apply jjW 16; (decide +kernel); exact rfl; (exact hE3.trans hS4.ext))
    (refine jJ (eI rfl) (jz ?_))
    refine jjX (by decide +kernel) (hE3.trans hS4.ext) ?_
    (refine jjF ?_; refine jB rfl rfl ⟨inferInstance, ?_⟩)
    exact rfl
  · refine Ct.ofW (by simp) ?_
    (refine jjB (jjC ?_))
    (refine jy rfl ?_; intro b3 w_b3 hb_b3 hs_b3 hS_b3 hk_b3; have hA_b3 := At.ofBlock hk_b3)
    skip
    (refine jy rfl ?_; intro b4 w_b4 hb_b4 hs_b4 hS_b4 hk_b4; have hA_b4 := At.ofBlock hk_b4)
    (refine jJ (eI rfl) (jz (jjB ?_)))
    refine W.draw (fun w' => Ext w_b4 w') ?_
    intro w1 hS1
    (refine jjV [0, 1, 2, 3, 4, 5, 6, 7] ?_ ?_ ?_; (decide +kernel); (exact hS1.ext); (((apply jjT; exact rfl; rintro w' hq; have := hq.toStep; refine jm (jn rfl (jz ?_)); exact ⟨rfl, rfl⟩; apply jjT; exact rfl; rintro w' hq; have := hq.toStep; refine jN rfl rfl rfl (jz ?_); exact ⟨rfl, rfl⟩; apply jjT; exact rfl; rintro w' hq; have := hq.toStep; refine jm (jn rfl (jz ?_)); exact ⟨rfl, rfl⟩; apply jjT; exact rfl; rintro w' hq; have := hq.toStep; refine jN rfl rfl rfl (jz ?_); exact ⟨rfl, rfl⟩; apply jjT; exact rfl; rintro w' hq; have := hq.toStep; refine jZ rfl rfl (by omega) (jz ?_); exact ⟨rfl, rfl⟩; apply jjT; exact rfl; rintro w' hq; have := hq.toStep; refine jm (jn rfl (jz ?_)); exact ⟨rfl, rfl⟩; apply jjT; exact rfl; rintro w' hq; have := hq.toStep; refine jm (jn rfl (jz ?_)); exact ⟨rfl, rfl⟩; apply jjT; exact rfl; rintro w' hq; have := hq.toStep; refine jN rfl rfl rfl (jz ?_); exact ⟨rfl, rfl⟩; refine jjU ?_))))
    refine jjV [8] (by decide +kernel) hS1.ext (jjT (v := .pointer (some ⟨1, 0 + 2, none⟩)) rfl (fun w' q1 => ?_) (jjU ?_)); (refine Ops.indexAP (j := 2) rfl rfl rfl rfl ?_; refine jz ?_; exact ⟨rfl, rfl⟩)
    (refine jjV [9, 10, 11, 12] ?_ ?_ ?_; (decide +kernel); (exact hS1.ext); (((apply jjT; exact rfl; rintro w' hq; have := hq.toStep; refine jm (jn rfl (jz ?_)); exact ⟨rfl, rfl⟩; apply jjT; exact rfl; rintro w' hq; have := hq.toStep; refine jN rfl rfl rfl (jz ?_); exact ⟨rfl, rfl⟩; apply jjT; exact rfl; rintro w' hq; have := hq.toStep; refine jO rfl rfl rfl rfl (jz ?_); exact ⟨rfl, rfl⟩; apply jjT; exact rfl; rintro w' hq; have := hq.toStep; refine jO rfl rfl rfl rfl (jz ?_); exact ⟨rfl, rfl⟩; refine jjU ?_))))
    (apply jjW 13; (decide +kernel); exact rfl; (exact hS1.ext))
    refine jjQ (sides2_slip ws i a b _ ha hb) rfl rfl ?_
    rintro _ w2 hS2 rfl
    refine jz ?_
    (apply jjW 14; (decide +kernel); exact rfl; (exact hS1.ext.trans hS2.ext))
    refine Ops.buildSlice2 (u := .int .i64 (lenX ws b - lenX ws a)) (v := .int .i64 ((b.1 : Int) - a.1)) rfl rfl rfl rfl rfl ?_
    intro b9 w3 hb3 hs3 hS3 hk3
    refine jz ?_
    have hE3 := (hS1.ext.trans hS2.ext).trans hS3.ext
    have hr3 : RowV w3 false 1 (.slice (some ⟨b9, 0, none⟩) 2 2) ([lenX ws b - lenX ws a, (b.1 : Int) - a.1].map intV) := hk3.row (fun x hx => by simp at hx; rcases hx with rfl | rfl <;> rfl) (by simp)
    (apply jjW 15; (decide +kernel); exact rfl; (exact hE3))
    refine jjQ (Or_int _ _ _ [lenX ws b - lenX ws a, (b.1 : Int) - a.1] _ rfl hr3) rfl rfl ?_
    rintro _ w4 hS4 rfl
    refine jz ?_
    (apply jjW 16; (decide +kernel); exact rfl; (exact hE3.trans hS4.ext))
    (refine jJ (eI rfl) (jz ?_))
    refine jjX (by decide +kernel) (hE3.trans hS4.ext) ?_
    (refine jjF ?_; refine jB rfl rfl ⟨inferInstance, ?_⟩)
    exact rfl
  · refine Ct.ofW (by simp) ?_
    (refine jjB (jjC ?_))
    (refine jy rfl ?_; intro b3 w_b3 hb_b3 hs_b3 hS_b3 hk_b3; have hA_b3 := At.ofBlock hk_b3)
    skip
    (refine jy rfl ?_; intro b4 w_b4 hb_b4 hs_b4 hS_b4 hk_b4; have hA_b4 := At.ofBlock hk_b4)
    (refine jJ (eI rfl) (jz (jjB ?_)))
    refine W.draw (fun w' => Ext w_b4 w') ?_
    intro w1 hS1
    (refine jjV [0, 1, 2, 3, 4, 5, 6, 7] ?_ ?_ ?_; (decide +kernel); (exact hS1.ext); (((apply jjT; exact rfl; rintro w' hq; have := hq.toStep; refine jm (jn rfl (jz ?_)); exact ⟨rfl, rfl⟩; apply jjT; exact rfl; rintro w' hq; have := hq.toStep; refine jN rfl rfl rfl (jz ?_); exact ⟨rfl, rfl⟩; apply jjT; exact rfl; rintro w' hq; have := hq.toStep; refine jm (jn rfl (jz ?_)); exact ⟨rfl, rfl⟩; apply jjT; exact rfl; rintro w' hq; have := hq.toStep; refine jN rfl rfl rfl (jz ?_); exact ⟨rfl, rfl⟩; apply jjT; exact rfl; rintro w' hq; have := hq.toStep; refine jZ rfl rfl (by omega) (jz ?_); exact ⟨rfl, rfl⟩; apply jjT; exact rfl; rintro w' hq; have := hq.toStep; refine jm (jn rfl (jz ?_)); exact ⟨rfl, rfl⟩; apply jjT; exact rfl; rintro w' hq; have := hq.toStep; refine jm (jn rfl (jz ?_)); exact ⟨rfl, rfl⟩; apply jjT; exact rfl; rintro w' hq; have := hq.toStep; refine jN rfl rfl rfl (jz ?_); exact ⟨rfl, rfl⟩; refine jjU ?_))))
    refine jjV [8] (by decide +kernel) hS1.ext (jjT (v := .pointer (some ⟨1, 0 + 3, none⟩)) rfl (fun w' q1 => ?_) (jjU ?_)); (refine Ops.indexAP (j := 3) rfl rfl rfl rfl ?_; refine jz ?_; exact ⟨rfl, rfl⟩)
    (refine jjV [9, 10, 11, 12] ?_ ?_ ?_; (decide +kernel); (exact hS1.ext); (((apply jjT; exact rfl; rintro w' hq; have := hq.toStep; refine jm (jn rfl (jz ?_)); exact ⟨rfl, rfl⟩; apply jjT; exact rfl; rintro w' hq; have := hq.toStep; refine jN rfl rfl rfl (jz ?_); exact ⟨rfl, rfl⟩; apply jjT; exact rfl; rintro w' hq; have := hq.toStep; refine jO rfl rfl rfl rfl (jz ?_); exact ⟨rfl, rfl⟩; apply jjT; exact rfl; rintro w' hq; have := hq.toStep; refine jO rfl rfl rfl rfl (jz ?_); exact ⟨rfl, rfl⟩; refine jjU ?_))))
    (apply jjW 13; (decide +kernel); exact rfl; (exact hS1.ext))
    refine jjQ (sides3_slip ws i a b _ ha hb) rfl rfl ?_
    rintro _ w2 hS2 rfl
    refine jz ?_
    (apply jjW 14; (decide +kernel); exact rfl; (exact hS1.ext.trans hS2.ext))
    refine Ops.buildSlice2 (u := .int .i64 (lenX ws b - lenX ws a)) (v := .int .i64 (orF [unE i a - unE i b, (b.1 : Int) - a.1])) rfl rfl rfl rfl rfl ?_
    intro b9 w3 hb3 hs3 hS3 hk3
    refine jz ?_
    have hE3 := (hS1.ext.trans hS2.ext).trans hS3.ext
    have hr3 : RowV w3 false 1 (.slice (some ⟨b9, 0, none⟩) 2 2) ([lenX ws b - lenX ws a, orF [unE i a - unE i b, (b.1 : Int) - a.1]].map intV) := hk3.row (fun x hx => by simp at hx; rcases hx with rfl | rfl <;> rfl) (by simp)
    (apply jjW 15; (decide +kernel); exact rfl; (exact hE3))
    refine jjQ (Or_int _ _ _ [lenX ws b - lenX ws a, orF [unE i a - unE i b, (b.1 : Int) - a.1]] _ rfl hr3) rfl rfl ?_
    rintro _ w4 hS4 rfl
    refine jz ?_
    (apply jjW 16; (decide +kernel); exact rfl; (exact hE3.trans hS4.ext))
    (refine jJ (eI rfl) (jz ?_))
    refine jjX (by decide +kernel) (hE3.trans hS4.ext) ?_
    (refine jjF ?_; refine jB rfl rfl ⟨inferInstance, ?_⟩)
    exact rfl

/-- What the best context's variable holds. -/
abbrev cxC (ws : List ByteArray) (i : Nat) : Option Cx → List Value
  | none => [.int .i64 0, .int .i64 0, .int .i64 0, .int .i64 0]
  | some x => [.int .i64 (x.1 : Int), .int .i64 (i : Int), .int .i64 (x.2 : Int), .int .i64 (lenX ws x)]
set_option maxHeartbeats 2000000 in
theorem first_slip (bi br br2 : Nat) (ws : List ByteArray) (wd side : Int) (i : Nat) (wa : Option Addr) (wc : Nat) (aa : Option Addr) (al ac : Nat) (w : World) (hi : i < ws.length) (hsz : ∀ s ∈ ws, s.size ≤ 1000) (hn : ws.length ≤ 1000000) (hW : 0 ≤ wd ∧ wd ≤ 1000) (hs : 1 ≤ side ∧ side ≤ 3) (hwi : (ws[i].size : Int) ≤ wd)
    (hF : RunF bi br ws wd side i wa wc aa al ac w) (hr2 : At w br2 0 [.int .i64 wd, .int .u8 side, .slice wa ws.length wc, .slice aa al ac]) (hg : At w 1 0 sidesC) :
    Ct Tryz.prog 160 [.func (.func 171) #[] ([.pointer (some ⟨bi, 0, none⟩), .pointer (some ⟨br, 0, none⟩)] : List Value).toArray, .func (.func 162) #[] ([.pointer (some ⟨br2, 0, none⟩)] : List Value).toArray] w fun v _ => v = encX ws i (bestA ws side wd i) := by
  have hbest := fst_best (side := side) hi hwi
  have hmem : ∀ x ∈ ctxA ws i wd, InX ws.length i x ∧ 0 ≤ lenX ws x ∧ lenX ws x ≤ 1001000000 := fun x hx => by
    have h := (mem_ctxA hi).1 hx
    exact ⟨⟨h.1, h.2.1, h.2.2.1, hn⟩, lenX_bound hsz hn (by omega) h.2.2.1⟩
  have hst : ∀ k b, ((ctxA ws i wd).take k).foldl (bestS (ordI ws side i)) none = some b → b ∈ ctxA ws i wd := by
    intro k b
    induction k generalizing b with
    | zero => intro h; cases h
    | succ k ih =>
      intro h
      by_cases hk : k < (ctxA ws i wd).length
      · rw [take_snoc_get (List.getElem?_eq_getElem hk), List.foldl_append, List.foldl_cons, List.foldl_nil] at h
        cases hq : ((ctxA ws i wd).take k).foldl (bestS (ordI ws side i)) none with
        | none => rw [hq] at h; cases h; exact List.getElem_mem hk
        | some c =>
          rw [hq] at h
          simp only [bestS] at h
          split at h
          · cases h; exact List.getElem_mem hk
          · cases h; exact ih _ hq
      · rw [List.take_of_length_le (by omega)] at h
        rw [List.take_of_length_le (by omega)] at ih
        exact ih b h
  refine Ct.ofWM (by simp) ?_
  (refine jjB (jjC ?_))
  (refine jy rfl ?_; intro b3 w_b3 hb_b3 hs_b3 hS_b3 hk_b3; have hA_b3 := At.ofBlock hk_b3)
  ((skip); refine jjY ?_; intro b4 w_b4 hb_b4 hs_b4 hS_b4 hk_b4; have hA_b4 := Bk.of hk_b4)
  (((refine jz (jjB (jjC ?_)))); refine jjY ?_; intro b5 w_b5 hb_b5 hs_b5 hS_b5 hk_b5; have hA_b5 := Bk.of hk_b5)
  (refine jz (jjB (jjC ?_)))
  (apply jjR rfl; (intro _; first|exact eI rfl|exact eB rfl|exact eP rfl|exact eS rfl|exact eT rfl|exact eA rfl|exact eU rfl|exact eF rfl|exact eM rfl|exact eN rfl|exact rfl); exact rfl; exact rfl; exact rfl; exact rfl; intro b6 w_b6 hb_b6 hs_b6 hS_b6 hk_b6; have hA_b6 := Bk.of hk_b6)
  (refine jz (jjB (jjB (jjC (jI (eF rfl) (jz ?_))))); refine jjD ?_)
  have hE6 : Ext w w_b6 := inferInstance
  refine W.range w.heap.size (ctxA ws i wd) (encX1 ws i) (contexts1_slip bi br ws wd side i wa wc aa al ac hi hsz hn hW) rfl (fun _ => rfl) trivial inferInstance hE6.size
    (fun k V => Ext w V ∧ w_b6.heap.size ≤ V.heap.size ∧ At V b3 0 [.func (.func 162) #[] ([.pointer (some ⟨br2, 0, none⟩)] : List Value).toArray] ∧ Bk V b4 [.int .i64 0, .int .i64 0, .int .i64 0, .int .i64 0] 212 ∧ Bk V b5 (cxC ws i (((ctxA ws i wd).take k).foldl (bestS (ordI ws side i)) none)) 212 ∧ Bk V b6 [.bool (((ctxA ws i wd).take k).foldl (bestS (ordI ws side i)) none).isSome] 4)
    (fun _ _ _ => False) ?hJ (fun _ _ _ _ h _ => h) ?hF ?h0 (fun x s' V => ∃ b7, s' 3 = .pointer (some ⟨b3, 0, none⟩) ∧ s' 5 = .pointer (some ⟨b5, 0, none⟩) ∧ s' 6 = .pointer (some ⟨b6, 0, none⟩) ∧ s' 7 = .pointer (some ⟨b7, 0, none⟩) ∧ w_b6.heap.size ≤ b7 ∧ Bk V b7 (cxC ws i (some x)) 212) (fun x s V V' ⟨b7, h1, h2, h3, h4, h5, h6⟩ g => ⟨b7, h1, h2, h3, h4, h5, h6.grow g⟩) ?hassign ?hbody ?hdone (fun _ _ _ _ _ _ _ h => h.elim)
  case hJ =>
    rintro k V V' ⟨h1, h2, h3, h4, h5, h6⟩ g
    exact ⟨h1.ofGrow g hE6.size, Nat.le_trans h2 g.size, h3.grow g, h4.grow g, h5.grow g, h6.grow g⟩
  case hF =>
    rintro k V ⟨h1, h2, h3, h4, h5, h6⟩
    exact ⟨h2, hF.num.ext h1, hF.run.ext h1, hF.row.ext h1⟩
  case h0 =>
    exact ⟨hE6, Nat.le_refl _, inferInstance, inferInstance, inferInstance, inferInstance⟩
  case hassign =>
    rintro l k x V hx ⟨h1, h2, h3, h4, h5, h6⟩ hl hr
    (refine jjC ?_)
    (apply jjR rfl; (intro _; first|exact eI rfl|exact eB rfl|exact eP rfl|exact eS rfl|exact eT rfl|exact eA rfl|exact eU rfl|exact eF rfl|exact eM rfl|exact eN rfl|exact rfl); exact rfl; exact rfl; exact rfl; exact rfl; intro b7 w_b7 hb_b7 hs_b7 hS_b7 hk_b7; have hA_b7 := Bk.of hk_b7)
    (refine jz ?_)
    exact ⟨rfl, hS_b7.ext.tr, Fr.ext hS_b7.ext, ⟨h1.trans hS_b7.ext, by have := hS_b7.size; omega, h3.ext hS_b7.ext, h4.ext hS_b7.ext, h5.ext hS_b7.ext, h6.ext hS_b7.ext⟩, b7, rfl, rfl, rfl, rfl, by omega, inferInstance⟩
  case hbody =>
    rintro l k x s' V hx ⟨h1, h2, h3, h4, h5, h6⟩ ⟨b7, ha3, ha5, ha6, ha7, hlb, hb7⟩ hl hr
    have hxm := hmem x (List.mem_of_getElem? hx)
    have hnext : ((ctxA ws i wd).take (k + 1)).foldl (bestS (ordI ws side i)) none = bestS (ordI ws side i) (((ctxA ws i wd).take k).foldl (bestS (ordI ws side i)) none) x := by rw [take_snoc_get hx, List.foldl_append, List.foldl_cons, List.foldl_nil]
    have hstk := hst k
    refine W.fix (d := 3) ha3 (W.fix (d := 5) ha5 (W.fix (d := 6) ha6 (W.fix (d := 7) ha7 ?_)))
    clear ha3 ha5 ha6 ha7
    rw [hnext]
    generalize ((ctxA ws i wd).take k).foldl (bestS (ordI ws side i)) none = st at h5 h6 hstk hnext ⊢
    clear hnext
    have n56 : b5 ≠ b6 := by omega
    have n46 : b4 ≠ b6 := by omega
    have n45 : b4 ≠ b5 := by omega
    have n35 : b3 ≠ b5 := by omega
    have n36 : b3 ≠ b6 := by omega
    have hw5 : b5 < w_b6.heap.size := by omega
    have hw6 : b6 < w_b6.heap.size := by omega
    have hw5' : w.heap.size ≤ b5 := by omega
    have hw6' : w.heap.size ≤ b6 := by omega
    have := Bk.toAt (h := h5)
    have := Bk.toAt (h := h6)
    have := Bk.toAt (h := hb7)
    cases st with
    | none =>
      (refine jjD (jjB (jjC (jN rfl rfl rfl (jq rfl (jI (eB rfl) ?_))))); refine jU rfl rfl rfl rfl (jU rfl rfl rfl rfl (jU rfl rfl rfl rfl (jU rfl rfl rfl rfl (jU rfl rfl rfl rfl (jK rfl (eB rfl) ?_))))); refine jz (jjJ rfl (jjC (jO rfl rfl rfl rfl ?_))))
      refine Ops.store rfl rfl rfl rfl rfl ?_
      intro V2 hp2
      have k6 := hp2.bk (h6) (Ne.symm n56)
      have := Bk.toAt (h := k6)
      skip
      refine Ops.store rfl rfl rfl rfl rfl ?_
      intro V3 hp3
      (refine jz ?_)
      have z2 := hp2.size
      have z3 := hp3.size
      have k5 : Bk V3 b5 (cxC ws i (some x)) 212 := hp3.bk ⟨hp2.new⟩ n56
      exact ⟨(hp2.tr ⟨_, (h5).h, rfl⟩).trans (hp3.tr ⟨_, k6.h, rfl⟩), (hp2.frS (by omega)).trans (hp3.frS (by omega)), hp3.ext (hp2.ext (h1) hw5') hw6', by omega, hp3.at_ (hp2.at_ (h3) n35) n36, hp3.bk (hp2.bk (h4) n45) n46, k5, ⟨hp3.new⟩⟩
    | some b =>
      have hbm := hmem b (hstk b rfl)
      have := hr2.ext h1
      have := hg.ext h1
      by_cases ho : ordI ws side i x b < 0
      · have e : bestS (ordI ws side i) (some b) x = some x := if_pos ho
        rw [e]
        (refine jjD (jjB (jjC (jN rfl rfl rfl (jp rfl (jI (eB rfl) ?_))))); refine jT rfl rfl rfl (jN rfl rfl rfl (jT rfl rfl rfl (jO rfl rfl rfl rfl (jT rfl rfl rfl (jO rfl rfl rfl rfl ?_))))); refine jT rfl rfl rfl ?_)
        refine jjQ (slip1_slip br2 ws wd side i _ _ x b _ hs hxm.1 hbm.1 hxm.2 hbm.2) rfl rfl ?_
        rintro _ w2 hS2 rfl
        have f5 := h5.ext hS2.ext
        have := Bk.toAt (h := f5)
        have z9 := hS2.size
        (refine jT rfl rfl rfl (jjZ rfl rfl (by omega) (jL rfl (eB rfl) (jz (jjJ rfl (jjC ?_))))); refine jO rfl rfl rfl rfl ?_)
        refine Ops.store rfl rfl rfl rfl rfl ?_
        intro V2 hp2
        have k6 := hp2.bk (h6.ext hS2.ext) (Ne.symm n56)
        have := Bk.toAt (h := k6)
        skip
        refine Ops.store rfl rfl rfl rfl rfl ?_
        intro V3 hp3
        (refine jz ?_)
        have z2 := hp2.size
        have z3 := hp3.size
        have k5 : Bk V3 b5 (cxC ws i (some x)) 212 := hp3.bk ⟨hp2.new⟩ n56
        exact ⟨hS2.ext.tr.trans ((hp2.tr ⟨_, (f5).h, rfl⟩).trans (hp3.tr ⟨_, k6.h, rfl⟩)), (Fr.ext hS2.ext).trans ((hp2.frS (by omega)).trans (hp3.frS (by omega))), hp3.ext (hp2.ext (h1.trans hS2.ext) hw5') hw6', by omega, hp3.at_ (hp2.at_ (h3.ext hS2.ext) n35) n36, hp3.bk (hp2.bk (h4.ext hS2.ext) n45) n46, k5, ⟨hp3.new⟩⟩
      · have e : bestS (ordI ws side i) (some b) x = some b := if_neg ho
        rw [e]
        (refine jjD (jjB (jjC (jN rfl rfl rfl (jp rfl (jI (eB rfl) ?_))))); refine jT rfl rfl rfl (jN rfl rfl rfl (jT rfl rfl rfl (jO rfl rfl rfl rfl (jT rfl rfl rfl (jO rfl rfl rfl rfl ?_))))); refine jT rfl rfl rfl ?_)
        refine jjQ (slip1_slip br2 ws wd side i _ _ x b _ hs hxm.1 hbm.1 hxm.2 hbm.2) rfl rfl ?_
        rintro _ w2 hS2 rfl
        (refine jT rfl rfl rfl (jja rfl rfl (by omega) (jL rfl (eB rfl) (jz (jjK rfl (jjG ?_))))))
        have z9 := hS2.size
        exact ⟨hS2.ext.tr, Fr.ext hS2.ext, h1.trans hS2.ext, by omega, h3.ext hS2.ext, h4.ext hS2.ext, h5.ext hS2.ext, h6.ext hS2.ext⟩
  case hdone =>
    rintro ds' V hmk htr ⟨h1, h2, h3, h4, h5, h6⟩
    rw [List.take_length, ← fstF, hbest] at h5
    have := Bk.toAt (h := h5)
    (refine jjB (jjC (jO rfl rfl rfl rfl ?_)))
    refine Ops.store rfl rfl rfl rfl rfl ?_
    intro V2 hp2
    have k4 : Bk V2 b4 (cxC ws i (some (bestA ws side wd i))) 212 := ⟨hp2.new⟩
    (refine jz (jjF ?_))
    refine fin1CM rfl rfl rfl k4 rfl rfl (hmk.tr (hp2.tr ⟨_, h4.h, rfl⟩)) fun w' g => ⟨(hp2.ext h1 (by omega)).ofGrow g (Nat.le_refl _), rfl⟩

theorem joinB_fit {ws : List ByteArray} (hsz : ∀ s ∈ ws, s.size ≤ 1000) (hn : ws.length ≤ 1000000) (a b : Nat) : (joinB ((ws.take b).drop a)).size ≤ 140737488355328 := by
  have h1 := joinB_size ((ws.take b).drop a) (m := 1000) fun s h => hsz s (List.mem_of_mem_take (List.mem_of_mem_drop h))
  have h2 : ((ws.take b).drop a).length ≤ 1000000 := by rw [List.length_drop, List.length_take]; omega
  have := Nat.mul_le_mul_right (1000 + 1) h2
  omega
theorem bestA_in {ws : List ByteArray} {side W : Int} {i : Nat} (hi : i < ws.length) : (bestA ws side W i).1 ≤ i ∧ i ≤ (bestA ws side W i).2 ∧ (bestA ws side W i).2 < ws.length := by
  have := stB_in (side := side) (W := W) (a := i + 1) (m := 0) hi (Nat.le_refl _) (by omega) (.inr rfl)
  rwa [stB_zero, stA_end] at this
set_option maxHeartbeats 4000000 in
theorem slip_slip (ws : List ByteArray) (ps : List Pl) (wd side : Int) (i : Nat) (p : Pl) (wa : Option Addr) (wc : Nat) (aa : Option Addr) (ac : Nat) (w : World) (hp : ps[i]? = some p) (hl : ps.length = ws.length) (hsz : ∀ s ∈ ws, s.size ≤ 1000) (hn : ws.length ≤ 1000000) (hW : 0 ≤ wd ∧ wd ≤ 1000) (hs : 1 ≤ side ∧ side ≤ 3) (hwi : ∀ s ∈ ws, (s.size : Int) ≤ wd)
    (hRw : RowV w false 1 (.slice wa ws.length wc) (ws.map strV)) (hRa : RowV w true 3 (.slice aa ps.length ac) (ps.map encPl)) (hg : At w 1 0 sidesC) :
    Ct Tryz.prog 142 [.agg #[.int .i64 wd, .int .u8 side, .slice wa ws.length wc, .slice aa ps.length ac], .int .i64 (i : Int)] w fun v _ => v = encSl (slipX ws side wd i p) := by
  have hi : i < ws.length := by have := (List.getElem?_eq_some_iff.1 hp).1; omega
  have hip : i < ps.length := by omega
  obtain ⟨bw, ow, rfl, hAw⟩ := hRw.place' (map_get hi)
  rw [Nat.mul_one] at hAw
  obtain ⟨ba, oa, rfl, hAp⟩ := hRa.place' (by rw [List.getElem?_map, hp]; rfl)
  have hcw := hRw.cap.2
  rw [List.length_map] at hcw
  have hlw := hAw.lt
  have hla := hAp.lt
  refine Ct.ofW (by simp) ?_
  (refine jjB (jjC ?_))
  (refine jy rfl ?_; intro b2 w_b2 hb_b2 hs_b2 hS_b2 hk_b2; have hA_b2 := At.ofBlock hk_b2)
  ((skip); refine jjY ?_; intro b4 w_b4 hb_b4 hs_b4 hS_b4 hk_b4; have hA_b4 := Bk.of hk_b4)
  (refine jz (jjB (jjC (jO rfl rfl rfl rfl (jI (eI rfl) ?_)))))
  refine jjQ (contexts_slip ws wd side i _ wc _ ps.length ac _) rfl rfl ?_
  rintro _ w2 hS2 ⟨bi, br, rfl, hAi, hAr⟩
  have hE2 : Ext w w2 := inferInstance
  (refine jv ?_)
  refine jjQ (first_slip bi br b2 ws wd side i _ wc _ ps.length ac _ hi hsz hn hW hs (hwi _ (List.getElem_mem hi)) ⟨hAi, hAr, hRw.ext hE2⟩ inferInstance (hg.ext hE2)) rfl rfl ?_
  rintro _ w3 hS3 rfl
  obtain ⟨hin1, hin2, hin3⟩ := bestA_in (side := side) (W := wd) hi
  rw [slipX]
  generalize bestA ws side wd i = st at *
  skip
  (apply jjR rfl; (intro _; first|exact eI rfl|exact eB rfl|exact eP rfl|exact eS rfl|exact eT rfl|exact eA rfl|exact eU rfl|exact eF rfl|exact eM rfl|exact eN rfl|exact rfl); exact rfl; exact rfl; exact rfl; exact rfl; intro b5 w_b5 hb_b5 hs_b5 hS_b5 hk_b5; have hA_b5 := Bk.of hk_b5)
  (refine jz (jjB ?_))
  have hE5 : Ext w w_b5 := inferInstance
  have z5 := hE5.size
  have hc1 := hRw.cut (lo := st.1) (hi := i) hin1 (by rw [List.length_map]; omega)
  have hc2 := hRw.cut (lo := i + 1) (hi := st.2 + 1) (by omega) (by rw [List.length_map]; omega)
  rw [← List.map_take, ← List.map_drop] at hc1 hc2
  have hd : ws.getD i ⟨#[]⟩ = ws[i] := by rw [List.getD_eq_getElem?_getD, List.getElem?_eq_getElem hi, Option.getD_some]
  rw [hd]
  have hb4 : Bk w_b5 b4 [.int .i64 0, .int .i64 0, .int .i64 0, .string ⟨#[]⟩, .string ⟨#[]⟩, .string ⟨#[]⟩] 49 := inferInstance
  have hb2 : At w_b5 b2 0 [.int .i64 wd, .int .u8 side, .slice (some ⟨bw, ow, none⟩) ws.length wc, .slice (some ⟨ba, oa, none⟩) ps.length ac] := inferInstance
  have hb5 : At w_b5 b5 0 [.int .i64 (st.1 : Int), .int .i64 (i : Int), .int .i64 (st.2 : Int), .int .i64 (lenX ws st)] := inferInstance
  have hAw5 := hAw.ext hE5
  have hAp5 := hAp.ext hE5
  have z2 := hS2.size
  have z3 := hS3.size
  have n2 : b2 ≠ b4 := by omega
  have n5 : b5 ≠ b4 := by omega
  have nw : bw ≠ b4 := by omega
  have na : ba ≠ b4 := by omega
  refine W.draw (fun w' => Only b4 w_b5 w') ?_
  intro wC hSC
  have hC : Ext w_b5 wC := hSC.ext
  (refine jjV [0, 1, 2, 3, 4, 5, 6, 7, 8, 9, 10, 11, 12, 13, 14] ?_ ?_ ?_; (decide +kernel); (exact .ofExt hC); (((apply jjT; exact rfl; rintro w' hq; have := hq.at_ hb2 n2; have := hq.at_ hb5 n5; have := hq.at_ hAw5 nw; have := hq.at_ hAp5 na; refine jm (jn rfl (jz ?_)); exact ⟨rfl, rfl⟩; apply jjT; exact rfl; rintro w' hq; have := hq.at_ hb2 n2; have := hq.at_ hb5 n5; have := hq.at_ hAw5 nw; have := hq.at_ hAp5 na; refine jN rfl rfl rfl (jz ?_); exact ⟨rfl, rfl⟩; apply jjT; exact rfl; rintro w' hq; have := hq.at_ hb2 n2; have := hq.at_ hb5 n5; have := hq.at_ hAw5 nw; have := hq.at_ hAp5 na; refine jI (eI rfl) (jz ?_); exact ⟨rfl, rfl⟩; apply jjT; exact rfl; rintro w' hq; have := hq.at_ hb2 n2; have := hq.at_ hb5 n5; have := hq.at_ hAw5 nw; have := hq.at_ hAp5 na; refine jH _ rfl rfl rfl (by omega) (jz ?_); exact ⟨rfl, rfl⟩; apply jjT; exact rfl; rintro w' hq; have := hq.at_ hb2 n2; have := hq.at_ hb5 n5; have := hq.at_ hAw5 nw; have := hq.at_ hAp5 na; refine jQ rfl rfl (jz ?_); exact ⟨rfl, rfl⟩; apply jjT; exact rfl; rintro w' hq; have := hq.at_ hb2 n2; have := hq.at_ hb5 n5; have := hq.at_ hAw5 nw; have := hq.at_ hAp5 na; refine jm (jn rfl (jz ?_)); exact ⟨rfl, rfl⟩; apply jjT; exact rfl; rintro w' hq; have := hq.at_ hb2 n2; have := hq.at_ hb5 n5; have := hq.at_ hAw5 nw; have := hq.at_ hAp5 na; refine jN rfl rfl rfl (jz ?_); exact ⟨rfl, rfl⟩; apply jjT; exact rfl; rintro w' hq; have := hq.at_ hb2 n2; have := hq.at_ hb5 n5; have := hq.at_ hAw5 nw; have := hq.at_ hAp5 na; refine jI (eI rfl) (jz ?_); exact ⟨rfl, rfl⟩; apply jjT; exact rfl; rintro w' hq; have := hq.at_ hb2 n2; have := hq.at_ hb5 n5; have := hq.at_ hAw5 nw; have := hq.at_ hAp5 na; refine jG rfl rfl rfl (by omega) (jz ?_); exact ⟨rfl, rfl⟩; apply jjT; exact rfl; rintro w' hq; have := hq.at_ hb2 n2; have := hq.at_ hb5 n5; have := hq.at_ hAw5 nw; have := hq.at_ hAp5 na; refine jQ rfl rfl (jz ?_); exact ⟨rfl, rfl⟩; apply jjT; exact rfl; rintro w' hq; have := hq.at_ hb2 n2; have := hq.at_ hb5 n5; have := hq.at_ hAw5 nw; have := hq.at_ hAp5 na; refine jm (jn rfl (jz ?_)); exact ⟨rfl, rfl⟩; apply jjT; exact rfl; rintro w' hq; have := hq.at_ hb2 n2; have := hq.at_ hb5 n5; have := hq.at_ hAw5 nw; have := hq.at_ hAp5 na; refine jN rfl rfl rfl (jz ?_); exact ⟨rfl, rfl⟩; apply jjT; exact rfl; rintro w' hq; have := hq.at_ hb2 n2; have := hq.at_ hb5 n5; have := hq.at_ hAw5 nw; have := hq.at_ hAp5 na; refine jm (jn rfl (jz ?_)); exact ⟨rfl, rfl⟩; apply jjT; exact rfl; rintro w' hq; have := hq.at_ hb2 n2; have := hq.at_ hb5 n5; have := hq.at_ hAw5 nw; have := hq.at_ hAp5 na; refine jN rfl rfl rfl (jz ?_); exact ⟨rfl, rfl⟩; apply jjT; exact rfl; rintro w' hq; have := hq.at_ hb2 n2; have := hq.at_ hb5 n5; have := hq.at_ hAw5 nw; have := hq.at_ hAp5 na; refine jI (eI rfl) (jz ?_); exact ⟨rfl, rfl⟩; refine jjU ?_))))
  refine jjV [15] (by decide +kernel) (.ofExt hC) (jjT (v := cutV (some ⟨bw, ow, none⟩) wc 1 st.1 i) rfl (fun w' q1 => ?_) (jjU ?_)); (refine Ops.sliceLHv (lo := st.1) (hi := i) rfl rfl rfl rfl rfl (by omega) (by omega) ?_; refine jz ?_; exact ⟨rfl, rfl⟩)
  (refine jjV [17, 18, 19, 20, 21, 22, 23] ?_ ?_ ?_; (decide +kernel); (exact .ofExt hC); (((apply jjT; exact rfl; rintro w' hq; have := hq.at_ hb2 n2; have := hq.at_ hb5 n5; refine jm (jn rfl (jz ?_)); exact ⟨rfl, rfl⟩; apply jjT; exact rfl; rintro w' hq; have := hq.at_ hb2 n2; have := hq.at_ hb5 n5; refine jN rfl rfl rfl (jz ?_); exact ⟨rfl, rfl⟩; apply jjT; exact rfl; rintro w' hq; have := hq.at_ hb2 n2; have := hq.at_ hb5 n5; refine jI (eI rfl) (jz ?_); exact ⟨rfl, rfl⟩; apply jjT; exact rfl; rintro w' hq; have := hq.at_ hb2 n2; have := hq.at_ hb5 n5; refine jY rfl rfl (by omega) (jz ?_); exact ⟨rfl, rfl⟩; apply jjT; exact rfl; rintro w' hq; have := hq.at_ hb2 n2; have := hq.at_ hb5 n5; refine jm (jn rfl (jz ?_)); exact ⟨rfl, rfl⟩; apply jjT; exact rfl; rintro w' hq; have := hq.at_ hb2 n2; have := hq.at_ hb5 n5; refine jN rfl rfl rfl (jz ?_); exact ⟨rfl, rfl⟩; apply jjT; exact rfl; rintro w' hq; have := hq.at_ hb2 n2; have := hq.at_ hb5 n5; refine jY rfl rfl (by omega) (jz ?_); exact ⟨rfl, rfl⟩; refine jjU ?_))))
  refine jjV [24] (by decide +kernel) (.ofExt hC) (jjT (v := cutV (some ⟨bw, ow, none⟩) wc 1 (i + 1) (st.2 + 1)) rfl (fun w' q1 => ?_) (jjU ?_)); (refine Ops.sliceLHv (lo := i + 1) (hi := st.2 + 1) rfl rfl rfl rfl rfl (by omega) (by omega) ?_; refine jz ?_; exact ⟨rfl, rfl⟩)
  (apply jjW 16; (decide +kernel); exact rfl; (exact .ofExt hC))
  refine jjQ (Join_str _ _ _ ((ws.take i).drop st.1) _ (by rw [List.length_drop, List.length_take]; omega) (hc1.ext (hE5.trans hC)) (joinB_fit hsz hn _ _)) rfl rfl ?_
  rintro _ wD hSD rfl
  refine jz ?_
  have hD : Ext w_b5 wD := hC.trans hSD.ext
  (apply jjW 25; (decide +kernel); exact rfl; (exact .ofExt hD))
  refine jjQ (Join_str _ _ _ ((ws.take (st.2 + 1)).drop (i + 1)) _ (by rw [List.length_drop, List.length_take]; omega) (hc2.ext (hE5.trans hD)) (joinB_fit hsz hn _ _)) rfl rfl ?_
  rintro _ wE hSE rfl
  refine jz ?_
  have hE : Ext w_b5 wE := hD.trans hSE.ext
  (apply jjW 26; (decide +kernel); exact rfl; (exact .ofExt hE))
  (refine jjS (cells := [.int .i64 p.1, .int .i64 p.2.1, .int .i64 p.2.2, .string ws[i], .string (joinB ((ws.take i).drop st.1)), .string (joinB ((ws.take (st.2 + 1)).drop (i + 1)))]) ?_ ?_; exact rfl)
  refine jz ?_
  (apply jjW 27; (decide +kernel); exact rfl; (exact .ofExt hE))
  have h4E := hb4.ext hE
  refine Ops.store rfl rfl rfl rfl rfl ?_
  intro wF hpF
  refine jz ?_
  refine jjX (by decide +kernel) ((Only.ofExt hE).trans (.ofPut hpF)) ?_
  have k4 : At wF b4 0 [.int .i64 p.1, .int .i64 p.2.1, .int .i64 p.2.2, .string ws[i], .string (joinB ((ws.take i).drop st.1)), .string (joinB ((ws.take (st.2 + 1)).drop (i + 1)))] := Bk.toAt (h := ⟨hpF.new⟩)
  (refine jjF ?_)
  refine fin1C rfl rfl rfl rfl rfl ⟨hpF.ext (hE5.trans hE) (by omega), rfl⟩

/-- A text in the variable bt, a cut in the variable bc, and the table of sides. -/
structure SlF (bt bc : Nat) (a : Option Addr) (c : Nat) (cs : List Ch) (wd side : Int) (w : World) : Prop where
  txt : At w bt 0 [.slice a cs.length c]
  cut : At w bc 0 [.int .i64 wd, .int .u8 side]
  row : RowV w true 2 (.slice a cs.length c) (cs.map encCh)
  tx : TextI w cs
  sd : At w 1 0 sidesC
abbrev encSl1 (s : Slp) : List Value := [encSl s]
theorem cutB_in {wd side : Int} (h : cutB wd side = true) : 12 ≤ wd ∧ wd ≤ 80 ∧ 1 ≤ side ∧ side ≤ 3 := cutB_width h
theorem rnW_fit {cs : List Ch} {wd side : Int} (ht : textB (txF cs) = true) (hc : cutB wd side = true) {k : Nat} (hk : k < cs.length) : ∀ s ∈ rnW cs[k], (s.size : Int) ≤ wd := fun s h => by
  have := word_short ht (k := k) (by rw [txF_len]; exact hk) (s := s) (by rw [wsT_get hk]; exact h)
  have := cutB_in hc
  omega
set_option maxHeartbeats 2000000 in
theorem slips1_slip (bt bc : Nat) (a : Option Addr) (c : Nat) (cs : List Ch) (wd side : Int) (hs : SmallT cs) (ht : textB (txF cs) = true) (hc : cutB wd side = true) :
    Iter Tryz.prog 140 [.pointer (some ⟨bt, 0, none⟩), .pointer (some ⟨bc, 0, none⟩)] (allS (txF cs) side wd) encSl1 (SlF bt bc a c cs wd side) := by
  intro l J Jx M w hJ hJx hF hM1 hM2 hY h0
  have hs1 := hs.1
  have hcb := cutB_in hc
  have hF0 := hF 0 w h0
  have := hF0.txt
  refine Calls.ofW (by simp) ?_
  (refine jjB (jjC (jm (jn rfl (jN rfl rfl rfl (jh rfl ?_))))); refine jI (eI rfl) (jz (jjD ?_)))
  refine W.keep0 [(0, .func (.yield l) #[] #[]), (1, .pointer (some ⟨bt, 0, none⟩)), (2, .pointer (some ⟨bc, 0, none⟩)), (9, .int .i64 (cs.length : Int)), (10, .int .i64 ((0 : Nat) : Int))] ⟨eF rfl, eP rfl, eP rfl, eI rfl, eI rfl, trivial⟩ fun s0 => ?_
  refine W.loopG (11 :: 12 :: 4 :: 13 :: 14 :: 15 :: 16 :: 5 :: 17 :: 18 :: 19 :: 20 :: 21 :: 22 :: 6 :: 23 :: 24 :: 25 :: 26 :: 27 :: 28 :: 29 :: 30 :: 10 :: []) (fun g s' w' => ∃ k : Nat, s' 10 = .int .i64 ((k : Nat) : Int) ∧ k ≤ cs.length ∧ g = cs.length - k ∧ J (slA (txF cs) side wd k).length w') cs.length ⟨0, rfl, by omega, rfl, h0⟩ ?_
  rintro _ sd w' ⟨k, h10, hk, rfl, hJk⟩
  refine W.fix h10 ?_
  clear h10
  have hFk := hF _ _ hJk
  have := hFk.txt
  have := hFk.cut
  by_cases hkc : k < cs.length
  rotate_left
  · obtain rfl : k = cs.length := by omega
    (refine jjB (jjC (jja rfl rfl (by omega) (jz (jjB (jjK rfl ?_))))); refine jjE ?_; refine jA rfl ⟨⟨_, rfl⟩, ?_⟩)
    refine .inl ?_
    rw [← slA_end, txF_len]; exact hJk
  have i1 : RowI w' (.slice a cs.length c) true 2 (cs.map encCh) := ⟨hFk.row⟩
  have i2 : TextI w' cs := hFk.tx
  (refine jjB (jjC (jjZ rfl rfl (by omega) (jz (jjB (jjJ rfl ?_))))); refine jjG (jjB (jjD (jjB (jjC (jI (eI rfl) ?_))))); refine jJ (eI rfl) (jz (jjB (jjC (jO rfl rfl rfl rfl (jO rfl rfl rfl rfl ?_))))); refine jI (eI rfl) ?_)
  have hget : ∀ i (_ : i < (rnW cs[k]).length), ∃ p, (runA k (chW cs[k]))[i]? = some p ∧ (allS (txF cs) side wd)[(slA (txF cs) side wd k).length + i]? = some (slipX (rnW cs[k]) side wd i p) := fun i hi => by
    have hi2 : i < (runA k (chW cs[k])).length := by rw [runA_len]; exact hi
    obtain ⟨p, hp0⟩ : ∃ p, (runA k (chW cs[k]))[i]? = some p := ⟨_, List.getElem?_eq_getElem hi2⟩
    have hp := hp0
    rw [← wsT_get hkc] at hp
    have h1 := slA_get (side := side) (W := wd) (n := (txF cs).length) (by rw [txF_len]; exact hkc) hp
    rw [slA_end, slP_eq (by rw [txF_len]; exact hkc) hp, wsT_get hkc] at h1
    exact ⟨p, hp0, h1⟩
  have hnext : (slA (txF cs) side wd k).length + (rnW cs[k]).length = (slA (txF cs) side wd (k + 1)).length := by
    rw [slA_succ, List.length_append, slsN_len (Nat.le_refl _), wsT_get hkc]
  obtain ⟨hn, hsz⟩ := rnW_small hs hkc
  have hwi := rnW_fit ht hc hkc
  have hlen : (runA k (chW cs[k])).length = (rnW cs[k]).length := runA_len _ _
  refine jjQ (runs_slip a c cs _ hs wd side k hkc) rfl rfl ?_
  rintro _ w2 hS2 ⟨wv, av, rfl, hOw, hOa⟩
  generalize rnW cs[k] = ws at *
  generalize runA k (chW cs[k]) = ps at *
  generalize (slA (txF cs) side wd k).length = L at *
  obtain ⟨wa, wc, rfl⟩ := hOw.slice
  obtain ⟨aa, ac, rfl⟩ := hOa.slice
  rw [List.length_map] at hOw hOa ⊢
  rw [List.length_map]
  skip
  (apply jjR rfl; (intro _; first|exact eI rfl|exact eB rfl|exact eP rfl|exact eS rfl|exact eT rfl|exact eA rfl|exact eU rfl|exact eF rfl|exact eM rfl|exact eN rfl|exact rfl); exact rfl; exact rfl; exact rfl; exact rfl; intro b5 w_b5 hb_b5 hs_b5 hS_b5 hk_b5; have hA_b5 := Bk.of hk_b5)
  (refine jz (jjB (jjC (jm (jn rfl (jN rfl rfl rfl ?_))))); refine jh rfl (jI (eI rfl) (jz (jjD ?_))))
  have hE5 : Ext w' w_b5 := hS2.ext.trans hS_b5.ext
  have hJ5 := hJ _ _ _ hJk hE5
  have hMx : ∀ g, w'.heap.size ≤ g → ¬ M w_b5 g := fun g hg hm => by
    have := hM1 _ _ _ hJk (hM2 _ _ _ _ hJk hE5 hm)
    omega
  have z2 := hS2.size
  have hOw0 := hOw
  have hOa0 := hOa
  refine W.keep [(0, .func (.yield l) #[] #[]), (1, .pointer (some ⟨bt, 0, none⟩)), (2, .pointer (some ⟨bc, 0, none⟩)), (9, .int .i64 (cs.length : Int)), (10, .int .i64 ((k : Nat) : Int)), (5, .pointer (some ⟨b5, 0, none⟩)), (19, .int .i64 (ws.length : Int)), (20, .int .i64 ((0 : Nat) : Int))] (D := (11 :: 12 :: 4 :: 13 :: 14 :: 15 :: 16 :: 5 :: 17 :: 18 :: 19 :: 20 :: 21 :: 22 :: 6 :: 23 :: 24 :: 25 :: 26 :: 27 :: 28 :: 29 :: 30 :: 10 :: [])) (sO := upds s0 _) (by (((iterate 13 refine Same.upd rfl ?_); exact Same.ovN))) ⟨eF rfl, eP rfl, eP rfl, eI rfl, eI rfl, eP rfl, eI rfl, eI rfl, trivial⟩ fun s1 hs1' => ?_
  refine W.loopG (21 :: 22 :: 6 :: 23 :: 24 :: 25 :: 26 :: 27 :: 28 :: 29 :: 20 :: []) (fun g s' V => ∃ i : Nat, s' 20 = .int .i64 ((i : Nat) : Int) ∧ i ≤ ws.length ∧ g = ws.length - i ∧ J (L + i) V ∧ Bk V b5 [.int .i64 wd, .int .u8 side, .slice wa ws.length wc, .slice aa ps.length ac] 196 ∧ (∀ g, w'.heap.size ≤ g → g < w_b5.heap.size → ¬ M V g) ∧ w_b5.heap.size ≤ V.heap.size ∧ OwnL V w'.heap.size 9 false 1 (.slice wa ws.length wc) (ws.map strV) ∧ OwnL V w'.heap.size 47 true 3 (.slice aa ps.length ac) (ps.map encPl)) ws.length ⟨0, rfl, by omega, rfl, hJ5, inferInstance, fun g hg _ => hMx g hg, Nat.le_refl _, hOw.ext hS_b5.ext, hOa.ext hS_b5.ext⟩ ?_
  rintro _ sd2 V ⟨i, h20, hi, rfl, hJi, hB5, hMV, hzV, hOw, hOa⟩
  refine W.fix h20 ?_
  clear h20
  by_cases hil : i < ws.length
  rotate_left
  · obtain rfl : i = ws.length := by omega
    (refine jjB (jjC (jja rfl rfl (by omega) (jz (jjB (jjK rfl ?_))))); refine jjE (jjC (jY rfl rfl (by omega) (jI (eI rfl) (jz ?_)))))
    exact ⟨rfl, by (((iterate 4 refine Same.upd rfl ?_); refine Same.ovN' rfl ?_; assumption)), cs.length - (k + 1), by omega, k + 1, congrArg (Value.int .i64) (by omega), by omega, rfl, hnext ▸ hJi⟩
  obtain ⟨p, hp, hall⟩ := hget i hil
  have := Bk.toAt (h := hB5)
  have hRw := hOw.row
  have hRa := hOa.row
  have hgs := (hF _ _ hJi).sd
  (refine jjB (jjC (jjZ rfl rfl (by omega) (jz (jjB (jjJ rfl ?_))))); refine jjG (jjB (jjD (jjB (jjC (jI (eI rfl) ?_))))); refine jJ (eI rfl) (jz (jjB (jjC (jI (eF rfl) (jO rfl rfl rfl rfl ?_))))); refine jI (eI rfl) ?_)
  refine jjQ (slip_slip ws ps wd side i p wa wc aa ac _ hp hlen hsz hn (by omega) (by omega) hwi hRw hRa hgs) rfl rfl ?_
  rintro _ V2 hSV rfl
  have hJ2 := hJ _ _ _ hJi hSV.ext
  have hB52 := hB5.ext hSV.ext
  have hM2' : ∀ g, w'.heap.size ≤ g → g < w_b5.heap.size → ¬ M V2 g := fun g h1 h2 hm => hMV g h1 h2 (hM2 _ _ _ _ hJi hSV.ext hm)
  have hOw2 := hOw.ext hSV.ext
  have hOa2 := hOa.ext hSV.ext
  have zV2 := hSV.size
  skip
  refine Ops.yield (hY _ _ _ hall hJ2) rfl rfl ?_
  rintro e V3 (⟨rfl, hJ3, hFr⟩ | ⟨rfl, hJx3⟩)
  · refine ⟨_, rfl, ?_⟩
    (refine jp rfl (jz (jjK rfl (jjG (jjC (jY rfl rfl (by omega) ?_))))); refine jI (eI rfl) (jz ?_))
    have zF := hFr.size
    exact ⟨rfl, by (((iterate 12 refine Same.upd rfl ?_); exact Same.ovN)), ws.length - (i + 1), by omega, i + 1, congrArg (Value.int .i64) (by omega), by omega, rfl, hJ3, ⟨hFr.keep _ _ hB52.h rfl (hM2' b5 (by omega) (by omega))⟩, fun g h1 h2 hm => (hFr.own g hm).elim (hM2' g h1 h2) (fun h => by omega), by omega, hOw2.fr hFr (fun g hg => hM2' g (hOw0.block g hg).1 (by have := (hOw0.block g hg).2; omega)), hOa2.fr hFr (fun g hg => hM2' g (hOa0.block g hg).1 (by have := (hOa0.block g hg).2; omega))⟩
  · refine ⟨_, rfl, ?_⟩
    (refine jq rfl (jz (jjJ rfl (jjF ?_))); refine jA rfl ⟨⟨_, rfl⟩, ?_⟩)
    exact .inr ⟨_, (List.getElem?_eq_some_iff.1 hall).1, hJx3⟩
theorem slips_slip (a : Option Addr) (c : Nat) (cs : List Ch) (wd side : Int) (w : World) : Ct Tryz.prog 112 [.agg #[.slice a cs.length c], encCut wd side] w fun v w' => ∃ bt bc, v = .func (.func 140) #[] ([.pointer (some ⟨bt, 0, none⟩), .pointer (some ⟨bc, 0, none⟩)] : List Value).toArray ∧ (w.heap.size ≤ bt ∧ w.heap.size ≤ bc) ∧ At w' bt 0 [.slice a cs.length c] ∧ At w' bc 0 [.int .i64 wd, .int .u8 side] := by
  refine Ct.ofW (by simp) ?_
  (refine jjB (jjC ?_))
  (refine jy rfl ?_; intro bt w_bt hb_bt hs_bt hS_bt hk_bt; have hA_bt := At.ofBlock hk_bt)
  skip
  (refine jy rfl ?_; intro bc w_bc hb_bc hs_bc hS_bc hk_bc; have hA_bc := At.ofBlock hk_bc)
  (refine jJ rfl (jz (jjB (jjC (jv (jJ (eF rfl) ?_))))); refine jz (jjF ?_); refine jB rfl rfl ⟨inferInstance, ?_⟩)
  exact ⟨bt, bc, rfl, ⟨by omega, by omega⟩, inferInstance, inferInstance⟩

noncomputable def allR (t : Tx) (wd side : Int) : List Slp := if askE t wd side = 0 then allS t side wd else []
theorem askE_zero {t : Tx} {wd side : Int} (h : askE t wd side = 0) : textB t = true ∧ cutB wd side = true := by
  unfold askE at h
  split at h
  · split at h
    · exact ⟨by assumption, by assumption⟩
    · omega
  · omega
theorem askE_in (t : Tx) (wd side : Int) : askE t wd side = 0 ∨ askE t wd side = 10 ∨ askE t wd side = 30 := by
  unfold askE
  split
  · split
    · exact .inl rfl
    · exact .inr (.inr rfl)
  · exact .inr (.inl rfl)
theorem chap_len {t : Tx} (h : textB t = true) {k : Nat} (hk : k < t.length) : (wsT t k).flatten.length ≤ 100 := by
  simp only [textB, Bool.and_eq_true, List.all_eq_true] at h
  have hm : t.getD k (0, []) ∈ t := by rw [List.getD_eq_getElem?_getD, List.getElem?_eq_getElem hk, Option.getD_some]; exact List.getElem_mem hk
  have h1 := h.1.2 _ hm
  simp only [chapB, Bool.and_eq_true, List.all_eq_true] at h1
  have h3 := flatW_len (x := wsT t k) (m := 10) fun y hy => by
    have h2 := h1.2 y hy
    simp only [lineB, inB, Bool.and_eq_true, decide_eq_true_eq] at h2
    omega
  have h4 : (wsT t k).length ≤ 10 := by
    have := h1.1.2
    simp only [inB, decide_eq_true_eq] at this
    show (t.getD k (0, [])).2.length ≤ 10
    omega
  have := Nat.mul_le_mul_right 10 h4
  omega
theorem allP_len {t : Tx} (h : textB t = true) : ∀ {n : Nat}, n ≤ t.length → (allP t n).length ≤ n * 100
  | 0, _ => by simp [allP]
  | n + 1, hn => by
    rw [allP_succ, List.length_append, runA_len]
    have h1 := allP_len h (n := n) (by omega)
    have h2 := chap_len h (k := n) (by omega)
    omega
theorem textB_six {t : Tx} (h : textB t = true) : t.length ≤ 6 := by
  simp only [textB, Bool.and_eq_true] at h
  have := h.1.1
  simp only [inB, decide_eq_true_eq] at this
  omega
theorem allS_len {t : Tx} {side wd : Int} (h : textB t = true) : (allS t side wd).length ≤ 600 := by
  rw [allS, List.length_map]
  have h1 := allP_len h (Nat.le_refl t.length)
  have h2 := textB_six h
  have := Nat.mul_le_mul_right 100 h2
  omega

section
variable (a : Option Addr) (c : Nat) (cs : List Ch) (wd side : Int) (w : World) [hrow : RowI w (.slice a cs.length c) true 2 (cs.map encCh)] [hT : TextI w cs] [hgs : At w 1 0 sidesC]
end

theorem App.fr {M : World → Nat → Prop} {B : Nat} {w w' : World} {v : Value} (a : App B w w' v) (hM : ∀ k, v.ownBlock = some k → M w k) (ho : ∀ k, M w' k → M w k ∨ w.heap.size ≤ k) : Fr M w w' :=
  ⟨a.g.size, fun k _ hk _ hm => a.other hk (fun e => hm (hM k e)), ho⟩
theorem one_sl (x : Slp) : [encSl x].all (fun v => v.cells.toList.all (·.oneCell')) = true := rfl
theorem AppendSeq_sl (xs : List Slp) (gf : Nat) (lb : List Value) (Fct : World → Prop) (w : World) (hit : Iter Tryz.prog gf lb xs (fun s => [encSl s]) Fct) [he : Enters Tryz.prog gf] (hF : ∀ w', Ext w w' → Fct w') (hlen : xs.length ≤ 1000000) :
    Ct Tryz.prog 139 [.slice none 0 0, .func (.func gf) #[] lb.toArray] w fun v w' => OwnL w' w.heap.size 49 true 6 v (xs.map encSl) := by
  refine Ct.ofWM (by simp) ?_
  (refine jjB (jjC ?_))
  (refine jy rfl ?_; intro b2 w_b2 hb_b2 hs_b2 hS_b2 hk_b2; have hA_b2 := At.ofBlock hk_b2)
  have hBk := Bk.of (cs := [.slice none 0 0]) hk_b2
  (refine jJ (eS rfl) (jz (jjB (jjB (jjC (jI (eF rfl) ?_))))); refine jz (jjD ?_))
  have hsz := hS_b2.size
  refine W.rangeM w.heap.size xs (fun s => [encSl s]) hit rfl (fun _ => rfl) trivial inferInstance hsz
    (fun i V => Ext w V ∧ w_b2.heap.size ≤ V.heap.size ∧ ∃ v, Bk V b2 [v] 44 ∧ OwnL V w_b2.heap.size 49 true 6 v ((xs.take i).map encSl))
    (fun _ _ _ => False) ?hJ (fun _ _ _ _ h _ => h) (fun i V h => hF V h.1) ⟨inferInstance, Nat.le_refl _, _, hBk, OwnL.nil _ _ _ _ _⟩
    (MB w_b2.heap.size b2) ?hW1 ?hW2 ?hW3 (fun x s' V => ∃ b5, s' 2 = .pointer (some ⟨b2, 0, none⟩) ∧ s' 5 = .pointer (some ⟨b5, 0, none⟩) ∧ Bk V b5 (encSl x).cells.toList 49) (fun x s V V' ⟨b5, h1, h2, h3⟩ g => ⟨b5, h1, h2, h3.grow g⟩) ?hassign ?hbody ?hdone (fun _ _ _ _ _ _ _ h => h.elim)
  case hJ =>
    rintro i V V' ⟨h1, h2, v, h3, h4⟩ g
    exact ⟨h1.ofGrow g hsz, Nat.le_trans h2 g.size, v, h3.grow g, h4.grow g⟩
  case hW1 => exact fun i V k ⟨h1, h2, v, h3, h4⟩ h => MB.lt h2 h3 h4 h
  case hW2 => exact fun i V V' k ⟨h1, h2, v, h3, h4⟩ g h => MB.back h3 g h
  case hW3 => exact fun V V' k g h => .inl (MB.grow (by omega) g h)
  case hassign =>
    rintro l i x V hx ⟨h1, h2, v, h3, h4⟩ hl hr
    (refine jjC ?_)
    (apply jjR rfl; (intro _; first|exact eI rfl|exact eB rfl|exact eP rfl|exact eS rfl|exact eT rfl|exact eA rfl|exact eU rfl|exact eF rfl|exact eM rfl|exact eN rfl|exact rfl); exact rfl; exact rfl; exact rfl; exact rfl; intro b5 w_b5 hb_b5 hs_b5 hS_b5 hk_b5; have hA_b5 := Bk.of hk_b5)
    (refine jz ?_)
    exact ⟨rfl, hS_b5.ext.tr, Fr.ofExt hS_b5.ext fun k hk => .inl (MB.same h3 (h3.ext hS_b5.ext) hk), ⟨h1.trans hS_b5.ext, by have := hS_b5.size; omega, v, h3.ext hS_b5.ext, h4.ext hS_b5.ext⟩, b5, rfl, rfl, inferInstance⟩
  case hbody =>
    rintro l i x s' V hx ⟨h1, h2, v, h3, h4⟩ ⟨b5, ha2, ha5, hb5⟩ hl hr
    have hlt := (List.getElem?_eq_some_iff.1 hx).1
    refine W.fix (d := 2) ha2 (W.fix (d := 5) ha5 ?_)
    have hb5' : Bk V b5 [.int .i64 x.1.1, .int .i64 x.1.2.1, .int .i64 x.1.2.2, .string x.2.1, .string x.2.2.1, .string x.2.2.2] 49 := hb5
    (refine jjD (jjC (jN rfl rfl rfl (jO rfl rfl rfl rfl ?_))))
    (refine jjP (v := .agg _) rfl (by exact rfl) (by exact rfl) (by exact rfl) (by exact rfl) ?_; intro b10 w_b10 hb_b10 hs_b10 hS_b10 hk_b10; have hR_b10 := RowV.one (agg := true) (k := 6) rfl hk_b10)
    have hown := h4.ext hS_b10.ext
    have hz10 := hS_b10.size
    have hR1 : RowV w_b10 true 6 (.slice (some ⟨b10, 0, none⟩) 1 1) [encSl x] := hR_b10
    refine Ops.appendL hown (by omega) hR1 rfl rfl rfl rfl (one_sl x) ?_ ?_ ?_
    · simp; omega
    · simp; omega
    intro v2 V2 hA hO _ hown2
    obtain ⟨a2, c2, rfl⟩ := hO.slice
    have hb2 : ∀ g, v.ownBlock = some g → w_b2.heap.size ≤ g := fun g hg => (h4.block g hg).1
    have hne : v.ownBlock ≠ some b2 := fun e => by have := hb2 b2 e; omega
    have hB2 : Bk V2 b2 [v] 44 := hA.bk (h3.ext hS_b10.ext) hne
    skip
    refine Ops.store rfl rfl rfl rfl rfl ?_
    intro V3 hp3
    (refine jz ?_)
    have hB3 : Bk V3 b2 [.slice a2 (List.map encSl (xs.take i) ++ [encSl x]).length c2] 44 := ⟨hp3.new⟩
    have hne2 : (Value.slice a2 (List.map encSl (xs.take i) ++ [encSl x]).length c2).ownBlock ≠ some b2 := fun e => by rcases hown2 with h | h <;> rw [h] at e; exact hne e; cases e; omega
    refine ⟨(hS_b10.ext.tr.trans hA.tr).trans (hp3.tr ⟨_, hB2.h, rfl⟩), ?_, hp3.ext (hA.ext (h1.trans hS_b10.ext) hsz) (by omega), ?_, _, hB3, ?_⟩
    · exact (Fr.ofExt hS_b10.ext fun k hk => .inl (MB.same h3 (h3.ext hS_b10.ext) hk)).trans (MB.append (by omega) (h3.ext hS_b10.ext) hA hp3 hB3 hown2)
    · have := hA.g.size; rw [hp3.size]; omega
    · rw [take_snoc_get hx, List.map_append]
      exact hO.put hp3 hne2
  case hdone =>
    rintro ds' V hmk htr ⟨h1, h2, v, h3, h4⟩
    have := h3
    (refine jjB (jjC (jN rfl rfl rfl (jJ rfl (jz (jjF ?_))))))
    refine fin1M rfl rfl hmk fun w' g => ⟨h1.ofGrow g (Nat.le_refl _), ?_⟩
    rw [List.take_length] at h4
    exact (h4.grow g).mono hsz
theorem Collect_sl (xs : List Slp) (gf : Nat) (lb : List Value) (Fct : World → Prop) (w : World) (hit : Iter Tryz.prog gf lb xs (fun s => [encSl s]) Fct) [he : Enters Tryz.prog gf] (hF : ∀ w', Ext w w' → Fct w') (hlen : xs.length ≤ 1000000) :
    Ct Tryz.prog 111 [.func (.func gf) #[] lb.toArray] w fun v w' => OwnL w' w.heap.size 49 true 6 v (xs.map encSl) := by
  refine Ct.ofW (by simp) ?_
  (((refine jjB (jjC (jJ (eS rfl) (jz (jjB (jjC ?_))))); refine jI (eF rfl) ?_)); refine jjQ (AppendSeq_sl xs gf lb Fct w hit hF hlen) rfl rfl ?_)
  rintro v w2 hS2 hO
  (refine jJ rfl (jz (jjF ?_)); refine jB rfl rfl ⟨inferInstance, ?_⟩)
  exact hO

section
variable (a : Option Addr) (c : Nat) (cs : List Ch) (wd side : Int) (w : World) [hrow : RowI w (.slice a cs.length c) true 2 (cs.map encCh)] [hT : TextI w cs] [hgs : At w 1 0 sidesC]
theorem All_slip (hs : SmallT cs) (hd : 0 ≤ side ∧ side ≤ 255) : Ct Tryz.prog 78 [.agg #[.slice a cs.length c], encCut wd side] w fun v w' => ∃ sv, v = .tuple #[sv, .int .i64 (askE (txF cs) wd side)] ∧ OwnL w' w.heap.size 49 true 6 sv ((allR (txF cs) wd side).map encSl) := by
  refine Ct.ofW (by simp) ?_
  (refine jjB (jjC ?_))
  (refine jy rfl ?_; intro b2 w_b2 hb_b2 hs_b2 hS_b2 hk_b2; have hA_b2 := At.ofBlock hk_b2)
  skip
  (refine jy rfl ?_; intro b3 w_b3 hb_b3 hs_b3 hS_b3 hk_b3; have hA_b3 := At.ofBlock hk_b3)
  (refine jJ (eS rfl) (jJ (eI rfl) (jz (jjB (jjB (jjC ?_))))); refine jO rfl rfl rfl rfl (jO rfl rfl rfl rfl ?_))
  obtain ⟨e, he⟩ : ∃ e, askE (txF cs) wd side = e := ⟨_, rfl⟩
  have h3 := askE_in (txF cs) wd side
  rw [he] at h3
  refine jjQ ((open_slip a c cs wd side _ hs hd).mono fun v _ _ h => h.trans (by rw [he])) rfl rfl ?_
  rintro _ w8 hS8 rfl
  by_cases h0 : e = 0
  rotate_left
  · (refine jJ (eI rfl) (jz (jjB (jjC (jI (eI rfl) (jjj rfl rfl (by omega) ?_))))); refine jz (jjJ rfl (jjB (jjC (jI (eI rfl) (jJ (eS rfl) ?_))))); refine jJ (eI rfl) (jz (jjF ?_)); refine jC rfl rfl rfl ⟨inferInstance, ?_⟩)
    rw [he, allR, if_neg (by rw [he]; exact h0)]
    exact ⟨_, rfl, OwnL.nil _ _ _ _ _⟩
  subst h0
  obtain ⟨ht, hc⟩ := askE_zero he
  (refine jJ (eI rfl) (jz (jjB (jjC (jI (eI rfl) (jjk rfl rfl (by omega) ?_))))); refine jz (jjK rfl (jjG (jjB (jjC (jO rfl rfl rfl rfl ?_))))); refine jO rfl rfl rfl rfl ?_)
  refine jjQ (slips_slip a c cs wd side _) rfl rfl ?_
  rintro _ w9 hS9 ⟨bt, bc, rfl, _, hA1, hA2⟩
  have hE9 : Ext w w9 := inferInstance
  skip
  refine jjQ (Collect_sl (allS (txF cs) side wd) _ _ _ _ (slips1_slip bt bc a c cs wd side hs ht hc) (fun w' h => ⟨hA1.ext h, hA2.ext h, hrow.h.ext (hE9.trans h), hT.ext (hE9.trans h), hgs.ext (hE9.trans h)⟩) (by have := allS_len (side := side) (wd := wd) ht; omega)) rfl rfl ?_
  rintro sv wA hSA hO
  (refine jJ rfl (jJ (eI rfl) (jz (jjF ?_))); refine jC rfl rfl rfl ⟨inferInstance, ?_⟩)
  rw [he, allR, if_pos he]
  exact ⟨sv, rfl, hO.mono hE9.size⟩
end

section
variable (a : Option Addr) (c : Nat) (cs : List Ch) (wd side : Int) (w : World) [hrow : RowI w (.slice a cs.length c) true 2 (cs.map encCh)] [hT : TextI w cs] [hgs : At w 1 0 sidesC]
end

section
variable (a : Option Addr) (c : Nat) (cs : List Ch) (w : World) [hrow : RowI w (.slice a cs.length c) true 2 (cs.map encCh)] [hT : TextI w cs]
end



section
variable (a : Option Addr) (c : Nat) (cs : List Ch) (w : World) [hrow : RowI w (.slice a cs.length c) true 2 (cs.map encCh)] [hT : TextI w cs]
end

section
variable (a : Option Addr) (c : Nat) (cs : List Ch) (w : World) [hrow : RowI w (.slice a cs.length c) true 2 (cs.map encCh)] [hT : TextI w cs]
end

theorem makeF_mem {t : Tx} {side wd : Int} {p : Pl} {n : Nat} (h : p ∈ allP t n) (hn : n ≤ t.length) : makeF t side wd p = some (slP t side wd p) := by
  obtain ⟨k, hk, hm⟩ := mem_allP.1 h
  obtain ⟨i, hi, e⟩ := List.mem_iff_getElem.1 hm
  have hg : (runA k (wsT t k))[i]? = some p := by rw [List.getElem?_eq_getElem hi, e]
  rw [makeF_yes (by omega) hg, slP_eq (by omega) hg]
section
variable (a : Option Addr) (c : Nat) (cs : List Ch) (wd side : Int) (w : World) [hrow : RowI w (.slice a cs.length c) true 2 (cs.map encCh)] [hT : TextI w cs]
end

theorem lnP_sorted (k n q : Nat) : (lnP k n q).Pairwise fun a b => befP a b = true := by
  unfold lnP
  rw [List.pairwise_map]
  refine List.Pairwise.imp (R := (· < ·)) ?_ List.pairwise_lt_range
  intro a b h
  rw [befP_iff]; simp; omega
theorem runA_sorted (k : Nat) (x : List (List ByteArray)) : (runA k x).Pairwise fun a b => befP a b = true := by
  unfold runA runAn
  rw [List.pairwise_flatMap]
  refine ⟨fun i _ => lnP_sorted _ _ _, ?_⟩
  refine List.Pairwise.imp (R := (· < ·)) ?_ List.pairwise_lt_range
  intro a b h p hp q hq
  simp only [lnP, List.mem_map] at hp hq
  obtain ⟨_, _, rfl⟩ := hp
  obtain ⟨_, _, rfl⟩ := hq
  rw [befP_iff]; simp; omega
theorem allP_sorted (t : Tx) (n : Nat) : (allP t n).Pairwise fun a b => befP a b = true := by
  unfold allP
  rw [List.pairwise_flatMap]
  refine ⟨fun i _ => runA_sorted _ _, ?_⟩
  refine List.Pairwise.imp (R := (· < ·)) ?_ List.pairwise_lt_range
  intro a b h p hp q hq
  have h1 := runA_fst hp
  have h2 := runA_fst hq
  rw [befP_iff]; omega
theorem sorted_nodup {l : List Pl} (h : l.Pairwise fun a b => befP a b = true) : l.Nodup := by
  refine List.Pairwise.imp ?_ h
  intro a b hab e
  subst e; rw [befP_irr] at hab; cases hab

/-! ### Twice -/


section
variable {κ : Type} [DecidableEq κ]
abbrev NdG (m : List (κ × Value)) : Prop := (m.map (·.1)).Nodup
theorem mset_keysG (m : List (κ × Value)) (k : κ) (v : Value) : ∀ x, x ∈ (mset m k v).map (·.1) → x = k ∨ x ∈ m.map (·.1) := by
  induction m with
  | nil => intro x hx; simp [mset] at hx; exact .inl hx
  | cons p m ih =>
    obtain ⟨y, u⟩ := p
    intro x hx
    rw [mset] at hx
    split at hx
    · subst_vars; exact .inr hx
    · simp only [List.map_cons, List.mem_cons] at hx ⊢
      rcases hx with hx | hx
      · exact .inr (.inl hx)
      · rcases ih x hx with h | h
        · exact .inl h
        · exact .inr (.inr h)
theorem NdG.set {m : List (κ × Value)} (h : NdG m) (k : κ) (v : Value) : NdG (mset m k v) := by
  induction m with
  | nil => simp [NdG, mset]
  | cons p m ih =>
    obtain ⟨y, u⟩ := p
    simp only [NdG, List.map_cons, List.nodup_cons] at h
    rw [mset]
    split
    · subst_vars; simp only [NdG, List.map_cons, List.nodup_cons]; exact h
    · simp only [NdG, List.map_cons, List.nodup_cons]
      refine ⟨fun hc => ?_, ih h.2⟩
      rcases mset_keysG m k v y hc with e | e
      · rename_i hne; exact hne e.symm
      · exact h.1 e
theorem mget_noG {m : List (κ × Value)} {k : κ} (h : k ∉ m.map (·.1)) : mget m k = none := by
  induction m with
  | nil => rfl
  | cons p m ih =>
    obtain ⟨y, u⟩ := p
    simp only [List.map_cons, List.mem_cons, not_or] at h
    rw [mget, if_neg h.1, ih h.2]
theorem NdG.del {m : List (κ × Value)} (h : NdG m) (k : κ) : NdG (mdel m k) ∧ (∀ x, x ∈ (mdel m k).map (·.1) → x ∈ m.map (·.1)) ∧ ∀ x, mget (mdel m k) x = if x = k then none else mget m x := by
  induction m with
  | nil => simp [NdG, mdel, mget]
  | cons p m ih =>
    obtain ⟨y, u⟩ := p
    simp only [NdG, List.map_cons, List.nodup_cons] at h
    obtain ⟨i1, i2, i3⟩ := ih h.2
    rw [mdel]
    split
    · subst_vars
      refine ⟨h.2, fun x hx => by simp only [List.map_cons, List.mem_cons]; exact .inr hx, fun x => ?_⟩
      rw [mget]
      by_cases e : x = y
      · subst e; rw [if_pos rfl, mget_noG h.1]
      · rw [if_neg e, if_neg e]
    · rename_i hne
      refine ⟨?_, fun x hx => ?_, fun x => ?_⟩
      · simp only [NdG, List.map_cons, List.nodup_cons]
        exact ⟨fun hc => h.1 (i2 y hc), i1⟩
      · simp only [List.map_cons, List.mem_cons] at hx ⊢
        exact hx.imp id (i2 x)
      · rw [mget, mget, i3]
        by_cases e : x = y
        · subst e; rw [if_pos rfl, if_pos rfl, if_neg (fun h => hne h.symm)]
        · rw [if_neg e, if_neg e]
/-- A map that is a set: true for what is in it. -/
structure SetM (S : κ → Bool) (m : List (κ × Value)) : Prop where
  nd : NdG m
  get : ∀ x, mget m x = if S x then some (.bool true) else none
theorem SetM.nil : SetM (fun _ : κ => false) [] := ⟨by simp [NdG], fun x => rfl⟩
theorem SetM.congr {S S' : κ → Bool} {m : List (κ × Value)} (h : SetM S m) (e : ∀ x, S' x = S x) : SetM S' m := ⟨h.nd, fun x => by rw [h.get, e]⟩
theorem SetM.set {S : κ → Bool} {m : List (κ × Value)} (h : SetM S m) (k : κ) : SetM (fun x => decide (x = k) || S x) (mset m k (.bool true)) := ⟨h.nd.set k _, fun x => by
  by_cases e : x = k
  · subst e; rw [mget_set_same]; simp
  · rw [mget_set_other _ _ e, h.get]; simp [e]⟩
theorem SetM.del {S : κ → Bool} {m : List (κ × Value)} (h : SetM S m) (k : κ) : SetM (fun x => !decide (x = k) && S x) (mdel m k) := ⟨(h.nd.del k).1, fun x => by
  rw [(h.nd.del k).2.2]
  by_cases e : x = k
  · simp [e]
  · rw [if_neg e, h.get]; simp [e]⟩
theorem SetM.look {S : κ → Bool} {m : List (κ × Value)} (h : SetM S m) (k : κ) : (mget m k).getD (.bool false) = .bool (S k) := by
  rw [h.get]; cases S k <;> rfl
end

section
variable {P : Program} {κ : Type} [DecidableEq κ] {enc : κ → Value} {kt : Nat}
end

theorem MapN.app {κ : Type} [DecidableEq κ] {encK : κ → Value} {w w' : World} {b B st : Nat} {m : List (κ × Value)} {k : κ} {v : Value} (h : MapN encK w b m k st) (a : App B w w' v) (hne : v.ownBlock ≠ some b) : MapN encK w' b m k st := by
  obtain ⟨es, cl, i, h1, h2⟩ := h.h
  exact ⟨es, cl, i, a.other h1 hne, h2⟩
section rules
variable {P : Program} {ro : Option Nat} {n : Nat} {all rest : List Oper} {K : Sl → World → Prop} {s : Sl} {w : World} {d : Nat} {ty : Nat} {pos : String} {af : Array Edge}
variable {x y : Operand} {t : Nat}
theorem Ops.lookupV {κ : Type} [DecidableEq κ] {encK : κ → Value} {b kt et : Nat} {m : List (κ × Value)} {k : κ} {z v : Value} {size bytes : Nat} (hv : (mget m k).getD z = v) (hm : MapE encK w b m) (hx : ev n s x = .map (some b)) (hy : ev n s y = encK k) [hk : KeyL P kt encK] [ht : TMap P t kt et] [hz : TS P et z size bytes]
    (h : Ops P ro n all rest K (upd s d v) w) : Ops P ro n all (⟨some d, .lookup t x y false, ty, pos, af, none⟩ :: rest) K s w := by
  subst hv
  exact Ops.lookup hm hx hy h
end rules

section
variable (a : Option Addr) (c : Nat) (cs : List Ch) (wd side : Int) (la : Option Addr) (lc : Nat) (ls : List Slp) (w : World) [hrow : RowI w (.slice a cs.length c) true 2 (cs.map encCh)] [hT : TextI w cs] [hgs : At w 1 0 sidesC] [hmx : MxI w] [hl : RowI w (.slice la ls.length lc) true 6 (ls.map encSl)]
end

section
variable (a : Option Addr) (c : Nat) (cs : List Ch) (wd side : Int) (w : World) [hrow : RowI w (.slice a cs.length c) true 2 (cs.map encCh)] [hT : TextI w cs]
end

section
variable {t : Tx} {wd side : Int}
theorem allS_mem {s : Slp} (h : s ∈ allS t side wd) : makeF t side wd s.1 = some s ∧ s.1 ∈ allP t t.length := by
  obtain ⟨p, hp, rfl⟩ := List.mem_map.1 h
  rw [slP_at]
  exact ⟨makeF_mem hp (Nat.le_refl _), hp⟩
theorem allS_right (ht : textB t = true) (hc : cutB wd side = true) {s : Slp} (h : s ∈ allS t side wd) : slipB s = true := (make_right ht hc (allS_mem h).1).1
theorem allS_fst : (allS t side wd).map (·.1) = allP t t.length := by
  rw [allS, List.map_map]
  exact (List.map_congr_left fun p _ => slP_at t side wd p).trans (List.map_id _)
theorem allS_nodup : (allS t side wd).Nodup := by
  have h := sorted_nodup (allP_sorted t t.length)
  rw [← allS_fst (side := side) (wd := wd)] at h
  exact List.Pairwise.imp (fun hne e => hne (by rw [e])) (List.pairwise_map.1 h)
theorem allS_get {i : Nat} (hi : i < (allS t side wd).length) : (allS t side wd)[i].1 = (allP t t.length)[i]'(by rw [allS, List.length_map] at hi; exact hi) := by
  simp [allS, slP_at]
end
end Go.Proofs.YtpijeomnplmakaaGreatDoor
