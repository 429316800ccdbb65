/- galley, plain laws: what columns cost, from behind. -/
import Derived.Test.YtfjlochcghlleaaDoorGalL1
import Derived.Test.YtfjlochcghlleaaDoorGal8
namespace Go.Proofs.YtfjlochcghlleaaDoor
open Go.RowKit

def costD (h tot to : Int) (may : Int → Bool) : Nat → Int
  | 0 => 0
  | d + 1 => (List.range (min (d + 1) h.toNat)).foldl (fun acc (j : Nat) =>
      if may (to - (d : Int) + j) then min acc (colW h tot (to - (d : Int) - 1) (to - (d : Int) + j) + costD h tot to may (d - j)) else acc) 1000000000
termination_by d => d
decreasing_by all_goals omega
def costR (h tot to : Int) (may : Int → Bool) (n : Int) : Int := costD h tot to may (to - n).toNat
def valR (h tot to : Int) (may : Int → Bool) (n : Int) (i : Nat) : Int := colW h tot n (n + 1 + i) + costR h tot to may (n + 1 + i)
/-- What it costs to go on from n, by the first j numbers behind it. -/
def costP (h tot to : Int) (may : Int → Bool) (n : Int) : Nat → Int
  | 0 => 1000000000
  | j + 1 => if may (n + 1 + j) then min (costP h tot to may n j) (valR h tot to may n j) else costP h tot to may n j

theorem costP_fold (h tot to : Int) (may : Int → Bool) (n : Int) (j : Nat) : (List.range j).foldl (fun acc (i : Nat) => if may (n + 1 + i) then min acc (valR h tot to may n i) else acc) 1000000000 = costP h tot to may n j := by
  induction j with
  | zero => rfl
  | succ j ih => rw [List.range_succ, List.foldl_append, ih]; rfl
theorem foldl_same {α β : Type} {f g : β → α → β} : ∀ {l : List α} {b : β}, (∀ x ∈ l, ∀ b, f b x = g b x) → l.foldl f b = l.foldl g b
  | [], _, _ => rfl
  | x :: l, b, h => by
    rw [List.foldl_cons, List.foldl_cons, h x (by simp), foldl_same fun y hy => h y (by simp [hy])]
theorem costR_eq {h tot to : Int} (may : Int → Bool) {n : Int} (hn : n < to) : costR h tot to may n = costP h tot to may n (min (to - n) h).toNat := by
  obtain ⟨d, hd⟩ : ∃ d : Nat, (to - n).toNat = d + 1 := ⟨(to - n).toNat - 1, by omega⟩
  have hm : (min (to - n) h).toNat = min (d + 1) h.toNat := by omega
  rw [← costP_fold, costR, hd, costD, hm]
  apply foldl_same
  intro j hj b
  have hj' : j < min (d + 1) h.toNat := by simpa using hj
  have e1 : to - (d : Int) + j = n + 1 + j := by omega
  have e2 : to - (d : Int) - 1 = n := by omega
  have e4 : (to - (n + 1 + (j : Int))).toNat = d - j := by omega
  rw [e1, e2, valR, costR, e4]
theorem costR_to (h tot to : Int) (may : Int → Bool) : costR h tot to may to = 0 := by simp [costR, costD]

theorem colW_small {h tot n : Int} {i : Nat} (hi : (i : Int) < h) (hh : h ≤ 40) : 0 ≤ colW h tot n (n + 1 + i) ∧ colW h tot n (n + 1 + i) ≤ 1600 := by
  simp only [colW]
  split
  · omega
  · generalize hx : h - (n + 1 + (i : Int)) + n = x
    have h0 : 0 ≤ x ∧ x ≤ 40 := by omega
    have h1 := Int.mul_le_mul h0.2 h0.2 h0.1 (by omega : (0 : Int) ≤ 40)
    have h2 := Int.mul_nonneg h0.1 h0.1
    omega

/-- What ways(j) and cost(j) are to one another. -/
structure OnP (h tot to : Int) (may : Int → Bool) (n : Int) (j : Nat) : Prop where
  le : ∀ i : Nat, i < j → may (n + 1 + i) = true → costP h tot to may n j ≤ valR h tot to may n i
  way : (firstW (waysW h tot to may n j) = noneW ∧ costP h tot to may n j = 1000000000) ∨
    ∃ i : Nat, i < j ∧ may (n + 1 + i) = true ∧ firstW (waysW h tot to may n j) = (costP h tot to may n j, n + 1 + i) ∧ costP h tot to may n j = valR h tot to may n i ∧ 0 ≤ costP h tot to may n j ∧ costP h tot to may n j ≤ (to - n) * 1600 ∧
      ∀ i' : Nat, i' < i → may (n + 1 + i') = true → costP h tot to may n j < valR h tot to may n i'
def OnC (h tot to : Int) (may : Int → Bool) (n : Int) : Prop := (onW h tot to may n = noneW ∧ costR h tot to may n = 1000000000) ∨ (onW h tot to may n ≠ noneW ∧ (onW h tot to may n).1 = costR h tot to may n ∧ 0 ≤ costR h tot to may n ∧ costR h tot to may n ≤ (to - n) * 1600)

theorem firstW_snoc (ws : List (Int × Int)) (x : Int × Int) : firstW (noneW :: ws ++ [x]) = bestW (firstW (noneW :: ws)) x := by
  simp [firstW, List.foldl_append]
theorem waysW_cons (h tot to : Int) (may : Int → Bool) (n : Int) (j : Nat) : ∃ ws, waysW h tot to may n j = noneW :: ws := ⟨_, rfl⟩
theorem firstW_yes {h tot to : Int} {may : Int → Bool} {n : Int} {j : Nat} (hm : may (n + 1 + j) = true) (ho : ¬ onW h tot to may (n + 1 + j) = noneW) :
    firstW (waysW h tot to may n (j + 1)) = bestW (firstW (waysW h tot to may n j)) ((onW h tot to may (n + 1 + j)).1 + colW h tot n (n + 1 + j), n + 1 + j) := by
  rw [waysW_yes _ _ _ hm ho]
  obtain ⟨ws, e⟩ := waysW_cons h tot to may n j
  rw [e, firstW_snoc]

theorem onP_all {h tot to : Int} {may : Int → Bool} {n : Int} (hh : 0 ≤ h ∧ h ≤ 40) (hn : to - n ≤ 1000) (hc : ∀ k, n < k → k ≤ to → OnC h tot to may k) : ∀ j : Nat, (j : Int) ≤ min (to - n) h → OnP h tot to may n j := by
  intro j
  induction j with
  | zero => intro _; exact ⟨fun i hi => by omega, .inl ⟨rfl, rfl⟩⟩
  | succ j ih =>
    intro hj
    have hj1 : (j : Int) + 1 ≤ to - n ∧ (j : Int) + 1 ≤ h := by omega
    obtain ⟨ile, iway⟩ := ih (by omega)
    have hcol := colW_small (tot := tot) (n := n) (i := j) (h := h) (by omega) hh.2
    have hck := hc (n + 1 + j) (by omega) (by omega)
    cases hm : may (n + 1 + j) with
    | false =>
      have e1 : costP h tot to may n (j + 1) = costP h tot to may n j := by rw [costP, hm]; rfl
      have e2 : waysW h tot to may n (j + 1) = waysW h tot to may n j := waysW_no _ _ _ (.inl hm)
      refine ⟨fun i hi hmi => ?_, ?_⟩
      · rw [e1]
        by_cases e : i = j
        · subst e; rw [hm] at hmi; cases hmi
        · exact ile i (by omega) hmi
      · rw [e1, e2]
        rcases iway with h1 | ⟨i, h1, h2⟩
        · exact .inl h1
        · exact .inr ⟨i, by omega, h2⟩
    | true =>
      have e1 : costP h tot to may n (j + 1) = min (costP h tot to may n j) (valR h tot to may n j) := by rw [costP, hm]; rfl
      have hv : valR h tot to may n j = colW h tot n (n + 1 + j) + costR h tot to may (n + 1 + j) := rfl
      have hle : ∀ i : Nat, i < j + 1 → may (n + 1 + i) = true → min (costP h tot to may n j) (valR h tot to may n j) ≤ valR h tot to may n i := by
        intro i hi hmi
        by_cases e : i = j
        · subst e; omega
        · have := ile i (by omega) hmi
          omega
      refine ⟨fun i hi hmi => by rw [e1]; exact hle i hi hmi, ?_⟩
      rw [e1]
      rcases hck with ⟨ho, hcr⟩ | ⟨ho, hcr, h0, h1⟩
      · -- that way leads nowhere
        have hbig : costP h tot to may n j ≤ 1000000000 := by
          rcases iway with h1 | ⟨i, h1, h2, h3, h4, h5, h6, h7⟩ <;> omega
        have emin : min (costP h tot to may n j) (valR h tot to may n j) = costP h tot to may n j := by omega
        have e2 : waysW h tot to may n (j + 1) = waysW h tot to may n j := waysW_no _ _ _ (.inr ho)
        rw [emin, e2]
        rcases iway with h1 | ⟨i, h1, h2⟩
        · exact .inl h1
        · exact .inr ⟨i, by omega, h2⟩
      · have hb : ((to - (n + 1 + (j : Int))) * 1600 : Int) ≤ (to - n) * 1600 - 1600 := by omega
        rw [firstW_yes hm ho, hcr, show costR h tot to may (n + 1 + j) + colW h tot n (n + 1 + j) = valR h tot to may n j from by omega]
        rcases iway with ⟨h3, h4⟩ | ⟨i, h3, h4, h5, h6, h7, h8, h9⟩
        · right
          have emin : min (costP h tot to may n j) (valR h tot to may n j) = valR h tot to may n j := by omega
          rw [emin, h3]
          refine ⟨j, by omega, hm, bestW_yes ?_, rfl, by omega, by omega, fun i' hi' hmi => ?_⟩
          · simp only [cheapB, Bool.and_eq_true, decide_eq_true_eq, Bool.or_eq_true]
            refine ⟨fun e => ?_, .inl trivial⟩
            have := congrArg Prod.fst e
            simp only [noneW] at this
            omega
          · have := ile i' hi' hmi
            omega
        · right
          rw [h5]
          by_cases c : valR h tot to may n j < costP h tot to may n j
          · have emin : min (costP h tot to may n j) (valR h tot to may n j) = valR h tot to may n j := by omega
            rw [emin]
            refine ⟨j, by omega, hm, bestW_yes ?_, rfl, by omega, by omega, fun i' hi' hmi => ?_⟩
            · simp only [cheapB, Bool.and_eq_true, decide_eq_true_eq, Bool.or_eq_true]
              refine ⟨fun e => ?_, .inr c⟩
              have := congrArg Prod.fst e
              simp only [noneW] at this
              omega
            · have := ile i' hi' hmi
              omega
          · have emin : min (costP h tot to may n j) (valR h tot to may n j) = costP h tot to may n j := by omega
            rw [emin]
            refine ⟨i, by omega, h4, bestW_no ?_, h6, h7, h8, h9⟩
            simp only [cheapB, Bool.and_eq_false_iff, Bool.or_eq_false_iff, decide_eq_false_iff_not]
            refine .inr ⟨fun e => ?_, c⟩
            have := congrArg Prod.fst e
            simp only [noneW] at this
            omega

theorem onC_all {h tot to : Int} {may : Int → Bool} (hh : 0 ≤ h ∧ h ≤ 40) : ∀ (d : Nat) (n : Int), (to - n).toNat = d → n ≤ to → to - n ≤ 1000 → OnC h tot to may n := by
  intro d
  induction d using Nat.strongRecOn with
  | _ d ih =>
  intro n hd hn hl
  by_cases e : n = to
  · subst e
    right
    rw [onW_to, costR_to]
    exact ⟨by intro e; have := congrArg Prod.fst e; simp [noneW] at this, rfl, by omega, by omega⟩
  · have hp := onP_all (may := may) (tot := tot) (n := n) hh hl (fun k h1 h2 => ih (to - k).toNat (by omega) k rfl h2 (by omega)) (min (to - n) h).toNat (by omega)
    unfold OnC
    rw [onW_eq _ _ _ _ _ e, costR_eq may (by omega)]
    rcases hp.way with h1 | ⟨i, h1, h2, h3, h4, h5, h6, _⟩
    · exact .inl h1
    · right
      rw [h3]
      refine ⟨fun e => ?_, rfl, h5, h6⟩
      have := congrArg Prod.fst e
      simp only [noneW] at this
      omega
theorem onP_any {h tot to : Int} {may : Int → Bool} {n : Int} (hh : 0 ≤ h ∧ h ≤ 40) (hl : to - n ≤ 1000) (hn : n ≤ to) : OnP h tot to may n (min (to - n) h).toNat :=
  onP_all hh hl (fun k h1 h2 => onC_all hh (to - k).toNat k rfl h2 (by omega)) _ (by omega)
/-- The first number that goes on at the least cost is the way's. -/
theorem next_way {h tot to : Int} {may : Int → Bool} {n : Int} (hh : 0 ≤ h ∧ h ≤ 40) (hl : to - n ≤ 1000) (hn : n < to) (ho : onW h tot to may n ≠ noneW) {i : Nat} (hi : i < (min (to - n) h).toNat)
    (hm : may (n + 1 + i) = true) (hc : valR h tot to may n i = costR h tot to may n) (hpre : ∀ i' : Nat, i' < i → ¬ (may (n + 1 + i') = true ∧ valR h tot to may n i' = costR h tot to may n)) : (onW h tot to may n).2 = n + 1 + i := by
  have hp := onP_any (may := may) (tot := tot) hh hl (by omega : n ≤ to)
  rw [onW_eq _ _ _ _ _ (by omega)] at ho ⊢
  rw [costR_eq may hn] at hc hpre
  rcases hp.way with ⟨h1, _⟩ | ⟨q, h1, h2, h3, h4, h5, h6, h7⟩
  · exact absurd h1 ho
  · rw [h3]
    have : q = i := by
      rcases Nat.lt_trichotomy q i with c | c | c
      · exact absurd ⟨h2, h4.symm⟩ (hpre q c)
      · exact c
      · have := h7 i c hm
        omega
    subst this; rfl
theorem next_none {h tot to : Int} {may : Int → Bool} {n : Int} (hh : 0 ≤ h ∧ h ≤ 40) (hl : to - n ≤ 1000) (hn : n < to) (ho : onW h tot to may n ≠ noneW)
    (hpre : ∀ i' : Nat, i' < (min (to - n) h).toNat → ¬ (may (n + 1 + i') = true ∧ valR h tot to may n i' = costR h tot to may n)) : False := by
  have hp := onP_any (may := may) (tot := tot) hh hl (by omega : n ≤ to)
  rw [onW_eq _ _ _ _ _ (by omega)] at ho
  rw [costR_eq may hn] at hpre
  rcases hp.way with ⟨h1, _⟩ | ⟨q, h1, h2, h3, h4, h5, h6, h7⟩
  · exact absurd h1 ho
  · exact hpre q h1 ⟨h2, h4.symm⟩
end Go.Proofs.YtfjlochcghlleaaDoor
