/- galley: between$1. -/
import Derived.Test.YtfjlochcghlleaaDoorGal7
namespace Go.Proofs.YtfjlochcghlleaaDoor
open Go.RowKit

/-- All is as it was but block kb, and new blocks. -/
structure Only (kb : Nat) (w w' : World) : Prop where
  os : w'.os = w.os
  tape : w'.tape = w.tape
  output : w'.output = w.output
  size : w.heap.size ≤ w'.heap.size
  other : ∀ k, k < w.heap.size → k ≠ kb → w'.heap[k]? = w.heap[k]?
theorem Only.ofExt {kb : Nat} {w w' : World} (e : Ext w w') : Only kb w w' := ⟨e.b.os, e.b.tape, e.b.output, e.size, fun _ hk _ => e.block hk⟩
theorem Only.ofPut {kb : Nat} {w w' : World} {o : Obj} (p : PutO w w' kb o) : Only kb w w' := ⟨p.os, p.tape, p.output, by rw [p.size]; exact Nat.le_refl _, fun k _ hk => p.other k hk⟩
theorem Only.trans {kb : Nat} {a b c : World} (h : Only kb a b) (k : Only kb b c) : Only kb a c :=
  ⟨k.os.trans h.os, k.tape.trans h.tape, k.output.trans h.output, Nat.le_trans h.size k.size, fun i hi hne => (k.other i (by have := h.size; omega) hne).trans (h.other i hi hne)⟩
theorem Only.ext {kb : Nat} {w0 w w' : World} (h : Only kb w w') (e : Ext w0 w) (hk : w0.heap.size ≤ kb) : Ext w0 w' :=
  ⟨⟨h.os.trans e.b.os, h.tape.trans e.b.tape, h.output.trans e.b.output, Nat.le_trans e.size h.size, fun k hk' => (h.other k (by have := e.size; omega) (by omega)).trans (e.block hk')⟩⟩
theorem Only.at_ {kb : Nat} {w w' : World} {b o : Nat} {cs : List Value} (h : Only kb w w') (ha : At w b o cs) (hne : b ≠ kb) : At w' b o cs := ⟨fun i v hv => by
  have h1 := ha.h i v hv
  rw [← h1]
  exact World.cell?_of_block (a := ⟨b, o + i, none⟩) (h.other b (lt_of_cell h1) hne)⟩
theorem Only.bk {kb : Nat} {w w' : World} {b e : Nat} {cs : List Value} (h : Only kb w w') (ha : Bk w b cs e) (hne : b ≠ kb) : Bk w' b cs e := ⟨(h.other b ha.lt hne).trans ha.h⟩
theorem Only.map {kb : Nat} {κ : Type} {encK : κ → Value} {w w' : World} {b : Nat} {m : List (κ × Value)} (h : Only kb w w') (ha : MapE encK w b m) (hne : b ≠ kb) : MapE encK w' b m := by
  have hl := ha.lt
  obtain ⟨es, c, h1, h2⟩ := ha.h
  exact ⟨es, c, (h.other b hl hne).trans h1, h2⟩
theorem Only.own {kb : Nat} {w w' : World} {B e : Nat} {agg : Bool} {k : Nat} {v : Value} {xs : List Value} (h : Only kb w w') (ho : OwnL w B e agg k v xs) (hB : kb < B) : OwnL w' B e agg k v xs :=
  ho.kept fun g hg => h.other g (ho.block g hg).2 (by have := (ho.block g hg).1; omega)

theorem App.at_ {B : Nat} {w w' : World} {v : Value} {b o : Nat} {cs : List Value} (a : App B w w' v) (h : At w b o cs) (hne : v.ownBlock ≠ some b) : At w' b o cs := ⟨fun i u hv => by
  have h1 := h.h i u hv
  obtain ⟨ob, hb, _⟩ := cell_block h1
  rw [← h1]
  exact World.cell?_of_block (a := ⟨b, o + i, none⟩) ((a.other hb hne).trans hb.symm)⟩
theorem Only.app {kb B : Nat} {w0 w w' : World} {v : Value} (h : Only kb w0 w) (a : App B w w' v) (hB : w0.heap.size ≤ B) : Only kb w0 w' :=
  ⟨a.g.os.trans h.os, a.g.tape.trans h.tape, a.g.output.trans h.output, Nat.le_trans h.size a.g.size, fun k hk hne => (a.g.block k (by have := h.size; omega) (fun e => by have := (a.from_ k e.symm).1; omega)).trans (h.other k hk hne)⟩

/-! What on(n) is. -/
def onD (h tot to : Int) (may : Int → Bool) : Nat → Int × Int
  | 0 => (0, to)
  | d + 1 => firstW (noneW :: (List.range (min (d + 1) h.toNat)).filterMap fun (j : Nat) =>
      if may (to - (d : Int) + j) && decide (¬ onD h tot to may (d - j) = noneW) then some ((onD h tot to may (d - j)).1 + colW h tot (to - (d : Int) - 1) (to - (d : Int) + j), to - (d : Int) + j) else none)
termination_by d => d
decreasing_by all_goals omega
def onW (h tot to : Int) (may : Int → Bool) (n : Int) : Int × Int := if n ≤ to then onD h tot to may (to - n).toNat else noneW

/-- What may be gone on to from n, of the first j numbers behind it. -/
def waysW (h tot to : Int) (may : Int → Bool) (n : Int) (j : Nat) : List (Int × Int) :=
  noneW :: (List.range j).filterMap fun (i : Nat) => if may (n + 1 + i) && decide (¬ onW h tot to may (n + 1 + i) = noneW) then some ((onW h tot to may (n + 1 + i)).1 + colW h tot n (n + 1 + i), n + 1 + i) else none
theorem waysW_succ (h tot to : Int) (may : Int → Bool) (n : Int) (j : Nat) : waysW h tot to may n (j + 1) = waysW h tot to may n j ++ (if may (n + 1 + j) && decide (¬ onW h tot to may (n + 1 + j) = noneW) then [((onW h tot to may (n + 1 + j)).1 + colW h tot n (n + 1 + j), n + 1 + j)] else []) := by
  simp only [waysW, List.range_succ, List.filterMap_append, List.cons_append]
  congr 2
  by_cases c : (may (n + 1 + j) && decide (¬ onW h tot to may (n + 1 + j) = noneW)) = true
  · simp only [List.filterMap_cons, List.filterMap_nil, if_pos c]
  · simp only [List.filterMap_cons, List.filterMap_nil, if_neg c]
theorem waysW_no (h tot to : Int) {may : Int → Bool} {n : Int} {j : Nat} (hm : may (n + 1 + j) = false ∨ onW h tot to may (n + 1 + j) = noneW) : waysW h tot to may n (j + 1) = waysW h tot to may n j := by
  rw [waysW_succ, if_neg, List.append_nil]
  rcases hm with hm | hm <;> simp [hm]
theorem waysW_yes (h tot to : Int) {may : Int → Bool} {n : Int} {j : Nat} (hm : may (n + 1 + j) = true) (ho : ¬ onW h tot to may (n + 1 + j) = noneW) : waysW h tot to may n (j + 1) = waysW h tot to may n j ++ [((onW h tot to may (n + 1 + j)).1 + colW h tot n (n + 1 + j), n + 1 + j)] := by
  rw [waysW_succ, if_pos]
  simp [hm, ho]
theorem waysW_len (h tot to : Int) (may : Int → Bool) (n : Int) (j : Nat) : (waysW h tot to may n j).length ≤ j + 1 := by
  simp only [waysW, List.length_cons]
  have := List.length_filterMap_le (fun (i : Nat) => if may (n + 1 + i) && decide (¬ onW h tot to may (n + 1 + i) = noneW) then some ((onW h tot to may (n + 1 + i)).1 + colW h tot n (n + 1 + i), n + 1 + i) else none) (List.range j)
  simp only [List.length_range] at this
  omega
theorem filterMap_same {α β : Type} {f g : α → Option β} : ∀ {l : List α}, (∀ x ∈ l, f x = g x) → l.filterMap f = l.filterMap g
  | [], _ => rfl
  | x :: l, h => by
    rw [List.filterMap_cons, List.filterMap_cons, h x (by simp), filterMap_same fun y hy => h y (by simp [hy])]
theorem onW_eq (h tot to : Int) (may : Int → Bool) (n : Int) (hn : n ≠ to) : onW h tot to may n = firstW (waysW h tot to may n (min (to - n) h).toNat) := by
  by_cases hle : n ≤ to
  · obtain ⟨d, hd⟩ : ∃ d : Nat, (to - n).toNat = d + 1 := ⟨(to - n).toNat - 1, by omega⟩
    have hm : (min (to - n) h).toNat = min (d + 1) h.toNat := by omega
    simp only [onW, if_pos hle, hd, onD, waysW, hm]
    congr 2
    apply filterMap_same
    intro j hj
    have hj' : j < min (d + 1) h.toNat := by simpa using hj
    have e1 : to - (d : Int) + j = n + 1 + j := by omega
    have e2 : to - (d : Int) - 1 = n := by omega
    have e3 : n + 1 + (j : Int) ≤ to := by omega
    have e4 : (to - (n + 1 + (j : Int))).toNat = d - j := by omega
    rw [e1, e2]
    simp only [onW, if_pos e3, e4]
  · have hm : (min (to - n) h).toNat = 0 := by omega
    simp only [onW, if_neg hle, hm, waysW, List.range_zero, List.filterMap_nil]
    decide
theorem onW_to (h tot to : Int) (may : Int → Bool) : onW h tot to may to = (0, to) := by
  simp [onW, onD]
theorem foldl_best_mem : ∀ (ws : List (Int × Int)) (b : Int × Int), ws.foldl bestW b = b ∨ ws.foldl bestW b ∈ ws
  | [], b => .inl rfl
  | x :: ws, b => by
    rw [List.foldl_cons]
    rcases foldl_best_mem ws (bestW b x) with h | h
    · rw [h]
      unfold bestW
      split
      · exact .inr (by simp)
      · exact .inl rfl
    · exact .inr (by simp [h])
theorem firstW_mem {ws : List (Int × Int)} (h : ws ≠ []) : firstW ws ∈ ws := by
  unfold firstW
  rcases foldl_best_mem ws (ws.headD noneW) with e | e
  · rw [e]
    cases ws with
    | nil => exact absurd rfl h
    | cons x xs => simp
  · exact e
/-- The way that is taken from n. -/
theorem onW_step {h tot to : Int} {may : Int → Bool} {n : Int} (hn : n ≠ to) (ho : onW h tot to may n ≠ noneW) : ∃ i : Nat, (i : Int) < min (to - n) h ∧ may (n + 1 + i) = true ∧ onW h tot to may (n + 1 + i) ≠ noneW ∧ onW h tot to may n = ((onW h tot to may (n + 1 + i)).1 + colW h tot n (n + 1 + i), n + 1 + i) := by
  have hm := firstW_mem (ws := waysW h tot to may n (min (to - n) h).toNat) (by simp [waysW])
  rw [← onW_eq _ _ _ _ _ hn] at hm
  rcases List.mem_cons.1 hm with e | hm
  · exact absurd e ho
  · obtain ⟨i, hi, e⟩ := List.mem_filterMap.1 hm
    have hi' : i < (min (to - n) h).toNat := by simpa using hi
    by_cases c : (may (n + 1 + i) && decide (¬ onW h tot to may (n + 1 + i) = noneW)) = true
    · rw [if_pos c] at e
      simp only [Bool.and_eq_true, decide_eq_true_eq] at c
      exact ⟨i, by omega, c.1, c.2, (Option.some.inj e).symm⟩
    · rw [if_neg c] at e; cases e
theorem colW_near {h tot n : Int} {i : Nat} (hi : (i : Int) < h) (hh : h ≤ 1000) : 0 ≤ colW h tot n (n + 1 + i) ∧ colW h tot n (n + 1 + i) ≤ 9000000 := by
  simp only [colW]
  split
  · omega
  · exact sq_bound (by omega)
theorem onW_bound {h tot to : Int} {may : Int → Bool} (hh : h ≤ 1000) : ∀ (d : Nat) (n : Int), (to - n).toNat ≤ d → onW h tot to may n = noneW ∨ (0 ≤ (onW h tot to may n).1 ∧ (onW h tot to may n).1 ≤ d * 9000000) := by
  intro d
  induction d using Nat.strongRecOn with
  | _ d ih =>
  intro n hd
  by_cases ho : onW h tot to may n = noneW
  · exact .inl ho
  · right
    by_cases hn : n = to
    · subst hn; rw [onW_to]; simp; omega
    · obtain ⟨i, h1, h2, h3, h4⟩ := onW_step hn ho
      have hc := colW_near (tot := tot) (n := n) (i := i) (h := h) (by omega) hh
      have hb := (ih (d - 1) (by omega) (n + 1 + i) (by omega)).resolve_left h3
      rw [h4]
      simp only
      have e : ((d - 1 : Nat) : Int) = (d : Int) - 1 := by omega
      rw [e] at hb
      omega

/-- Behind which numbers columns end from n on. -/
def pathW (h tot to : Int) (may : Int → Bool) : Nat → Int → List Int
  | 0, _ => []
  | k + 1, n => if n < to then (onW h tot to may n).2 :: pathW h tot to may k (onW h tot to may n).2 else []
theorem pathW_same {h tot to : Int} {may : Int → Bool} : ∀ (k k' : Nat) (n : Int), (to - n).toNat ≤ k → (to - n).toNat ≤ k' → onW h tot to may n ≠ noneW → pathW h tot to may k n = pathW h tot to may k' n := by
  intro k
  induction k with
  | zero =>
    intro k' n h1 h2 _
    cases k' with
    | zero => rfl
    | succ k' => simp only [pathW]; rw [if_neg (by omega)]
  | succ k ih =>
    intro k' n h1 h2 ho
    cases k' with
    | zero => simp only [pathW]; rw [if_neg (by omega)]
    | succ k' =>
      simp only [pathW]
      by_cases hlt : n < to
      · obtain ⟨i, e1, e2, e3, e4⟩ := onW_step (by omega) ho
        rw [if_pos hlt, if_pos hlt, e4]
        simp only
        rw [ih k' (n + 1 + i) (by omega) (by omega) e3]
      · rw [if_neg hlt, if_neg hlt]
theorem pathW_step {h tot to : Int} {may : Int → Bool} {n : Int} (hlt : n < to) (ho : onW h tot to may n ≠ noneW) : pathW h tot to may (to - n).toNat n = (onW h tot to may n).2 :: pathW h tot to may (to - (onW h tot to may n).2).toNat (onW h tot to may n).2 := by
  obtain ⟨i, e1, e2, e3, e4⟩ := onW_step (by omega) ho
  obtain ⟨k, hk⟩ : ∃ k, (to - n).toNat = k + 1 := ⟨(to - n).toNat - 1, by omega⟩
  rw [hk]
  simp only [pathW]
  rw [if_pos hlt, e4]
  simp only
  rw [pathW_same k (to - (n + 1 + (i : Int))).toNat (n + 1 + i) (by omega) (by omega) e3]
theorem onW_le {h tot to : Int} {may : Int → Bool} {n : Int} (ho : onW h tot to may n ≠ noneW) : n ≤ to := by
  by_cases hle : n ≤ to
  · exact hle
  · exact absurd (by simp only [onW, if_neg hle]) ho
end Go.Proofs.YtfjlochcghlleaaDoor
