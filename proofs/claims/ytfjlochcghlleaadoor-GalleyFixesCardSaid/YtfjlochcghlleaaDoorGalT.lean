/- galley: plain functions of breakings. -/
import Derived.Test.YtfjlochcghlleaaDoorGalL1
import Derived.Test.YtfjlochcghlleaaDoorGal6
namespace Go.Proofs.YtfjlochcghlleaaDoor
open Go.RowKit

/-- The number before the k-th. -/
def prevD (l : List Int) : Nat → Int
  | 0 => 0
  | k + 1 => l.getD k 0
def stepB (h : Int) (bs : List Blk) (l : List Int) (k : Nat) : Bool := mayR (l.getD k 0) 0 bs && decide (1 ≤ l.getD k 0 - prevD l k ∧ l.getD k 0 - prevD l k ≤ h)
def validB (h : Int) (bs : List Blk) (l : List Int) : Bool := (List.range l.length).all (stepB h bs l) && decide (prevD l l.length = sumL bs)
def brkE (h : Int) (bs : List Blk) (l : List Int) : Int := if galleyB h bs then (if validB h bs l then 0 else 81) else 80

theorem valid_yes {h : Int} {bs : List Blk} {l : List Int} (h1 : ∀ k, k < l.length → stepB h bs l k = true) (h2 : prevD l l.length = sumL bs) : validB h bs l = true := by
  simp only [validB, Bool.and_eq_true, List.all_eq_true, List.mem_range, decide_eq_true_eq]
  exact ⟨h1, h2⟩
theorem valid_no {h : Int} {bs : List Blk} {l : List Int} {k : Nat} (hk : k < l.length) (h1 : stepB h bs l k = false) : validB h bs l = false := by
  have : (List.range l.length).all (stepB h bs l) = false := by
    rw [List.all_eq_false]; exact ⟨k, by simpa using hk, by simp [h1]⟩
  simp [validB, this]
theorem valid_end {h : Int} {bs : List Blk} {l : List Int} (h1 : prevD l l.length ≠ sumL bs) : validB h bs l = false := by
  simp [validB, h1]
theorem getD_lt {l : List Int} {k : Nat} (hk : k < l.length) : l.getD k 0 = l[k] := by simp [List.getD_eq_getElem?_getD, hk]

/-- What a valid breaking is. -/
structure ValidI (h : Int) (bs : List Blk) (l : List Int) : Prop where
  step : ∀ k, k < l.length → mayR (l.getD k 0) 0 bs = true ∧ 1 ≤ l.getD k 0 - prevD l k ∧ l.getD k 0 - prevD l k ≤ h ∧ 1 ≤ l.getD k 0 ∧ l.getD k 0 ≤ sumL bs
  last : prevD l l.length = sumL bs
theorem may_in {bs : List Blk} (hb : ∀ b ∈ bs, 1 ≤ b.2 ∧ b.2 ≤ 20) {n : Int} (hm : mayR n 0 bs = true) : 1 ≤ n ∧ n ≤ sumL bs := ends_bound hb n ((mem_endsF hb n).2 hm)
theorem validI {h : Int} {bs : List Blk} {l : List Int} (hb : ∀ b ∈ bs, 1 ≤ b.2 ∧ b.2 ≤ 20) (hv : validB h bs l = true) : ValidI h bs l := by
  simp only [validB, Bool.and_eq_true, List.all_eq_true, List.mem_range, decide_eq_true_eq] at hv
  refine ⟨fun k hk => ?_, hv.2⟩
  have h1 := hv.1 k hk
  simp only [stepB, Bool.and_eq_true, decide_eq_true_eq] at h1
  have := may_in hb h1.1
  exact ⟨h1.1, h1.2.1, h1.2.2, this.1, this.2⟩
theorem ValidI.prev {h : Int} {bs : List Blk} {l : List Int} (v : ValidI h bs l) (hs : 0 ≤ sumL bs) : ∀ k, k ≤ l.length → 0 ≤ prevD l k ∧ prevD l k ≤ sumL bs
  | 0, _ => ⟨Int.le_refl _, hs⟩
  | k + 1, hk => by have := v.step k (by omega); simp only [prevD]; omega
theorem ValidI.up {h : Int} {bs : List Blk} {l : List Int} (v : ValidI h bs l) : ∀ j i, i < j → j < l.length → l.getD i 0 < l.getD j 0 := by
  intro j
  induction j with
  | zero => intro i hi; omega
  | succ j ih =>
    intro i hi hj
    have h1 := (v.step (j + 1) hj).2.1
    simp only [prevD] at h1
    by_cases e : i = j
    · subst e; omega
    · have := ih i (by omega) (by omega)
      omega
theorem ValidI.pos {h : Int} {bs : List Blk} {l : List Int} (v : ValidI h bs l) (hs : 1 ≤ sumL bs) : 0 < l.length := by
  cases hl : l.length with
  | zero => have := v.last; rw [hl] at this; simp only [prevD] at this; omega
  | succ k => omega

/-- The waste of the first k columns. -/
def wasteP (h tot : Int) (l : List Int) : Nat → Int
  | 0 => 0
  | k + 1 => wasteP h tot l k + colW h tot (prevD l k) (l.getD k 0)
theorem wasteP_bound {h tot : Int} {l : List Int} (hh : -1000 ≤ h ∧ h ≤ 1000) (hl : ∀ k, k < l.length → 0 ≤ l.getD k 0 ∧ l.getD k 0 ≤ 1000) : ∀ k, k ≤ l.length → 0 ≤ wasteP h tot l k ∧ wasteP h tot l k ≤ k * 9000000
  | 0, _ => ⟨Int.le_refl _, by simp [wasteP]⟩
  | k + 1, hk => by
    have ih := wasteP_bound hh hl (tot := tot) k (by omega)
    have h1 := hl k (by omega)
    have h2 : 0 ≤ prevD l k ∧ prevD l k ≤ 1000 := by
      cases k with
      | zero => exact ⟨Int.le_refl (0 : Int), (by decide : (0 : Int) ≤ 1000)⟩
      | succ k => exact hl k (by omega)
    have := colW_bound (h := h) (tot := tot) (frm := prevD l k) (to := l.getD k 0) hh (by omega) (by omega)
    simp only [wasteP]
    omega

/-- How many columns end before a line, from 0. -/
def standF (l : List Int) (line : Int) : Nat := (l.takeWhile fun n => decide (n ≤ line)).length
theorem standF_le (l : List Int) (line : Int) : standF l line ≤ l.length := by
  unfold standF
  exact (List.takeWhile_prefix _).length_le
theorem standF_of : ∀ {l : List Int} {line : Int} {k : Nat}, k ≤ l.length → (∀ j, j < k → l.getD j 0 ≤ line) → (k < l.length → line < l.getD k 0) → standF l line = k
  | [], _, k, hk, _, _ => by simp at hk; subst hk; rfl
  | x :: l, line, 0, _, _, h2 => by
    have : line < x := h2 (by simp)
    have h3 : ¬ x ≤ line := by omega
    simp [standF, h3]
  | x :: l, line, k + 1, hk, h1, h2 => by
    have h3 : x ≤ line := h1 0 (by omega)
    have := standF_of (l := l) (line := line) (k := k) (by simp at hk; omega) (fun j hj => by have := h1 (j + 1) (by omega); simpa using this) (fun h => by have := h2 (by simp; omega); simpa using this)
    simp only [standF] at this ⊢
    simp [h3, this]
theorem sumL_pre0 {bs : List Blk} (hb : ∀ b ∈ bs, 1 ≤ b.2 ∧ b.2 ≤ 20) (hl : bs.length ≤ 1000) (k : Nat) : 0 ≤ sumL (bs.take k) ∧ sumL (bs.take k) ≤ 20000 := by
  have := sumL_le (bs := bs.take k) fun b h => hb b (List.mem_of_mem_take h)
  have h2 : (bs.take k).length ≤ 1000 := by simp; omega
  omega
def beginL (bs : List Blk) (k : Nat) : Int := sumL (bs.take k)
def linesL (bs : List Blk) (k : Nat) : Int := (bs.getD k (ByteArray.empty, 0)).2
def colF (bs : List Blk) (l : List Int) (k : Nat) : Nat := standF l (beginL bs k)
def colT (bs : List Blk) (l : List Int) (k : Nat) : Nat := standF l (beginL bs k + linesL bs k - 1)
end Go.Proofs.YtfjlochcghlleaaDoor
