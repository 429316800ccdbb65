/- How slices in memory read as lists of values. -/
import Derived.Test.YtcelhpbcdpefnaaEng3
namespace Go.Proofs.Ytcelhpbcdpefnaa
open Go.RowKit

/-- A value that fits a type: a struct or array of k cells (agg), or one cell. -/
def fitsV (agg : Bool) (k : Nat) : Value → Bool
  | .agg cs => agg && cs.size == k
  | _ => !agg && k == 1

theorem fitsV_cells {agg : Bool} {k : Nat} {v : Value} (h : fitsV agg k v = true) : v.cells.size = k := by
  cases v <;> simp [fitsV, Value.cells] at h ⊢ <;> first | exact h.2 | omega

/-- Slice value v reads as the list xs: each element fits; its cells lie one behind the other. -/
structure RowV (w : World) (agg : Bool) (k : Nat) (v : Value) (xs : List Value) : Prop where
  len : xs.length ≤ 140737488355328
  fit : ∀ x ∈ xs, fitsV agg k x = true
  at_ : (xs = [] ∧ ∃ a c, v = .slice a 0 c) ∨ ∃ b o c, v = .slice (some ⟨b, o, none⟩) xs.length c ∧ xs.length ≤ c ∧ ∀ (j : Nat) (x : Value), xs[j]? = some x → At w b (o + j * k) x.cells.toList

theorem RowV.ext {w w' : World} {agg : Bool} {k : Nat} {v : Value} {xs : List Value} (h : RowV w agg k v xs) (hs : Ext w w') : RowV w' agg k v xs :=
  ⟨h.len, h.fit, h.at_.imp id fun ⟨b, o, c, hv, hl, hc⟩ => ⟨b, o, c, hv, hl, fun j x hx => (hc j x hx).ext hs⟩⟩

theorem RowV.slice {w : World} {agg : Bool} {k : Nat} {v : Value} {xs : List Value} (h : RowV w agg k v xs) : ∃ a c, v = .slice a xs.length c := by
  rcases h.at_ with ⟨rfl, a, c, rfl⟩ | ⟨b, o, c, rfl, _⟩
  · exact ⟨a, c, rfl⟩
  · exact ⟨_, c, rfl⟩
theorem RowV.cap {w : World} {agg : Bool} {k l c : Nat} {a : Option Addr} {xs : List Value} (h : RowV w agg k (.slice a l c) xs) : l = xs.length ∧ xs.length ≤ c := by
  rcases h.at_ with ⟨rfl, a', c', hv⟩ | ⟨b, o, c', hv, hl, _⟩
  · simp only [Value.slice.injEq] at hv; simp; omega
  · simp only [Value.slice.injEq] at hv; omega

theorem RowV.nilS (w : World) (agg : Bool) (k : Nat) (a : Option Addr) (c : Nat) : RowV w agg k (.slice a 0 c) [] := ⟨by simp, by simp, .inl ⟨rfl, a, c, rfl⟩⟩

theorem RowV.one {w : World} {agg : Bool} {k b e : Nat} {x : Value} (hx : fitsV agg k x = true) (h : w.heap[b]? = some (.cells x.cells e (0, 0))) : RowV w agg k (.slice (some ⟨b, 0, none⟩) 1 1) [x] :=
  ⟨by simp, by simpa using hx, .inr ⟨b, 0, 1, rfl, by simp, fun j y hy => by
    cases j with
    | zero =>
      simp at hy; subst hy
      have : w.heap[b]? = some (.cells x.cells.toList.toArray e (0, 0)) := by simpa using h
      simpa using At.ofBlock this
    | succ j => simp at hy⟩⟩

section rules
variable {P : Program} {ro : Option Nat} {n : Nat} {all rest : List Oper} {K : Sl → World → Prop} {s : Sl} {w : World} {d : Nat} {ty : Nat} {pos : String} {af : Array Edge}
/-- A load of a value that fits. -/
theorem Ops.loadV {x : Operand} {t b o : Nat} {v z : Value} {dd : TypeDesc} {size bytes : Nat} (hx : ev n s x = .pointer (some ⟨b, o, none⟩)) (hc : At w b o v.cells.toList) [ht : TU P t dd] [hz : TS P t z size bytes] (hf : fitsV (TypeDesc.isAgg dd) size v = true)
    (h : Ops P ro n all rest K (upd s d v) w) : Ops P ro n all (⟨some d, .load t x, ty, pos, af, none⟩ :: rest) K s w := by
  cases hag : TypeDesc.isAgg dd with
  | true =>
    rw [hag] at hf
    cases v <;> simp [fitsV] at hf
    case agg cs =>
      refine Ops.loadA (cs := cs.toList) hc hx hag (by simpa using hf) ?_
      simpa using h
  | false =>
    rw [hag] at hf
    have hv : w.cell? ⟨b, o, none⟩ = some v := by
      have := hc.h 0 v (by cases v <;> simp [fitsV] at hf <;> rfl)
      simpa using this
    exact jR hv hx hag h
/-- The address of an element of a slice that reads as a list. -/
theorem Ops.indexRow {x y : Operand} {t e : Nat} {agg : Bool} {size bytes j l c : Nat} {a : Option Addr} {xs : List Value} {v z : Value} {i : Int} {k : IntKind} (hx : ev n s x = .slice a l c) (hy : ev n s y = .int k i) [ht : TSl P t e] [hz : TS P e z size bytes]
    (hrow : RowV w agg size (.slice a l c) xs) (hi : i = (j : Int)) (hj : xs[j]? = some v)
    (h : ∀ b o, At w b o v.cells.toList → Ops P ro n all rest K (upd s d (.pointer (some ⟨b, o, none⟩))) w) : Ops P ro n all (⟨some d, .indexAddr t x y, ty, pos, af, none⟩ :: rest) K s w := by
  have hlt : j < xs.length := (List.getElem?_eq_some_iff.1 hj).1
  rcases hrow.at_ with ⟨rfl, _⟩ | ⟨b, o, c', hv, _, hc⟩
  · simp at hlt
  · simp only [Value.slice.injEq] at hv
    obtain ⟨rfl, rfl, rfl⟩ := hv
    exact jH j hx hy hi hlt (h _ _ (hc j v hj))
end rules

theorem RowV.get {α : Type} {w : World} {agg : Bool} {k : Nat} {v : Value} {enc : α → Value} {xs : List α} (h : RowV w agg k v (xs.map enc)) {x : α} (hx : x ∈ xs) : fitsV agg k (enc x) = true := h.fit _ (List.mem_map.2 ⟨x, hx, rfl⟩)
theorem map_get {α : Type} {enc : α → Value} {xs : List α} {j : Nat} (hj : j < xs.length) : (xs.map enc)[j]? = some (enc xs[j]) := by simp [hj]

/-- The place of the first element at which p holds, or -1. -/
def idxV {α : Type} (p : α → Bool) (xs : List α) : Int := match xs.findIdx? p with
  | some i => i
  | none => -1
theorem idxV_hit {α : Type} {p : α → Bool} {xs : List α} {k : Nat} (hk : k < xs.length) (hp : p xs[k] = true) (hb : ∀ (j : Nat) (hj : j < xs.length), j < k → p xs[j] = false) : idxV p xs = k := by
  have : xs.findIdx? p = some k := by
    rw [List.findIdx?_eq_some_iff_getElem]
    refine ⟨hk, hp, fun j hj => ?_⟩
    simp [hb j (by omega) hj]
  simp [idxV, this]
theorem idxV_miss {α : Type} {p : α → Bool} {xs : List α} (hb : ∀ (j : Nat) (hj : j < xs.length), p xs[j] = false) : idxV p xs = -1 := by
  have : xs.findIdx? p = none := by
    rw [List.findIdx?_eq_none_iff]
    intro x hx
    obtain ⟨j, hj⟩ := List.getElem_of_mem hx
    rw [← hj.2]; exact hb j hj.1
  simp [idxV, this]
theorem idxV_nonneg {α : Type} (p : α → Bool) (xs : List α) : decide (0 ≤ idxV p xs) = xs.any p := by
  unfold idxV
  cases h : xs.findIdx? p with
  | none =>
    rw [List.findIdx?_eq_none_iff] at h
    have : xs.any p = false := by rw [List.any_eq_false]; intro x hx; simp [h x hx]
    rw [this]; rfl
  | some i =>
    rw [List.findIdx?_eq_some_iff_getElem] at h
    obtain ⟨hi, hp, _⟩ := h
    have : xs.any p = true := List.any_eq_true.2 ⟨xs[i], List.getElem_mem hi, hp⟩
    rw [this]
    have h0 : (0 : Int) ≤ (i : Int) := by omega
    exact decide_eq_true h0

/-- A function value that answers p at each of xs (laid out by enc), in whatever later world. -/
structure PredE {α : Type} (P : Program) (w : World) (fv : Value) (enc : α → Value) (xs : List α) (p : α → Bool) : Prop where
  h : ∃ (g : Nat) (cap : List Value), fv = .func (.func g) #[] cap.toArray ∧ Enters P g ∧ ∀ (w' : World) (x : α), x ∈ xs → Ext w w' → Ct P g ([enc x] ++ cap) w' fun v _ => v = .bool (p x)
theorem PredE.ext {α : Type} {P : Program} {w w' : World} {fv : Value} {enc : α → Value} {xs : List α} {p : α → Bool} (h : PredE P w fv enc xs p) (hs : Ext w w') : PredE P w' fv enc xs p := by
  obtain ⟨g, cap, e1, e2, e3⟩ := h.h
  exact ⟨g, cap, e1, e2, fun w'' x hx hs' => e3 w'' x hx (hs.trans hs')⟩
end Go.Proofs.Ytcelhpbcdpefnaa
