/- The proof engine, part 8: arrays by value; parts of slices; tests of structs and strings. -/
import Derived.Test.YtcelhpbcdpefnaaEng7
namespace Go.Proofs.Ytcelhpbcdpefnaa
open Go.RowKit

class TArr (P : Program) (t : Nat) (len e : outParam Nat) : Prop where
  h : P.underlying t = some (.array len e)

section rules
variable {P : Program} {ro : Option Nat} {n : Nat} {all rest : List Oper} {K : Sl → World → Prop} {s : Sl} {w : World} {d : Nat} {ty : Nat} {pos : String} {af : Array Edge}
variable {x y : Operand} {t t' : Nat}

/-- An element, itself a struct or array, of an array value. -/
theorem Ops.indexA {cells cs' : List Value} {len e size bytes j : Nat} {z : Value} {dd : TypeDesc} {i : Int} {k : IntKind} (hx : ev n s x = .agg cells.toArray) (hy : ev n s y = .int k i) (hi : i = (j : Int)) [ht : TArr P t len e] [hu : TU P e dd] [hz : TS P e z size bytes] (hj : Nat.blt j len = true) (hag : TypeDesc.isAgg dd = true)
    (hc : (cells.drop (j * size)).take size = cs') (h : Ops P ro n all rest K (upd s d (.agg cs'.toArray)) w) : Ops P ro n all (⟨some d, .index t x y, ty, pos, af, none⟩ :: rest) K s w := by
  subst hi
  subst hc
  have hj' : j < len := by simpa using hj
  exact Ops.ofRun rfl (by
    have h1 : (0 : Int) ≤ (j : Int) ∧ (j : Int) < (len : Int) := by omega
    simp [execOp, Instr.index, hx, hy, asIntOf, run_underlying ht.h, hj', run_sizeOf' w hz, part, run_isAgg w hu, hag]) h

/-- x[lo:hi] of a slice that reads as a list. -/
theorem RowV.part {agg : Bool} {k l c : Nat} {a : Option Addr} {xs : List Value} (h : RowV w agg k (.slice a l c) xs) (lo hi : Nat) (h1 : lo ≤ hi) (h2 : hi ≤ xs.length) (c' : Nat) (hc' : hi - lo ≤ c') (a' : Option Addr) (ha : lo < hi → a' = a.map (·.add (lo * k))) : RowV w agg k (.slice a' (hi - lo) c') ((xs.take hi).drop lo) := by
  have hl : ((xs.take hi).drop lo).length = hi - lo := by simp; omega
  refine ⟨by have := h.len; omega, fun x hx => h.fit x (List.mem_of_mem_take (List.mem_of_mem_drop hx)), ?_⟩
  by_cases hlt : lo < hi
  · rcases h.at_ with ⟨rfl, _⟩ | ⟨b, o, c2, hv, _, hc⟩
    · simp at h2; omega
    · simp only [Value.slice.injEq] at hv
      obtain ⟨rfl, rfl, rfl⟩ := hv
      refine .inr ⟨b, o + lo * k, c', ?_, by omega, fun j x hx => ?_⟩
      · rw [hl, ha hlt]; simp [Addr.add_lit]
      · have hjlt : j < hi - lo := by have := (List.getElem?_eq_some_iff.1 hx).1; omega
        have : xs[lo + j]? = some x := by
          rw [List.getElem?_drop, List.getElem?_take] at hx
          split at hx
          · exact hx
          · cases hx
        have := hc (lo + j) x this
        rw [show o + lo * k + j * k = o + (lo + j) * k from by rw [Nat.add_mul]; omega]
        exact this
  · refine .inl ⟨List.length_eq_zero_iff.1 (by omega), a', c', by rw [show hi - lo = 0 from by omega]⟩

theorem Ops.sliceLH {agg : Bool} {e k bytes l c lo hi : Nat} {z : Value} {a : Option Addr} {xs : List Value} {i j : Int} {k1 k2 : IntKind} {xl xh : Operand} (hrow : RowV w agg k (.slice a l c) xs) (hx : ev n s x = .slice a l c) (hl : ev n s xl = .int k1 i) (hh : ev n s xh = .int k2 j)
    (hi' : i = (lo : Int)) (hj' : j = (hi : Int)) (h1 : lo ≤ hi) (h2 : hi ≤ xs.length) [ht : TSl P t e] [hz : TS P e z k bytes]
    (h : ∀ v, RowV w agg k v ((xs.take hi).drop lo) → (∃ a' c', v = .slice a' (hi - lo) c') → Ops P ro n all rest K (upd s d v) w) : Ops P ro n all (⟨some d, .slice t x (some xl) (some xh) none, ty, pos, af, none⟩ :: rest) K s w := by
  subst hi' hj'
  obtain ⟨rfl, hlc⟩ := hrow.cap
  have a1 : hi ≤ c := by omega
  refine Ops.ofRun (v := .slice (if c = lo then a else a.map (·.add (lo * k))) (hi - lo) (c - lo)) (w' := w) rfl ?_ (h _ (hrow.part lo hi h1 h2 _ (by omega) _ (fun hlt => by rw [if_neg (by omega)])) ⟨_, _, rfl⟩)
  simp [execOp, Instr.sliceAt, Instr.slice, Instr.sliceBounds, Instr.sliceBound, hx, hl, hh, run_underlying ht.h, asIntOf, a1, h1, run_sizeOf' w hz]
theorem Ops.sliceH {agg : Bool} {e k bytes l c hi : Nat} {z : Value} {a : Option Addr} {xs : List Value} {j : Int} {k2 : IntKind} {xh : Operand} (hrow : RowV w agg k (.slice a l c) xs) (hx : ev n s x = .slice a l c) (hh : ev n s xh = .int k2 j)
    (hj' : j = (hi : Int)) (h2 : hi ≤ xs.length) [ht : TSl P t e] [hz : TS P e z k bytes]
    (h : ∀ v, RowV w agg k v (xs.take hi) → (∃ a' c', v = .slice a' hi c') → Ops P ro n all rest K (upd s d v) w) : Ops P ro n all (⟨some d, .slice t x none (some xh) none, ty, pos, af, none⟩ :: rest) K s w := by
  subst hj'
  obtain ⟨rfl, hlc⟩ := hrow.cap
  have a1 : hi ≤ c := by omega
  have hp := hrow.part 0 hi (Nat.zero_le _) h2 c (by omega) (if c = 0 then a else a.map (·.add (0 * k))) (fun hlt => by rw [if_neg (by omega)])
  simp only [Nat.sub_zero, List.drop_zero] at hp
  refine Ops.ofRun (v := .slice (if c = 0 then a else a.map (·.add (0 * k))) hi c) (w' := w) rfl ?_ (h _ hp ⟨_, _, rfl⟩)
  simp [execOp, Instr.sliceAt, Instr.slice, Instr.sliceBounds, Instr.sliceBound, hx, hh, run_underlying ht.h, asIntOf, a1, run_sizeOf' w hz]
theorem Ops.sliceL {agg : Bool} {e k bytes c lo : Nat} {z : Value} {a : Option Addr} {xs : List Value} {i : Int} {k1 : IntKind} {xl : Operand} (hrow : RowV w agg k (.slice a xs.length c) xs) (hx : ev n s x = .slice a xs.length c) (hl : ev n s xl = .int k1 i)
    (hi' : i = (lo : Int)) (h1 : lo ≤ xs.length) [ht : TSl P t e] [hz : TS P e z k bytes]
    (h : ∀ v, RowV w agg k v (xs.drop lo) → (∃ a' c', v = .slice a' (xs.length - lo) c') → Ops P ro n all rest K (upd s d v) w) : Ops P ro n all (⟨some d, .slice t x (some xl) none none, ty, pos, af, none⟩ :: rest) K s w := by
  subst hi'
  obtain ⟨_, hlc⟩ := hrow.cap
  have hp := hrow.part lo xs.length h1 (Nat.le_refl _) (c - lo) (by omega) (if c = lo then a else a.map (·.add (lo * k))) (fun hlt => by rw [if_neg (by omega)])
  rw [List.take_length] at hp
  refine Ops.ofRun (v := .slice (if c = lo then a else a.map (·.add (lo * k))) (xs.length - lo) (c - lo)) (w' := w) rfl ?_ (h _ hp ⟨_, _, rfl⟩)
  simp [execOp, Instr.sliceAt, Instr.slice, Instr.sliceBounds, Instr.sliceBound, hx, hl, run_underlying ht.h, asIntOf, h1, run_sizeOf' w hz]

/-! equality of structs of cells that are integers, bools, strings -/
/-- Equality of values of type t, laid out by enc. -/
class EqT (P : Program) (t : Nat) {α : Type} [DecidableEq α] (enc : α → Value) : Prop where
  eq : ∀ (w : World) (a b : α), (Op.equal t (enc a) (enc b)).run P w = .ok (decide (a = b)) w
  guard : ∀ (op : BinOp) (x y : Operand) (w : World) (a b : α), (eqGuard op t x y (enc a) (enc b)).run P w = .ok () w
  kind : ∀ (a b : α), (∀ w, (binOp .eql t (enc a) (enc b)).run P w = (do pure (Value.bool (← Op.equal t (enc a) (enc b))) : Sem Value).run P w) ∧ (∀ w, (binOp .neq t (enc a) (enc b)).run P w = (do pure (Value.bool (!(← Op.equal t (enc a) (enc b)))) : Sem Value).run P w)

theorem Ops.eqlT {α : Type} [DecidableEq α] {enc : α → Value} (a b : α) [he : EqT P t enc] (hx : ev n s x = enc a) (hy : ev n s y = enc b) (h : Ops P ro n all rest K (upd s d (.bool (decide (a = b)))) w) :
    Ops P ro n all (⟨some d, .binOp .eql t x y t', ty, pos, af, none⟩ :: rest) K s w :=
  Ops.ofRun rfl (by simp [execOp, hx, hy, he.guard, (he.kind a b).1, he.eq]) h
theorem Ops.neqT {α : Type} [DecidableEq α] {enc : α → Value} (a b : α) [he : EqT P t enc] (hx : ev n s x = enc a) (hy : ev n s y = enc b) (h : Ops P ro n all rest K (upd s d (.bool (decide (¬ a = b)))) w) :
    Ops P ro n all (⟨some d, .binOp .neq t x y t', ty, pos, af, none⟩ :: rest) K s w :=
  Ops.ofRun rfl (by
    have e : decide (¬ a = b) = !decide (a = b) := by by_cases h : a = b <;> simp [h]
    rw [e]
    simp [execOp, hx, hy, he.guard, (he.kind a b).2, he.eq]) h
end rules
end Go.Proofs.Ytcelhpbcdpefnaa
