/- The proof engine, part 1: frames as functions from slots to values; a judgement over structured code with three continuations; what a world keeps when the heap only grows. -/
import Derived.WalkKit
import Derived.RangeFuncNested
import Derived.RangeFuncCalls
import Derived.RangeFuncLeaves
namespace Go.Proofs.Ytcelhpbcdpefnaa
open Go.RowKit

/-! ### Slots -/
abbrev Sl := Nat → Value

def upd (s : Sl) (d : Nat) (v : Value) : Sl := fun i => bif Nat.beq i d then v else s i
def putS (s : Sl) : Option Nat → Value → Sl
  | none, _ => s
  | some d, v => upd s d v
def ovr (D : List Nat) (d s : Sl) : Sl := fun i => bif D.elem i then d i else s i

def mkA (n : Nat) (s : Sl) (ds : List Deferred) : Act := { tmps := ((List.range n).map s).toArray, defers := ds }

theorem mkA_getElem? (n : Nat) (s : Sl) (ds : List Deferred) (i : Nat) : (mkA n s ds).tmps[i]? = if i < n then some (s i) else none := by
  simp only [mkA, List.getElem?_toArray, List.getElem?_map]
  by_cases h : i < n
  · simp [h]
  · simp [h]

theorem mkA_size (n : Nat) (s : Sl) (ds : List Deferred) : (mkA n s ds).tmps.size = n := by simp [mkA]

theorem act_ext {a b : Act} (ht : ∀ i : Nat, a.tmps[i]? = b.tmps[i]?) (hd : a.defers = b.defers) : a = b := by
  cases a; cases b
  simp only at ht hd
  subst hd
  congr 1
  exact Array.ext_getElem? ht

theorem mkA_put (n : Nat) (s : Sl) (ds : List Deferred) (d : Option Nat) (v : Value) : (mkA n s ds).put d v = mkA n (putS s d v) ds := by
  cases d with
  | none => rfl
  | some d =>
    refine act_ext (fun i => ?_) rfl
    simp only [Act.put, putS]
    rw [mkA_getElem?, Array.getElem?_setIfInBounds, mkA_getElem?, mkA_size]
    by_cases e : d = i
    · subst e
      simp [upd]
    · have : Nat.beq i d = false := by
        cases h : Nat.beq i d
        · rfl
        · exact absurd (Nat.eq_of_beq_eq_true h).symm e
      simp [e, upd, this]

def ev (n : Nat) (s : Sl) : Operand → Value
  | .tmp t => bif Nat.blt t n then s t else undef
  | .const v => v
  | .global g => .pointer (some ⟨g, 0, none⟩)
  | .func f => .func (.func f) #[] #[]

theorem mkA_eval (n : Nat) (s : Sl) (ds : List Deferred) : (mkA n s ds).eval = ev n s := by
  funext x
  cases x with
  | tmp t =>
    simp only [Act.eval, ev]
    have := mkA_getElem? n s ds t
    simp only [Array.getD_eq_getD_getElem?, this]
    by_cases h : t < n
    · have h' : Nat.blt t n = true := by simpa using h
      simp [h, h']
    · have h' : Nat.blt t n = false := by
        cases e : Nat.blt t n
        · rfl
        · exact absurd (by simpa using e) h
      simp [h, h']
  | const v => rfl
  | global g => rfl
  | func f => rfl

theorem mkA_init (n : Nat) (args : List Value) (h : args.length ≤ n) : ({ tmps := args.toArray ++ Array.replicate (n - args.length) undef, defers := [] } : Act) = mkA n (fun i => args.getD i undef) [] := by
  refine act_ext (fun i => ?_) rfl
  rw [mkA_getElem?]
  simp only [Array.getElem?_append, List.size_toArray, List.getElem?_toArray, Array.getElem?_replicate]
  by_cases h1 : i < args.length
  · have : i < n := by omega
    simp [h1, this]
  · by_cases h2 : i < n
    · have : i - args.length < n - args.length := by omega
      simp [h1, h2, this]
    · have : ¬ i - args.length < n - args.length := by omega
      simp [h1, h2, this]

/-! ### The judgement -/
def Fw (ro : Option Nat) : Fence := { Fence.wide with round := ro }
theorem Fw_none : Fw none = Fence.wide := rfl
theorem Fw_inRound (ro : Option Nat) (l : Nat) : (Fw ro).inRound l = Fw (some l) := rfl

abbrev Kont := Sl → List Deferred → World → Prop

/-- Where code may go on: behind it, at a return, at an exit. -/
structure Ctx where
  nx : Kont
  rt : Kont
  ex : Nat → Kont

def Ctx.post (X : Ctx) (n : Nat) : Exit → Act → World → Prop
  | .normal, a, w => ∃ s ds, a = mkA n s ds ∧ X.nx s ds w
  | .ret, a, w => ∃ s ds, a = mkA n s ds ∧ X.rt s ds w
  | .exit i, a, w => ∃ s ds, a = mkA n s ds ∧ X.ex i s ds w
  | _, _, _ => False

/-- Code c, begun with slots s, ends and goes on as X says. -/
def W (P : Program) (ro : Option Nat) (n : Nat) (c : Code) (X : Ctx) (s : Sl) (ds : List Deferred) (w : World) : Prop :=
  c.wpIn (Fw ro) 0 P (X.post n) (mkA n s ds) w

section rules
variable {P : Program} {ro : Option Nat} {n : Nat} {X : Ctx} {s : Sl} {ds : List Deferred} {w : World}

theorem W.mono {c : Code} {Y : Ctx} (h : W P ro n c X s ds w) (h1 : ∀ s ds w, X.nx s ds w → Y.nx s ds w) (h2 : ∀ s ds w, X.rt s ds w → Y.rt s ds w)
    (h3 : ∀ i s ds w, X.ex i s ds w → Y.ex i s ds w) : W P ro n c Y s ds w :=
  wpIn_mono h fun e a w hp => by
    cases e with
    | normal => obtain ⟨s, ds, e, h⟩ := hp; exact ⟨s, ds, e, h1 _ _ _ h⟩
    | ret => obtain ⟨s, ds, e, h⟩ := hp; exact ⟨s, ds, e, h2 _ _ _ h⟩
    | exit i => obtain ⟨s, ds, e, h⟩ := hp; exact ⟨s, ds, e, h3 _ _ _ _ h⟩
    | goto l => exact hp
    | panic c => exact hp
    | outgrown => exact hp

theorem jjB {a b : Code} (h : W P ro n a { X with nx := W P ro n b X } s ds w) : W P ro n (.seq a b) X s ds w :=
  wpIn_seq (wpIn_mono h fun e a' w' hp => by
    cases e with
    | normal => obtain ⟨s, ds, rfl, h⟩ := hp; exact h
    | ret => exact hp
    | exit i => exact hp
    | goto l => exact hp
    | panic c => exact hp
    | outgrown => exact hp)

theorem jjG (h : X.nx s ds w) : W P ro n .skip X s ds w := wpIn_skip ⟨s, ds, rfl, h⟩
theorem jjF (h : X.rt s ds w) : W P ro n .ret X s ds w := wpIn_ret ⟨s, ds, rfl, h⟩
theorem jjE {i : Nat} (h : X.ex i s ds w) : W P ro n (.exit i) X s ds w := wpIn_exit ⟨s, ds, rfl, h⟩

theorem jjD {i : Nat} {c : Code} (h : W P ro n c { X with ex := fun j => bif Nat.beq j i then X.nx else X.ex j } s ds w) : W P ro n (.block i c) X s ds w :=
  wpIn_block (wpIn_mono h fun e a w' hp => by
    cases e with
    | normal => exact hp
    | ret => exact hp
    | exit j =>
      simp only [Exit.inBlock]
      simp only [Ctx.post] at hp
      by_cases e : j = i
      · subst e
        have : Nat.beq j j = true := by simp
        rw [if_pos rfl]
        simpa [Ctx.post, this] using hp
      · have : Nat.beq j i = false := by
          cases h : Nat.beq j i
          · rfl
          · exact absurd (Nat.eq_of_beq_eq_true h) e
        rw [if_neg e]
        simpa [Ctx.post, this] using hp
    | goto l => exact hp
    | panic c => exact hp
    | outgrown => exact hp)

theorem W.cond {c : Operand} {x y : Code} {t : Bool} (hc : ev n s c = .bool t) (h : W P ro n (if t then x else y) X s ds w) : W P ro n (.cond c x y) X s ds w :=
  wpIn_cond (t := t) (by rw [mkA_eval]; exact hc) h
theorem jjJ {c : Operand} {x y : Code} (hc : ev n s c = .bool true) (h : W P ro n x X s ds w) : W P ro n (.cond c x y) X s ds w := W.cond hc h
theorem jjK {c : Operand} {x y : Code} (hc : ev n s c = .bool false) (h : W P ro n y X s ds w) : W P ro n (.cond c x y) X s ds w := W.cond hc h
theorem jjN {c : Operand} {x y : Code} {p : Prop} [hd : Decidable p] (hc : ev n s c = .bool (@decide p hd)) (h1 : p → W P ro n x X s ds w) (h2 : ¬ p → W P ro n y X s ds w) : W P ro n (.cond c x y) X s ds w := by
  by_cases h : p
  · exact jjJ (by rw [hc]; simp [h]) (h1 h)
  · exact jjK (by rw [hc]; simp [h]) (h2 h)
theorem jjO {c : Operand} {x y : Code} {b : Bool} (hc : ev n s c = .bool b) (h1 : b = true → W P ro n x X s ds w) (h2 : b = false → W P ro n y X s ds w) : W P ro n (.cond c x y) X s ds w := by
  cases b
  · exact jjK hc (h2 rfl)
  · exact jjJ hc (h1 rfl)

theorem W.fix {c : Code} {d : Nat} {v : Value} (hv : s d = v) (h : W P ro n c X (upd s d v) ds w) : W P ro n c X s ds w := by
  have : upd s d v = s := by
    funext i
    simp only [upd]
    cases h : Nat.beq i d
    · rfl
    · rw [Nat.eq_of_beq_eq_true h]; exact hv.symm
  rw [← this]; exact h

/-! ### A world whose heap only grows -/
class Ext (w w' : World) : Prop where
  b : Below w.heap.size w w'
/-- One step of growth, as it stands in a proof: the elder world is found by the later one. -/
class Step (w : outParam World) (w' : World) : Prop where
  b : Below w.heap.size w w'
instance Ext.refl (w : World) : Ext w w := ⟨Below.refl _ _⟩
instance Ext.step {w w1 w2 : World} [h2 : Step w1 w2] [h1 : Ext w w1] : Ext w w2 := ⟨h1.b.trans (h2.b.mono h1.b.size)⟩
theorem Ext.trans {w w1 w2 : World} (h1 : Ext w w1) (h2 : Ext w1 w2) : Ext w w2 := ⟨h1.b.trans (h2.b.mono h1.b.size)⟩
theorem Step.ext {w w' : World} (h : Step w w') : Ext w w' := ⟨h.b⟩
theorem Ext.toStep {w w' : World} (h : Ext w w') : Step w w' := ⟨h.b⟩
theorem Ext.size {w w' : World} (h : Ext w w') : w.heap.size ≤ w'.heap.size := h.b.size
theorem Step.size {w w' : World} (h : Step w w') : w.heap.size ≤ w'.heap.size := h.b.size
theorem Ext.block {w w' : World} (h : Ext w w') {k : Nat} (hk : k < w.heap.size) : w'.heap[k]? = w.heap[k]? := h.b.block k hk
theorem Ext.block' {w w' : World} (h : Ext w w') {k : Nat} {o : Obj} (hk : w.heap[k]? = some o) : w'.heap[k]? = some o :=
  (h.block (Array.getElem?_eq_some_iff.1 hk).1).trans hk

theorem lt_of_cell {w : World} {b o : Nat} {v : Value} (h : w.cell? ⟨b, o, none⟩ = some v) : b < w.heap.size := by
  unfold World.cell? at h
  cases hb : w.heap[b]? with
  | none => simp [hb] at h
  | some x => exact (Array.getElem?_eq_some_iff.1 hb).1
theorem Ext.cell {w w' : World} (h : Ext w w') {b o : Nat} {v : Value} (hc : w.cell? ⟨b, o, none⟩ = some v) : w'.cell? ⟨b, o, none⟩ = some v :=
  (h.b.cell (p := ⟨b, o, none⟩) (lt_of_cell hc)).trans hc

/-- The cells from place o of block b on. -/
class At (w : World) (b o : Nat) (cs : outParam (List Value)) : Prop where
  h : ∀ (i : Nat) (v : Value), cs[i]? = some v → w.cell? ⟨b, o + i, none⟩ = some v
instance At.step {w w' : World} {b o : Nat} {cs : List Value} [hs : Step w w'] [h : At w b o cs] : At w' b o cs :=
  ⟨fun i v hv => Ext.cell (w := w) ⟨hs.b⟩ (h.h i v hv)⟩
theorem At.ext {w w' : World} {b o : Nat} {cs : List Value} (h : At w b o cs) (hs : Ext w w') : At w' b o cs := ⟨fun i v hv => hs.cell (h.h i v hv)⟩
theorem At.tail {w : World} {b o : Nat} {c : Value} {cs : List Value} (h : At w b o (c :: cs)) : At w b (o + 1) cs :=
  ⟨fun i v hv => by have := h.h (i + 1) v (by simpa using hv); rw [show o + 1 + i = o + (i + 1) from by omega]; exact this⟩
theorem At.drop {w : World} {b o : Nat} {cs : List Value} (h : At w b o cs) (k : Nat) : At w b (o + k) (cs.drop k) :=
  ⟨fun i v hv => by have := h.h (k + i) v (by simpa using hv); rw [show o + k + i = o + (k + i) from by omega]; exact this⟩
theorem At.lt {w : World} {b o : Nat} {c : Value} {cs : List Value} (h : At w b o (c :: cs)) : b < w.heap.size := lt_of_cell (h.h 0 c rfl)

/-! ### Functions -/
/-- Function f, called with args in w, returns a value v; the heap has only grown; R. -/
def Ct (P : Program) (f : Nat) (args : List Value) (w : World) (R : Value → World → Prop) : Prop :=
  Calls P f args.toArray w fun e w' => ∃ v, e = .returned v ∧ Ext w w' ∧ R v w'

theorem Ct.mono {f : Nat} {args : List Value} {R R' : Value → World → Prop} (h : Ct P f args w R) (hr : ∀ v w', Ext w w' → R v w' → R' v w') : Ct P f args w R' :=
  Calls.mono h fun _ _ ⟨v, e, x, r⟩ => ⟨v, e, x, hr v _ x r⟩

/-- What a function hands back, out of its slots. -/
def finR (P : Program) (fn : Func) (n : Nat) (R : Value → World → Prop) : Kont := fun s ds w =>
  ds = [] ∧ ∃ v, (results fn (mkA n s []).tmps).run P w = .ok v w ∧ R v w
end rules

/-- The body of a function and how many slots it has, for one program. -/
class FnI (P : Program) (f : Nat) (fn : outParam Func) (c : outParam Code) (n : outParam Nat) : Prop where
  hf : P.funcs[f]? = some fn
  hb : fn.body = some c
  hn : fn.ntmps = n

theorem Calls.ofW {P : Program} {f n : Nat} {fn : Func} {c : Code} [hi : FnI P f fn c n] {args : List Value} {w : World} {R : Ending → World → Prop} (hl : args.length ≤ n)
    (h : W P none n c { nx := finR P fn n (fun v => R (.returned v)), rt := finR P fn n (fun v => R (.returned v)), ex := fun _ _ _ _ => False } (fun i => args.getD i undef) [] w) :
    Calls P f args.toArray w R := by
  refine (callsIn_wide (n := 0)).1 (callsIn_of_wp hi.hf hi.hb trivial ?_)
  rw [hi.hn, List.size_toArray, mkA_init n args hl]
  refine wpIn_mono h fun e a w' hp => ?_
  cases e with
  | normal => obtain ⟨s, ds, rfl, rfl, v, hr, hR⟩ := hp; exact ⟨rfl, v, hr, hR⟩
  | ret => obtain ⟨s, ds, rfl, rfl, v, hr, hR⟩ := hp; exact ⟨rfl, v, hr, hR⟩
  | exit i => obtain ⟨s, ds, rfl, h⟩ := hp; exact h.elim
  | goto l => exact hp.elim
  | panic c => exact hp.elim
  | outgrown => exact hp.elim

/-- A function's contract from its body. -/
theorem Ct.ofW {P : Program} {f n : Nat} {fn : Func} {c : Code} [hi : FnI P f fn c n] {args : List Value} {w : World} {R : Value → World → Prop} (hl : args.length ≤ n)
    (h : W P none n c { nx := finR P fn n (fun v w' => Ext w w' ∧ R v w'), rt := finR P fn n (fun v w' => Ext w w' ∧ R v w'), ex := fun _ _ _ _ => False } (fun i => args.getD i undef) [] w) :
    Ct P f args w R :=
  Calls.ofW hl (W.mono h (fun _ _ _ ⟨hd, v, hr, hR⟩ => ⟨hd, v, hr, v, rfl, hR⟩) (fun _ _ _ ⟨hd, v, hr, hR⟩ => ⟨hd, v, hr, v, rfl, hR⟩) (fun _ _ _ _ h => h))

theorem jB {P : Program} {fn : Func} {n t : Nat} {R : Value → World → Prop} {s : Sl} {w : World} (hf : fn.results = #[.tmp t]) (ht : Nat.blt t n = true) (h : R (s t) w) : finR P fn n R s [] w := by
  refine ⟨rfl, s t, ?_, h⟩
  have : (mkA n s []).tmps[t]?.getD undef = s t := by
    rw [mkA_getElem?, if_pos (by simpa using ht)]; rfl
  simp [results, hf, this]
theorem jA {P : Program} {fn : Func} {n : Nat} {R : Value → World → Prop} {s : Sl} {w : World} (hf : fn.results = #[]) (h : R (.tuple #[]) w) : finR P fn n R s [] w :=
  ⟨rfl, .tuple #[], by simp [results, hf], h⟩
theorem jC {P : Program} {fn : Func} {n t u : Nat} {R : Value → World → Prop} {s : Sl} {w : World} (hf : fn.results = #[.tmp t, .tmp u]) (ht : Nat.blt t n = true) (hu : Nat.blt u n = true) (h : R (.tuple #[s t, s u]) w) : finR P fn n R s [] w := by
  refine ⟨rfl, _, ?_, h⟩
  have e1 : (mkA n s []).tmps[t]?.getD undef = s t := by
    rw [mkA_getElem?, if_pos (by simpa using ht)]; rfl
  have e2 : (mkA n s []).tmps[u]?.getD undef = s u := by
    rw [mkA_getElem?, if_pos (by simpa using hu)]; rfl
  simp [results, hf, e1, e2]
attribute [irreducible] W Ct finR
end Go.Proofs.Ytcelhpbcdpefnaa
