/- The proof engine, part 2: one rule for each operation of a region that runs in the order of its text. -/
import Derived.Test.YtcelhpbcdpefnaaEng1
namespace Go.Proofs.Ytcelhpbcdpefnaa
open Go.RowKit

/-! ### What a type is, for one program -/
class TU (P : Program) (t : Nat) (d : outParam TypeDesc) : Prop where
  h : P.underlying t = some d
class TS (P : Program) (t : Nat) (z : outParam Value) (size bytes : outParam Nat) : Prop where
  h : (P.info? t).map (fun i => (i.zero, i.size, i.bytes)) = some (some z, size, bytes)

theorem TS.info {P : Program} {t : Nat} {z : Value} {size bytes : Nat} (h : TS P t z size bytes) : ∃ i, P.info? t = some i ∧ i.zero = some z ∧ i.size = size ∧ i.bytes = bytes := by
  have := h.h
  cases hi : P.info? t with
  | none => simp [hi] at this
  | some i => simp [hi] at this; exact ⟨i, rfl, this.1, this.2.1, this.2.2⟩

/-- Field i of struct type t lies at off, and is no empty one. -/
class FA (P : Program) (t i : Nat) (off : outParam Nat) : Prop where
  h : ∃ (fs : Array Field) (f : Field) (z : Value) (size bytes : Nat), P.underlying t = some (.struct fs) ∧ fs[i]? = some f ∧ f.offset = off ∧ TS P f.type z (size + 1) bytes

def TypeDesc.isInt : TypeDesc → Bool
  | .int _ => true
  | _ => false
def TypeDesc.isAgg : TypeDesc → Bool
  | .struct _ => true
  | .array _ _ => true
  | _ => false

section
variable {P : Program} {t : Nat} {d : TypeDesc} {z : Value} {size bytes : Nat} (w : World)
theorem run_underlying' (h : TU P t d) : (underlying t).run P w = .ok d w := run_underlying h.h w
theorem run_isAgg (h : TU P t d) : (isAgg t).run P w = .ok (TypeDesc.isAgg d) w := by
  simp only [isAgg, Sem.run_bind, run_underlying' w h, Result.andThen_ok]
  cases d <;> rfl
theorem run_sizeOf' (h : TS P t z size bytes) : (sizeOf t).run P w = .ok size w := by
  obtain ⟨i, hi, _, hs, _⟩ := h.info
  simp [sizeOf, typeInfo, hi, hs]
theorem run_zeroValue' (h : TS P t z size bytes) : (zeroValue t).run P w = .ok z w := by
  obtain ⟨i, hi, hz, _, _⟩ := h.info
  simp [zeroValue, typeInfo, hi, hz]
end

/-! ### One operation -/
def OpW (P : Program) (ro : Option Nat) (n : Nat) (o : Oper) (s : Sl) (w : World) (K : Value → World → Prop) : Prop :=
  ∀ ds, o.wpIn (Fw ro) 0 P (mkA n s ds) w (fun a w' => ∃ v, a = (mkA n s ds).put o.dst v ∧ K v w') (fun _ _ _ => False)

def Op.noDefer : Op → Bool
  | .defer _ => false
  | _ => true

section
variable {P : Program} {ro : Option Nat} {n : Nat} {o : Oper} {s : Sl} {w w' : World} {K : Value → World → Prop} {v : Value}

theorem OpW.semAt (hd : Op.noDefer o.op = true) (ρ : Operand → Value) : o.semAt ro ρ = execOp ρ o :=
  Oper.semAt_eq ro ρ o (fun c hc => by rw [hc] at hd; cases hd)

theorem OpW.ofRun (hd : Op.noDefer o.op = true) (hr : (execOp (ev n s) o).run P w = .ok (.value v) w') (hk : K v w') : OpW P ro n o s w K := by
  intro ds
  refine ⟨fun _ _ => trivial, ?_⟩
  rw [mkA_eval, show (Fw ro).round = ro from rfl, OpW.semAt hd, hr]
  exact ⟨v, rfl, hk⟩
theorem OpW.ofRunU (hd : Op.noDefer o.op = true) (hr : (execOp (ev n s) o).run P w = .ok .skip w') (hk : K undef w') : OpW P ro n o s w K := by
  intro ds
  refine ⟨fun _ _ => trivial, ?_⟩
  rw [mkA_eval, show (Fw ro).round = ro from rfl, OpW.semAt hd, hr]
  exact ⟨undef, rfl, hk⟩
theorem OpW.ofCalls (hd : Op.noDefer o.op = true) {f : Nat} {args : List Value} {R : Ending → World → Prop} (hr : (execOp (ev n s) o).run P w = .ok (.enter f args.toArray) w')
    (hc : Calls P f args.toArray w' R) (hk : ∀ e w'', R e w'' → ∃ v, e = .returned v ∧ K v w'') : OpW P ro n o s w K := by
  intro ds
  refine ⟨fun _ _ => trivial, ?_⟩
  rw [mkA_eval, show (Fw ro).round = ro from rfl, OpW.semAt hd, hr]
  refine ⟨fun h => by simp [Fw, Fence.wide] at h, ?_⟩
  have hc' : CallsIn (Fw ro) (0 - 1) P f args.toArray w' R := by
    have := (callsIn_wide (n := 0)).2 hc
    exact this
  refine hc'.mono fun e w'' hR => ?_
  obtain ⟨v, rfl, hk⟩ := hk e w'' hR
  exact ⟨v, rfl, hk⟩
end

/-! ### A list of operations -/
def asB : Option Value → Option Bool
  | some (.bool b) => some b
  | _ => none
def gdst (all : List Oper) (j : Nat) : Option Nat := (all[j]?).bind (·.dst)

def Ops (P : Program) (ro : Option Nat) (n : Nat) (all : List Oper) : List Oper → (Sl → World → Prop) → Sl → World → Prop
  | [], K, s, w => K s w
  | o :: rest, K, s, w =>
    if Region.wanted o (fun j => asB ((gdst all j).bind (fun d => if d < n then some (s d) else none))) then
      OpW P ro n o s w (fun v w' => Ops P ro n all rest K (putS s o.dst v) w')
    else Ops P ro n all rest K (putS s o.dst undef) w

theorem yielded_mkA (all : List Oper) (n : Nat) (s : Sl) (ds : List Deferred) (j : Nat) :
    yielded all.toArray (mkA n s ds).tmps j = asB ((gdst all j).bind (fun d => if d < n then some (s d) else none)) := by
  unfold yielded gdst
  simp only [List.getElem?_toArray]
  have e : ((all[j]?).bind (·.dst)).bind ((mkA n s ds).tmps[·]?) = ((all[j]?).bind (·.dst)).bind (fun d => if d < n then some (s d) else none) := by
    cases (all[j]?).bind (·.dst) with
    | none => rfl
    | some d => simp only [Option.bind_some, mkA_getElem?]
  rw [e]
  generalize ((all[j]?).bind (·.dst)).bind (fun d => if d < n then some (s d) else none) = o
  cases o with
  | none => rfl
  | some v => cases v <;> rfl

theorem Ops.sound {P : Program} {ro : Option Nat} {n : Nat} {all : List Oper} (K : Sl → World → Prop) (ds : List Deferred) :
    ∀ (l : List Oper) (k : Nat) (s : Sl) (w : World), (∀ j : Nat, l[j]? = all[k + j]?) → Ops P ro n all l K s w →
      wpOpsIn (Fw ro) 0 P all.toArray (fun e a w => e = .normal ∧ ∃ s', a = mkA n s' ds ∧ K s' w) (List.range' k l.length) (mkA n s ds) w := by
  intro l
  induction l with
  | nil => intro k s w _ h; exact ⟨rfl, s, rfl, h⟩
  | cons o rest ih =>
    intro k s w hl h
    have h0 : all[k]? = some o := by simpa using (hl 0).symm
    have ih' := ih (k + 1)
    simp only [List.length_cons, List.range'_succ, wpOpsIn, List.getElem?_toArray, h0]
    have hyf : (yielded all.toArray (mkA n s ds).tmps) = (fun j => asB ((gdst all j).bind (fun d => if d < n then some (s d) else none))) :=
      funext fun j => yielded_mkA all n s ds j
    have hrest : ∀ j : Nat, rest[j]? = all[k + 1 + j]? := fun j => by
      have := hl (j + 1)
      rw [show k + 1 + j = k + (j + 1) from by omega]
      simpa using this
    rw [hyf]
    unfold Ops at h
    split
    · rename_i hw
      rw [if_pos hw] at h
      obtain ⟨ha, hu⟩ := h ds
      refine ⟨fun _ _ => trivial, ?_⟩
      revert hu
      generalize (o.semAt (Fw ro).round (mkA n s ds).eval).run P w = r
      intro hu
      have key : ∀ v w', Ops P ro n all rest K (putS s o.dst v) w' → wpOpsIn (Fw ro) 0 P all.toArray (fun e a w => e = .normal ∧ ∃ s', a = mkA n s' ds ∧ K s' w) (List.range' (k + 1) rest.length) ((mkA n s ds).put o.dst v) w' := fun v w' hk => by
        rw [mkA_put]; exact ih' _ _ hrest hk
      match r, hu with
      | .ok (.value v) w', hu => obtain ⟨v', e, hk⟩ := hu; simp only [Oper.uponIn]; rw [e]; exact key _ _ hk
      | .ok .skip w', hu => obtain ⟨v', e, hk⟩ := hu; simp only [Oper.uponIn]; rw [e]; exact key _ _ hk
      | .ok (.defer d) w', hu => obtain ⟨v', e, hk⟩ := hu; simp only [Oper.uponIn]; rw [e]; exact key _ _ hk
      | .ok (.enter f args) w', hu =>
        obtain ⟨h1, h2⟩ := hu
        refine ⟨h1, h2.mono fun e w'' hR => ?_⟩
        cases e with
        | returned v => obtain ⟨v', e, hk⟩ := hR; show wpOpsIn _ _ _ _ _ _ ((mkA n s ds).put o.dst v) w''; rw [e]; exact key _ _ hk
        | panicked c => exact hR.elim
        | outgrown => obtain ⟨_, _, h⟩ := hR; exact h.elim
      | .ok (.row row args) w', hu =>
        obtain ⟨h1, h2⟩ := hu
        refine ⟨h1, h2.mono fun v w'' hR => ?_⟩
        obtain ⟨v', e, hk⟩ := hR
        rw [e]; exact key _ _ hk
      | .ok (.round l f tmps assign body) w', hu =>
        obtain ⟨h1, h2⟩ := hu
        refine ⟨h1, h2.mono fun e w'' hR => ?_⟩
        cases e with
        | returned v => obtain ⟨v', e, hk⟩ := hR; show wpOpsIn _ _ _ _ _ _ ((mkA n s ds).put o.dst v) w''; rw [e]; exact key _ _ hk
        | panicked c => exact hR.elim
        | outgrown => obtain ⟨_, _, h⟩ := hR; exact h.elim
      | .halt (.panic v) w', hu => exact hu.elim
    · rename_i hw
      rw [if_neg hw] at h
      refine ⟨fun _ _ => trivial, ?_⟩
      rw [mkA_put]
      exact ih' _ _ hrest h

section
variable {P : Program} {ro : Option Nat} {n : Nat} {X : Ctx} {s : Sl} {ds : List Deferred} {w : World}

/-- A region that runs in the order of its text. -/
theorem jjC {id : Nat} {ops : List Oper} (h : Ops P ro n ops ops (fun s' w' => X.nx s' ds w') s w) : W P ro n (.region id ops.toArray false) X s ds w := by
  unfold W
  refine wpIn_mono (Q := fun e a w => e = .normal ∧ ∃ s', a = mkA n s' ds ∧ X.nx s' ds w) (wpIn_region ?_) ?_
  · have := Ops.sound _ ds ops 0 s w (by simp) h
    rw [List.range_eq_range']
    simpa using this
  · rintro e a w ⟨rfl, s', rfl, h⟩
    exact ⟨s', ds, rfl, h⟩
end

section rules
variable {P : Program} {ro : Option Nat} {n : Nat} {all rest : List Oper} {K : Sl → World → Prop} {s : Sl} {w : World}

theorem jz (h : K s w) : Ops P ro n all [] K s w := h

theorem Ops.step {o : Oper} (hg : o.guard = none) (h : OpW P ro n o s w (fun v w' => Ops P ro n all rest K (putS s o.dst v) w')) : Ops P ro n all (o :: rest) K s w := by
  unfold Ops
  rw [if_pos (by simp [Region.wanted, hg])]
  exact h

/-- A guarded operation: the guard says yes. -/
theorem jT {dst : Option Nat} {op : Op} {ty : Nat} {pos : String} {af : Array Edge} {j d : Nat} {want : Bool} (hj : gdst all j = some d) (hd : Nat.blt d n = true) (hv : s d = .bool want)
    (h : Ops P ro n all (⟨dst, op, ty, pos, af, none⟩ :: rest) K s w) : Ops P ro n all (⟨dst, op, ty, pos, af, some (j, want)⟩ :: rest) K s w := by
  unfold Ops at h ⊢
  have hd' : d < n := by simpa using hd
  rw [if_pos (by simp [Region.wanted])] at h
  rw [if_pos (by simp [Region.wanted, hj, hd', hv, asB])]
  exact h
/-- The guard says no: the operation is passed over. -/
theorem jU {dst : Option Nat} {op : Op} {ty : Nat} {pos : String} {af : Array Edge} {j d : Nat} {want b : Bool} (hj : gdst all j = some d) (hd : Nat.blt d n = true) (hv : s d = .bool b) (hb : (b == want) = false)
    (h : Ops P ro n all rest K (putS s dst undef) w) : Ops P ro n all (⟨dst, op, ty, pos, af, some (j, want)⟩ :: rest) K s w := by
  unfold Ops
  have hd' : d < n := by simpa using hd
  rw [if_neg (by simp [Region.wanted, hj, hd', hv, asB]; intro h; simp [h] at hb)]
  exact h
/-- The guard's own operation was passed over. -/
theorem jV {dst : Option Nat} {op : Op} {ty : Nat} {pos : String} {af : Array Edge} {j d : Nat} {want : Bool} (hj : gdst all j = some d) (hv : s d = undef)
    (h : Ops P ro n all rest K (putS s dst undef) w) : Ops P ro n all (⟨dst, op, ty, pos, af, some (j, want)⟩ :: rest) K s w := by
  unfold Ops
  rw [if_neg ?_]
  · exact h
  · by_cases hd' : d < n <;> simp [Region.wanted, hj, hd', hv, undef, asB]

theorem upd_same_eq {d : Nat} {v : Value} (hv : s d = v) : upd s d v = s := by
  funext i
  simp only [upd]
  cases h : Nat.beq i d
  · rfl
  · rw [Nat.eq_of_beq_eq_true h]; exact hv.symm

theorem Ops.fix {l : List Oper} {d : Nat} {v : Value} (hv : s d = v) (h : Ops P ro n all l K (upd s d v) w) : Ops P ro n all l K s w := by
  rw [upd_same_eq hv] at h; exact h

/-- The guard is a test: both ways. -/
theorem jjL {dst : Option Nat} {op : Op} {ty : Nat} {pos : String} {af : Array Edge} {j d : Nat} {want : Bool} {p : Prop} [hp : Decidable p] (_hj : gdst all j = some d) (hv : s d = .bool (@decide p hp))
    (hy : p → Ops P ro n all (⟨dst, op, ty, pos, af, some (j, want)⟩ :: rest) K (upd s d (.bool true)) w)
    (hn : ¬ p → Ops P ro n all (⟨dst, op, ty, pos, af, some (j, want)⟩ :: rest) K (upd s d (.bool false)) w) : Ops P ro n all (⟨dst, op, ty, pos, af, some (j, want)⟩ :: rest) K s w := by
  by_cases h : p
  · exact Ops.fix (by rw [hv]; simp [h]) (hy h)
  · exact Ops.fix (by rw [hv]; simp [h]) (hn h)
theorem jjM {dst : Option Nat} {op : Op} {ty : Nat} {pos : String} {af : Array Edge} {j d : Nat} {want : Bool} {b : Bool} (_hj : gdst all j = some d) (hv : s d = .bool b)
    (hy : b = true → Ops P ro n all (⟨dst, op, ty, pos, af, some (j, want)⟩ :: rest) K (upd s d (.bool true)) w)
    (hn : b = false → Ops P ro n all (⟨dst, op, ty, pos, af, some (j, want)⟩ :: rest) K (upd s d (.bool false)) w) : Ops P ro n all (⟨dst, op, ty, pos, af, some (j, want)⟩ :: rest) K s w := by
  cases b
  · exact Ops.fix hv (hn rfl)
  · exact Ops.fix hv (hy rfl)

variable {d : Nat} {ty : Nat} {pos : String} {af : Array Edge}

theorem Ops.ofRun {op : Op} {v : Value} {w' : World} (hd : Op.noDefer op = true) (hr : (execOp (ev n s) ⟨some d, op, ty, pos, af, none⟩).run P w = .ok (.value v) w')
    (h : Ops P ro n all rest K (upd s d v) w') : Ops P ro n all (⟨some d, op, ty, pos, af, none⟩ :: rest) K s w :=
  Ops.step rfl (OpW.ofRun hd hr h)
theorem Ops.ofRunU {op : Op} {dst : Option Nat} {w' : World} (hd : Op.noDefer op = true) (hr : (execOp (ev n s) ⟨dst, op, ty, pos, af, none⟩).run P w = .ok .skip w')
    (h : Ops P ro n all rest K (putS s dst undef) w') : Ops P ro n all (⟨dst, op, ty, pos, af, none⟩ :: rest) K s w :=
  Ops.step rfl (OpW.ofRunU hd hr h)

theorem jI {x : Operand} {v : Value} (hx : ev n s x = v) (h : Ops P ro n all rest K (upd s d v) w) : Ops P ro n all (⟨some d, .move x, ty, pos, af, none⟩ :: rest) K s w :=
  Ops.ofRun rfl (by simp [execOp, hx]) h
theorem jJ {x : Operand} {v : Value} (hx : ev n s x = v) (h : Ops P ro n all rest K (upd s d v) w) : Ops P ro n all (⟨some d, .assign x, ty, pos, af, none⟩ :: rest) K s w :=
  Ops.ofRun rfl (by simp [execOp, hx]) h
theorem jK {c x y : Operand} {v : Value} (hc : ev n s c = .bool true) (hx : ev n s x = v) (h : Ops P ro n all rest K (upd s d v) w) : Ops P ro n all (⟨some d, .pick c x y, ty, pos, af, none⟩ :: rest) K s w :=
  Ops.ofRun rfl (by simp [execOp, asBool, hc, hx]) h
theorem jL {c x y : Operand} {v : Value} (hc : ev n s c = .bool false) (hx : ev n s y = v) (h : Ops P ro n all rest K (upd s d v) w) : Ops P ro n all (⟨some d, .pick c x y, ty, pos, af, none⟩ :: rest) K s w :=
  Ops.ofRun rfl (by simp [execOp, asBool, hc, hx]) h
theorem ju {x : Operand} {i : Nat} {vs : List Value} {v : Value} (hx : ev n s x = .tuple vs.toArray) (hv : vs[i]? = some v) (h : Ops P ro n all rest K (upd s d v) w) :
    Ops P ro n all (⟨some d, .extract x i, ty, pos, af, none⟩ :: rest) K s w :=
  Ops.ofRun rfl (by simp [execOp, Instr.extract, hx, hv]) h
theorem jv {f : Fn} {first cap : Array Operand} (h : Ops P ro n all rest K (upd s d (.func f (first.toList.map (ev n s)).toArray (cap.toList.map (ev n s)).toArray)) w) :
    Ops P ro n all (⟨some d, .makeFunc f first cap, ty, pos, af, none⟩ :: rest) K s w :=
  Ops.ofRun rfl (by simp [execOp, Instr.makeFunc, ← Array.toList_map]) h
theorem jw {x : Operand} {a : Addr} (hx : ev n s x = .pointer (some a)) (h : Ops P ro n all rest K (upd s d (.pointer (some a))) w) :
    Ops P ro n all (⟨some d, .nilCheck x, ty, pos, af, none⟩ :: rest) K s w :=
  Ops.ofRun rfl (by simp [execOp, hx]) h

/-! numbers -/
section num
variable {x y : Operand} {t t' : Nat} {a b : Int} {k : IntKind}
theorem jY (hx : ev n s x = .int .i64 a) (hy : ev n s y = .int .i64 b) (hr : -9223372036854775808 ≤ a + b ∧ a + b ≤ 9223372036854775807) (h : Ops P ro n all rest K (upd s d (.int .i64 (a + b))) w) :
    Ops P ro n all (⟨some d, .binOp .add t x y t', ty, pos, af, none⟩ :: rest) K s w :=
  Ops.ofRun rfl (by have : IntKind.i64.wrap (a + b) = a + b := by rw [IntKind.wrap_i64]; omega
                    simp [execOp, hx, hy, go_sem, this]) h
theorem jZ (hx : ev n s x = .int .i64 a) (hy : ev n s y = .int .i64 b) (hr : -9223372036854775808 ≤ a - b ∧ a - b ≤ 9223372036854775807) (h : Ops P ro n all rest K (upd s d (.int .i64 (a - b))) w) :
    Ops P ro n all (⟨some d, .binOp .sub t x y t', ty, pos, af, none⟩ :: rest) K s w :=
  Ops.ofRun rfl (by have : IntKind.i64.wrap (a - b) = a - b := by rw [IntKind.wrap_i64]; omega
                    simp [execOp, hx, hy, go_sem, this]) h
theorem Ops.mul (hx : ev n s x = .int .i64 a) (hy : ev n s y = .int .i64 b) (hr : -9223372036854775808 ≤ a * b ∧ a * b ≤ 9223372036854775807) (h : Ops P ro n all rest K (upd s d (.int .i64 (a * b))) w) :
    Ops P ro n all (⟨some d, .binOp .mul t x y t', ty, pos, af, none⟩ :: rest) K s w :=
  Ops.ofRun rfl (by have : IntKind.i64.wrap (a * b) = a * b := by rw [IntKind.wrap_i64]; omega
                    simp [execOp, hx, hy, go_sem, this]) h
theorem jX (hx : ev n s x = .int k a) (hy : ev n s y = .int k b) (h : Ops P ro n all rest K (upd s d (.bool (decide (a < b)))) w) :
    Ops P ro n all (⟨some d, .binOp .lss t x y t', ty, pos, af, none⟩ :: rest) K s w :=
  Ops.ofRun rfl (by simp [execOp, hx, hy, go_sem]) h
theorem jd (hx : ev n s x = .int k a) (hy : ev n s y = .int k b) (h : Ops P ro n all rest K (upd s d (.bool (decide (a ≤ b)))) w) :
    Ops P ro n all (⟨some d, .binOp .leq t x y t', ty, pos, af, none⟩ :: rest) K s w :=
  Ops.ofRun rfl (by simp [execOp, hx, hy, go_sem]) h
theorem je (hx : ev n s x = .int k a) (hy : ev n s y = .int k b) (h : Ops P ro n all rest K (upd s d (.bool (decide (b < a)))) w) :
    Ops P ro n all (⟨some d, .binOp .gtr t x y t', ty, pos, af, none⟩ :: rest) K s w :=
  Ops.ofRun rfl (by simp [execOp, hx, hy, go_sem]) h
theorem jf (hx : ev n s x = .int k a) (hy : ev n s y = .int k b) (h : Ops P ro n all rest K (upd s d (.bool (decide (b ≤ a)))) w) :
    Ops P ro n all (⟨some d, .binOp .geq t x y t', ty, pos, af, none⟩ :: rest) K s w :=
  Ops.ofRun rfl (by simp [execOp, hx, hy, go_sem]) h
theorem jb (hx : ev n s x = .int k a) (hy : ev n s y = .int k b) (h : Ops P ro n all rest K (upd s d (.bool (decide (a = b)))) w) :
    Ops P ro n all (⟨some d, .binOp .eql t x y t', ty, pos, af, none⟩ :: rest) K s w :=
  Ops.ofRun rfl (by
    have e : decide (a = b) = (a == b) := by by_cases h : a = b <;> simp [h]
    rw [e]
    simp [execOp, hx, hy, go_sem]) h
theorem jc (hx : ev n s x = .int k a) (hy : ev n s y = .int k b) (h : Ops P ro n all rest K (upd s d (.bool (decide (¬ a = b)))) w) :
    Ops P ro n all (⟨some d, .binOp .neq t x y t', ty, pos, af, none⟩ :: rest) K s w :=
  Ops.ofRun rfl (by
    have e : decide (¬ a = b) = (a != b) := by by_cases h : a = b <;> simp [h]
    rw [e]
    simp [execOp, hx, hy, go_sem]) h
theorem jp (hx : ev n s x = .bool true) (h : Ops P ro n all rest K (upd s d (.bool false)) w) : Ops P ro n all (⟨some d, .unOp .not t x, ty, pos, af, none⟩ :: rest) K s w :=
  Ops.ofRun rfl (by simp [execOp, hx, go_sem, Op.unary]) h
theorem jq (hx : ev n s x = .bool false) (h : Ops P ro n all rest K (upd s d (.bool true)) w) : Ops P ro n all (⟨some d, .unOp .not t x, ty, pos, af, none⟩ :: rest) K s w :=
  Ops.ofRun rfl (by simp [execOp, hx, go_sem, Op.unary]) h
theorem jr {p : Prop} [hp : Decidable p] (hx : ev n s x = .bool (@decide p hp)) (h : Ops P ro n all rest K (upd s d (.bool (decide (¬ p)))) w) : Ops P ro n all (⟨some d, .unOp .not t x, ty, pos, af, none⟩ :: rest) K s w :=
  Ops.ofRun rfl (by simp [execOp, hx, go_sem, Op.unary]) h
theorem js {q : Bool} (hx : ev n s x = .bool q) (h : Ops P ro n all rest K (upd s d (.bool (!q))) w) : Ops P ro n all (⟨some d, .unOp .not t x, ty, pos, af, none⟩ :: rest) K s w :=
  Ops.ofRun rfl (by simp [execOp, hx, go_sem, Op.unary]) h
end num

/-! calls -/
theorem Ops.callR {args : Array Operand} {at_ : Array Nat} {fv : Operand} {g : Nat} {cap vs : List Value} {R : Ending → World → Prop} (hf : ev n s fv = .func (.func g) #[] cap.toArray)
    (he : ∀ args w, (callFunc g args).run P w = .ok (.enter g args) w) (ha : args.toList.map (ev n s) ++ cap = vs) (hc : Calls P g vs.toArray w R)
    (hk : ∀ e w', R e w' → ∃ v, e = .returned v ∧ Ops P ro n all rest K (upd s d v) w') :
    Ops P ro n all (⟨some d, .call { callee := .value fv, args := args, argTypes := at_ }, ty, pos, af, none⟩ :: rest) K s w := by
  refine Ops.step rfl (OpW.ofCalls (f := g) (args := vs) rfl ?_ hc hk)
  subst ha
  have e : (args.map (ev n s)) ++ cap.toArray = (args.toList.map (ev n s) ++ cap).toArray := by
    apply Array.ext'; simp
  simp [execOp, hf, go_sem, he, e]

class Enters (P : Program) (g : Nat) : Prop where
  h : ∀ args w, (callFunc g args).run P w = .ok (.enter g args) w

/-- A call of a function that has its contract. -/
theorem jjQ {args : Array Operand} {at_ : Array Nat} {fv : Operand} {g : Nat} {cap vs : List Value} [he : Enters P g] {R : Value → World → Prop} (hc : Ct P g vs w R) (hf : ev n s fv = .func (.func g) #[] cap.toArray)
    (ha : args.toList.map (ev n s) ++ cap = vs) (hk : ∀ v w', Step w w' → R v w' → Ops P ro n all rest K (upd s d v) w') :
    Ops P ro n all (⟨some d, .call { callee := .value fv, args := args, argTypes := at_ }, ty, pos, af, none⟩ :: rest) K s w :=
  Ops.callR (R := fun e w' => ∃ v, e = .returned v ∧ Ext w w' ∧ R v w') hf he.h ha (by unfold Ct at hc; exact hc) fun _ w' ⟨v, e, x, r⟩ => ⟨v, e, hk v w' x.toStep r⟩

/-! memory -/
section mem
variable {x y : Operand} {t : Nat} {b o : Nat} {cs : List Value}

theorem jy {v : Value} (hx : ev n s x = v) (h : ∀ b w', b = w.heap.size → w'.heap.size = w.heap.size + 1 → Step w w' → w'.heap[b]? = some (.cells v.cells t (0, 0)) → Ops P ro n all rest K (upd s d (.pointer (some ⟨b, 0, none⟩))) w') :
    Ops P ro n all (⟨some d, .box t x, ty, pos, af, none⟩ :: rest) K s w := by
  refine Ops.ofRun (w' := w.alloc (.cells v.cells t)) rfl (by simp [execOp, hx, Instr.box, newVar, newRow]) (h w.heap.size _ rfl (by simp) ⟨(Below.refl _ w).alloc (Nat.le_refl _) _⟩ (World.alloc_heap_new w _))

theorem At.ofBlock {w : World} {b : Nat} {cs : List Value} {t : Nat} {fr : Nat × Nat} (h : w.heap[b]? = some (.cells cs.toArray t fr)) : At w b 0 cs :=
  ⟨fun i v hv => by simp [World.cell?, h, hv]⟩

theorem run_loadVar_cell {w : World} {v : Value} {dd : TypeDesc} (ht : TU P t dd) (hs : TypeDesc.isAgg dd = false) (hc : w.cell? ⟨b, o, none⟩ = some v) : (loadVar t ⟨b, o, none⟩).run P w = .ok v w := by
  simp [loadVar, run_isAgg w ht, hs, hc]
theorem run_loadVar_agg {w : World} {dd : TypeDesc} {z : Value} {size bytes : Nat} (ht : TU P t dd) (hs : TypeDesc.isAgg dd = true) (hz : TS P t z size bytes) {cs : List Value} (hl : cs.length = size)
    (hc : ∀ (i : Nat) (v : Value), cs[i]? = some v → w.cell? ⟨b, o + i, none⟩ = some v) : (loadVar t ⟨b, o, none⟩).run P w = .ok (.agg cs.toArray) w := by
  have := run_loadCells_list (P := P) w ⟨b, o, none⟩ cs (fun j v hv => by rw [Addr.add_lit]; exact hc j v hv)
  simp [loadVar, run_isAgg w ht, hs, run_sizeOf' w hz, ← hl, this]

/-- A load of one cell. -/
theorem jR {v : Value} {dd : TypeDesc} (hc : w.cell? ⟨b, o, none⟩ = some v) (hx : ev n s x = .pointer (some ⟨b, o, none⟩)) [ht : TU P t dd] (hs : TypeDesc.isAgg dd = false) (h : Ops P ro n all rest K (upd s d v) w) :
    Ops P ro n all (⟨some d, .load t x, ty, pos, af, none⟩ :: rest) K s w :=
  Ops.ofRun rfl (by simp [execOp, hx, Instr.loadAt, Instr.sureAddr, run_loadVar_cell ht hs hc]) h
/-- A load of a whole struct or array. -/
theorem Ops.loadA {cs : List Value} {dd : TypeDesc} {z : Value} {size bytes : Nat} (hc : At w b o cs) (hx : ev n s x = .pointer (some ⟨b, o, none⟩)) [ht : TU P t dd] (hs : TypeDesc.isAgg dd = true) [hz : TS P t z size bytes] (hl : cs.length = size)
    (h : Ops P ro n all rest K (upd s d (.agg cs.toArray)) w) : Ops P ro n all (⟨some d, .load t x, ty, pos, af, none⟩ :: rest) K s w :=
  Ops.ofRun rfl (by simp [execOp, hx, Instr.loadAt, Instr.sureAddr, run_loadVar_agg ht hs hz hl hc.h]) h

theorem At.get {w : World} {b o i : Nat} {cs : List Value} {v : Value} (h : At w b o cs) (hv : cs[i]? = some v) : w.cell? ⟨b, o + i, none⟩ = some v := h.h i v hv
/-- A load of one cell of a block that is known from its head on. -/
theorem jN {v : Value} {dd : TypeDesc} (hx : ev n s x = .pointer (some ⟨b, o, none⟩)) [hc : At w b 0 cs] (hv : cs[o]? = some v) [ht : TU P t dd] (hs : TypeDesc.isAgg dd = false) (h : Ops P ro n all rest K (upd s d v) w) :
    Ops P ro n all (⟨some d, .load t x, ty, pos, af, none⟩ :: rest) K s w :=
  jR (by have := hc.get hv; simpa using this) hx hs h
/-- A load of a struct or array out of a block that is known from its head on. -/
theorem jO {cs' : List Value} {dd : TypeDesc} {z : Value} {size bytes : Nat} (hx : ev n s x = .pointer (some ⟨b, o, none⟩)) [hc : At w b 0 cs] [ht : TU P t dd] (hs : TypeDesc.isAgg dd = true) [hz : TS P t z size bytes]
    (hl : (cs.drop o).take size = cs') (hn : cs'.length = size) (h : Ops P ro n all rest K (upd s d (.agg cs'.toArray)) w) : Ops P ro n all (⟨some d, .load t x, ty, pos, af, none⟩ :: rest) K s w :=
  Ops.loadA (cs := cs') ⟨fun i v hv => by
    have h1 := hc.drop o
    simp only [Nat.zero_add] at h1
    refine h1.h i v ?_
    rw [← hl, List.getElem?_take] at hv
    split at hv
    · exact hv
    · cases hv⟩ hx hs hn h

theorem run_fieldPlace {w : World} {f : Field} {z : Value} {size bytes : Nat} (hz : TS P f.type z (size + 1) bytes) (a : Addr) : (fieldPlace a f).run P w = .ok (a.add f.offset) w := by
  simp [fieldPlace, run_sizeOf' w hz]

theorem jn {i off : Nat} (hx : ev n s x = .pointer (some ⟨b, o, none⟩)) [hf : FA P t i off]
    (h : Ops P ro n all rest K (upd s d (.pointer (some ⟨b, o + off, none⟩))) w) : Ops P ro n all (⟨some d, .fieldAddr t x i, ty, pos, af, none⟩ :: rest) K s w := by
  obtain ⟨fs, f, z, size, bytes, hu, hfi, ho, hz⟩ := hf.h
  subst ho
  exact Ops.ofRun rfl (by simp [execOp, hx, Instr.fieldAt, run_underlying hu, hfi, Instr.sureAddr, run_fieldPlace hz, Addr.add_lit]) h
end mem

/-! which operation stands next -/
section chk
variable {x y c : Operand} {t t' i : Nat} {op : BinOp} {uop : UnOp} {f : Go.Fn} {first cap args : Array Operand} {at_ : Array Nat} {bi : Builtin}
theorem Ops.chkMv (h : Ops P ro n all (⟨some d, .move x, ty, pos, af, none⟩ :: rest) K s w) : Ops P ro n all (⟨some d, .move x, ty, pos, af, none⟩ :: rest) K s w := h
theorem Ops.chkAs (h : Ops P ro n all (⟨some d, .assign x, ty, pos, af, none⟩ :: rest) K s w) : Ops P ro n all (⟨some d, .assign x, ty, pos, af, none⟩ :: rest) K s w := h
theorem jM (h : Ops P ro n all (⟨some d, .load t x, ty, pos, af, none⟩ :: rest) K s w) : Ops P ro n all (⟨some d, .load t x, ty, pos, af, none⟩ :: rest) K s w := h
theorem jW (h : Ops P ro n all (⟨some d, .binOp op t x y t', ty, pos, af, none⟩ :: rest) K s w) : Ops P ro n all (⟨some d, .binOp op t x y t', ty, pos, af, none⟩ :: rest) K s w := h
theorem jo (h : Ops P ro n all (⟨some d, .unOp uop t x, ty, pos, af, none⟩ :: rest) K s w) : Ops P ro n all (⟨some d, .unOp uop t x, ty, pos, af, none⟩ :: rest) K s w := h
theorem Ops.chkPick (h : Ops P ro n all (⟨some d, .pick c x y, ty, pos, af, none⟩ :: rest) K s w) : Ops P ro n all (⟨some d, .pick c x y, ty, pos, af, none⟩ :: rest) K s w := h
theorem jm (h : Ops P ro n all (⟨some d, .fieldAddr t x i, ty, pos, af, none⟩ :: rest) K s w) : Ops P ro n all (⟨some d, .fieldAddr t x i, ty, pos, af, none⟩ :: rest) K s w := h
theorem Ops.chkExt (h : Ops P ro n all (⟨some d, .extract x i, ty, pos, af, none⟩ :: rest) K s w) : Ops P ro n all (⟨some d, .extract x i, ty, pos, af, none⟩ :: rest) K s w := h
theorem jx (h : Ops P ro n all (⟨some d, .box t x, ty, pos, af, none⟩ :: rest) K s w) : Ops P ro n all (⟨some d, .box t x, ty, pos, af, none⟩ :: rest) K s w := h
theorem Ops.chkMF (h : Ops P ro n all (⟨some d, .makeFunc f first cap, ty, pos, af, none⟩ :: rest) K s w) : Ops P ro n all (⟨some d, .makeFunc f first cap, ty, pos, af, none⟩ :: rest) K s w := h
theorem Ops.chkNC (h : Ops P ro n all (⟨some d, .nilCheck x, ty, pos, af, none⟩ :: rest) K s w) : Ops P ro n all (⟨some d, .nilCheck x, ty, pos, af, none⟩ :: rest) K s w := h
theorem jE (h : Ops P ro n all (⟨some d, .indexAddr t x y, ty, pos, af, none⟩ :: rest) K s w) : Ops P ro n all (⟨some d, .indexAddr t x y, ty, pos, af, none⟩ :: rest) K s w := h
theorem Ops.chkCall (h : Ops P ro n all (⟨some d, .call { callee := .value x, args := args, argTypes := at_ }, ty, pos, af, none⟩ :: rest) K s w) : Ops P ro n all (⟨some d, .call { callee := .value x, args := args, argTypes := at_ }, ty, pos, af, none⟩ :: rest) K s w := h
theorem jg (h : Ops P ro n all (⟨some d, .call { callee := .builtin bi, args := args, argTypes := at_ }, ty, pos, af, none⟩ :: rest) K s w) : Ops P ro n all (⟨some d, .call { callee := .builtin bi, args := args, argTypes := at_ }, ty, pos, af, none⟩ :: rest) K s w := h
theorem jS {dst : Option Nat} {op : Op} {j : Nat} {want : Bool} (h : Ops P ro n all (⟨dst, op, ty, pos, af, some (j, want)⟩ :: rest) K s w) : Ops P ro n all (⟨dst, op, ty, pos, af, some (j, want)⟩ :: rest) K s w := h
theorem jjA {P : Program} {ro : Option Nat} {n : Nat} {c : Code} {X : Ctx} {s : Sl} {ds : List Deferred} {w : World} (h : W P ro n c X s ds w) : W P ro n c X s ds w := h
end chk
end rules
attribute [irreducible] Ops OpW
end Go.Proofs.Ytcelhpbcdpefnaa
