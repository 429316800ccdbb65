/- The proof engine, part 12: rows found by themselves; make; bytes of strings; equality of a struct of a string and an integer. -/
import Derived.Laws.MakeOwn
import Derived.Test.YtcelhpbcdpefnaaEng11
import Derived.Test.YtcelhpbcdpefnaaEng4
namespace Go.Proofs.Ytcelhpbcdpefnaa
open Go.RowKit

/-- Slice value v reads as xs: found by itself. -/
class RowI (w : World) (v : Value) (agg : outParam Bool) (k : outParam Nat) (xs : outParam (List Value)) : Prop where
  h : RowV w agg k v xs
instance RowI.step {w w' : World} {v : Value} {agg : Bool} {k : Nat} {xs : List Value} [hs : Step w w'] [h : RowI w v agg k xs] : RowI w' v agg k xs := ⟨h.h.ext ⟨hs.b⟩⟩

/-! ### Only some slots are kept -/
def upds (s : Sl) : List (Nat × Value) → Sl
  | [] => s
  | (d, v) :: l => upd (upds s l) d v
def AllEq (s : Sl) : List (Nat × Value) → Prop
  | [] => True
  | (d, v) :: l => s d = v ∧ AllEq s l
theorem upd_id {s : Sl} {d : Nat} {v : Value} (h : s d = v) : upd s d v = s := by
  funext i
  simp only [upd]
  cases e : Nat.beq i d
  · rfl
  · rw [Nat.eq_of_beq_eq_true e]; exact h.symm
theorem upds_id {s : Sl} : ∀ {l : List (Nat × Value)}, AllEq s l → upds s l = s
  | [], _ => rfl
  | (d, v) :: l, h => by rw [upds, upds_id h.2, upd_id h.1]
theorem W.keep0 {P : Program} {ro : Option Nat} {n : Nat} {X : Ctx} {s : Sl} {ds : List Deferred} {w : World} {c : Code} (l : List (Nat × Value)) (hl : AllEq s l) (h : ∀ s0, W P ro n c X (upds s0 l) ds w) : W P ro n c X s ds w := by
  rw [← upds_id hl]; exact h s
theorem W.keep {P : Program} {ro : Option Nat} {n : Nat} {X : Ctx} {s : Sl} {ds : List Deferred} {w : World} {c : Code} {D : List Nat} {sO : Sl} (l : List (Nat × Value)) (hS : Same D sO s) (hl : AllEq s l) (h : ∀ s0, Same D sO (upds s0 l) → W P ro n c X (upds s0 l) ds w) : W P ro n c X s ds w := by
  have e := upds_id hl
  rw [← e] at hS ⊢; exact h s hS

section rules
variable {P : Program} {ro : Option Nat} {n : Nat} {all rest : List Oper} {K : Sl → World → Prop} {s : Sl} {w : World} {d : Nat} {ty : Nat} {pos : String} {af : Array Edge}
variable {x y : Operand} {t e : Nat}

theorem jF {agg : Bool} {size bytes j l c : Nat} {a : Option Addr} {xs : List Value} {v z : Value} {i : Int} {k : IntKind} (hx : ev n s x = .slice a l c) (hy : ev n s y = .int k i) [hrow : RowI w (.slice a l c) agg size xs] [ht : TSl P t e] [hz : TS P e z size bytes]
    (hi : i = (j : Int)) (hj : xs[j]? = some v)
    (h : ∀ b o, At w b o v.cells.toList → Ops P ro n all rest K (upd s d (.pointer (some ⟨b, o, none⟩))) w) : Ops P ro n all (⟨some d, .indexAddr t x y, ty, pos, af, none⟩ :: rest) K s w :=
  Ops.indexRow hx hy hrow.h hi hj h
/-- A load of one cell at a place behind a known one. -/
theorem jP {cs : List Value} {b o off : Nat} {v : Value} {dd : TypeDesc} (hx : ev n s x = .pointer (some ⟨b, o + off, none⟩)) [hc : At w b o cs] (hv : cs[off]? = some v) [ht : TU P t dd] (hs : TypeDesc.isAgg dd = false) (h : Ops P ro n all rest K (upd s d v) w) :
    Ops P ro n all (⟨some d, .load t x, ty, pos, af, none⟩ :: rest) K s w :=
  jR (hc.get hv) hx hs h
/-- A load of a whole element of one cell, or of a struct, that was indexed. -/
theorem jQ {b o : Nat} {v z : Value} {dd : TypeDesc} {size bytes : Nat} (hx : ev n s x = .pointer (some ⟨b, o, none⟩)) [hc : At w b o v.cells.toList] [ht : TU P t dd] [hz : TS P t z size bytes] (hf : fitsV (TypeDesc.isAgg dd) size v = true)
    (h : Ops P ro n all rest K (upd s d v) w) : Ops P ro n all (⟨some d, .load t x, ty, pos, af, none⟩ :: rest) K s w :=
  Ops.loadV hx hc hf h

/-- A byte of a string. -/
theorem jt {b : ByteArray} {i : Int} {k : IntKind} {j : Nat} (hx : ev n s x = .string b) (hy : ev n s y = .int k i) (hi : i = (j : Int)) (hj : j < b.size) [ht : TU P t .string]
    (h : Ops P ro n all rest K (upd s d (.int .u8 (b[j].toNat : Int))) w) : Ops P ro n all (⟨some d, .index t x y, ty, pos, af, none⟩ :: rest) K s w := by
  subst hi
  refine Ops.ofRun rfl ?_ h
  have h0 : (0 : Int) ≤ (j : Int) := by omega
  simp [execOp, Instr.index, hx, hy, asIntOf, run_underlying ht.h, h0, getElem?_pos b j hj]

/-- make, of elements of one cell. -/
theorem Ops.makeS {m : Nat} {i : Int} {k k' : IntKind} {z : Value} {bytes : Nat} (hx : ev n s x = .int k i) (hy : ev n s y = .int k' i) (hi : i = (m : Int)) [ht : TSl P t e] [hz : TS P e z 1 bytes] (hzz : z.cells = #[z]) (hb : bytes * m ≤ 140737488355328) (hm : m ≤ 140737488355328)
    (h : ∀ b w', b = w.heap.size → w'.heap.size = w.heap.size + 1 → Step w w' → Bk w' b (List.replicate m z) e → Ops P ro n all rest K (upd s d (.slice (some ⟨b, 0, none⟩) m m)) w') :
    Ops P ro n all (⟨some d, .makeSlice t x y, ty, pos, af, none⟩ :: rest) K s w := by
  obtain ⟨inf, hi1, hiz, his, hib⟩ := hz.info
  subst hi
  have hbm : ((bytes * m : Nat) : Int) ≤ 140737488355328 := by omega
  rw [Int.natCast_mul] at hbm
  have hr := run_make (P := P) w t e inf z ht.h hi1 hiz k k' (m : Int) (m : Int) (by omega) (Int.le_refl _) (by rw [hib]; omega) (by omega)
  have hc : madeCells z.cells ((m : Int).toNat * inf.size) = (List.replicate m z).toArray := by
    rw [his, hzz]
    apply Array.ext_getElem?
    intro q
    simp only [madeCells, Int.toNat_natCast, Nat.mul_one, Array.getElem?_map, List.getElem?_toArray, List.getElem?_replicate]
    by_cases hq : q < m
    · simp [hq, Array.getElem?_range, Nat.mod_one]
    · simp [hq, Array.getElem?_range]
  rw [hc] at hr
  refine Ops.ofRun (v := .slice (some ⟨w.heap.size, 0, none⟩) m m) (w' := w.alloc (.cells (List.replicate m z).toArray e)) rfl ?_ (h w.heap.size _ rfl (by simp) ⟨(Below.refl _ w).alloc (Nat.le_refl _) _⟩ ⟨World.alloc_heap_new w _⟩)
  simp only [Int.toNat_natCast] at hr
  simp [execOp, hx, hy, hr]

/-- A slice in one block, of cells: a place of it. -/
theorem jG {i : Int} {k : IntKind} {b o l c : Nat} {z : Value} {bytes j : Nat} (hx : ev n s x = .slice (some ⟨b, o, none⟩) l c) (hy : ev n s y = .int k i) (hi : i = (j : Int)) (hj : j < l) [ht : TSl P t e] [hz : TS P e z 1 bytes]
    (h : Ops P ro n all rest K (upd s d (.pointer (some ⟨b, o + j, none⟩))) w) : Ops P ro n all (⟨some d, .indexAddr t x y, ty, pos, af, none⟩ :: rest) K s w :=
  jH j hx hy hi hj (by rw [Nat.mul_one]; exact h)

/-- Equal integers. -/
theorem ja {t t' : Nat} {a : Int} {k : IntKind} (hx : ev n s x = .int k a) (hy : ev n s y = .int k a) (h : Ops P ro n all rest K (upd s d (.bool true)) w) :
    Ops P ro n all (⟨some d, .binOp .eql t x y t', ty, pos, af, none⟩ :: rest) K s w :=
  jb hx hy (by rw [decide_eq_true rfl]; exact h)
/-- A store of one cell into a block that is known whole. -/
theorem Ops.storeC {b j : Nat} {cs : List Value} {v z : Value} {e bytes : Nat} (hx : ev n s x = .pointer (some ⟨b, 0 + j, none⟩)) (hy : ev n s y = v) [hb : Bk w b cs e] [hz : TS P t z 1 bytes] (hc : v.cells = #[v]) (h1 : v.oneCell' = true) (hj : j < cs.length)
    (h : ∀ w', PutO w w' b (.cells (cs.take j ++ [v] ++ cs.drop (j + 1)).toArray e (0, 0)) → Ops P ro n all rest K s w') : Ops P ro n all (⟨none, .store t x y, ty, pos, af, none⟩ :: rest) K s w := by
  have hcl : v.cells.toList = [v] := by rw [hc]
  have hr := run_storeVar_at (o := 0 + j) hb hz (by rw [hc]; rfl) (by omega) (by rw [hcl]; simp [h1])
  rw [hcl, Nat.zero_add] at hr
  rw [Nat.zero_add] at hx
  exact Ops.ofRunU rfl (by simp [execOp, hx, hy, Instr.storeAt, Instr.sureAddr, hr]) (h _ (putO_setRow hb))
end rules

/-- An empty literal of a slice. -/
theorem Ops.buildSlice0 {P : Program} {ro : Option Nat} {n : Nat} {all rest : List Oper} {K : Sl → World → Prop} {s : Sl} {w : World} {d : Nat} {ty : Nat} {pos : String} {af : Array Edge} {t e : Nat} {z : Value} {size bytes : Nat} [ht : TSl P t e] [hz : TS P e z size bytes]
    (h : ∀ b w', b = w.heap.size → w'.heap.size = w.heap.size + 1 → Step w w' → w'.heap[b]? = some (.cells #[] e (0, 0)) → Ops P ro n all rest K (upd s d (.slice (some ⟨b, 0, none⟩) 0 0)) w') :
    Ops P ro n all (⟨some d, .buildSlice t 0 #[], ty, pos, af, none⟩ :: rest) K s w := by
  refine Ops.ofRun (w' := w.alloc (.cells #[] e)) rfl ?_ (h w.heap.size _ rfl (by simp) ⟨(Below.refl _ w).alloc (Nat.le_refl _) _⟩ (World.alloc_heap_new w _))
  have e0 : ∀ f : Nat → Value, Array.map f (Array.range 0) = #[] := fun f => Array.eq_empty_of_size_eq_zero (by simp)
  simp [execOp, Instr.buildSlice, run_underlying ht.h, run_sizeOf' w hz, Instr.fill, newRow, e0]
theorem OwnL.empty {w : World} {B b e k : Nat} {agg : Bool} (hB : B ≤ b) (h : w.heap[b]? = some (.cells #[] e (0, 0))) : OwnL w B e agg k (.slice (some ⟨b, 0, none⟩) 0 0) [] :=
  ⟨⟨by simp, .inr ⟨b, 0, #[], rfl, hB, h, by simp, by simp [maxLen], by simp, by simp⟩⟩, by simp, by simp⟩
/-- A slice of cells lies in one block. -/
theorem RowV.flat {w : World} {v : Value} {xs : List Value} (h : RowV w false 1 v xs) : ∃ a c, v = .slice a xs.length c ∧ (xs = [] ∨ ∃ b o, a = some ⟨b, o, none⟩ ∧ At w b o xs) := by
  rcases h.at_ with ⟨rfl, a, c, rfl⟩ | ⟨b, o, c, rfl, hl, hc⟩
  · exact ⟨a, c, rfl, .inl rfl⟩
  · refine ⟨_, c, rfl, .inr ⟨b, o, rfl, ⟨fun i u hu => ?_⟩⟩⟩
    have h1 := hc i u hu
    have hf := h.fit u (List.mem_of_getElem? hu)
    have : u.cells.toList[0]? = some u := by cases u <;> simp [fitsV] at hf <;> rfl
    have := h1.h 0 u this
    simpa using this
theorem Bk.row {w : World} {b e : Nat} {xs : List Value} (h : Bk w b xs e) (hf : ∀ x ∈ xs, fitsV false 1 x = true) (hl : xs.length ≤ 140737488355328) : RowV w false 1 (.slice (some ⟨b, 0, none⟩) xs.length xs.length) xs :=
  ⟨hl, hf, .inr ⟨b, 0, _, rfl, Nat.le_refl _, fun j x hx => ⟨fun i v hv => by
    have hf' := hf x (List.mem_of_getElem? hx)
    have hx1 : x.cells.toList = [x] := by cases x <;> simp [fitsV] at hf' <;> rfl
    rw [hx1] at hv
    cases i with
    | zero => simp at hv; subst hv; have := (Bk.toAt (h := h)).h j x hx; simpa using this
    | succ i => simp at hv⟩⟩⟩

def encSI (p : ByteArray × Int) : Value := .agg #[.string p.1, .int .i64 p.2]
theorem eqT_SI {P : Program} {t : Nat} {f0 f1 : Field} (hu : P.underlying t = some (.struct #[f0, f1])) (h0 : f0.name ≠ "_") (h0' : f0.offset = 0) (h1 : f1.name ≠ "_") (h1' : f1.offset = 1)
    (u0 : TU P f0.type .string) (u1 : TU P f1.type (.int .i64)) (hp : P.stoodInHeld t = false) (hg : P.eqGuardType P.depth t = false) : EqT P t encSI where
  eq w a b := by
    have hf : P.fieldsOf t = #[f0, f1] := by simp [Program.fieldsOf, hu]
    have ht : P.underlying t = some (.struct (P.fieldsOf t)) := by rw [hf]; exact hu
    simp only [encSI, Op.equal, Op.maxDepth]
    rw [run_equalIn_struct w 9999 t _ _ ht hp, hf]
    have e0 := run_equalIn_string (P := P) w 9998 f0.type a.1 b.1 u0.h
    have e1 := run_equalIn_int (P := P) w 9998 f1.type .i64 .i64 a.2 b.2 u1.h
    rw [← beq_toListBytes, byteArray_beq] at e0
    obtain ⟨a1, a2⟩ := a
    obtain ⟨b1, b2⟩ := b
    simp only at e0 e1
    have p0 : ∀ (c1 : ByteArray) (c2 : Int), (part f0.type #[Value.string c1, Value.int .i64 c2] 0).run P w = .ok (.string c1) w := fun c1 c2 => by simp [part, run_isAgg w u0, TypeDesc.isAgg]
    have p1 : ∀ (c1 : ByteArray) (c2 : Int), (part f1.type #[Value.string c1, Value.int .i64 c2] 1).run P w = .ok (.int .i64 c2) w := fun c1 c2 => by simp [part, run_isAgg w u1, TypeDesc.isAgg]
    simp only [Op.eqFields, h0, h1, h0', h1', ne_eq, not_false_eq_true, if_true, Sem.run_bind, p0, p1, Result.andThen_ok, e0, e1]
    by_cases c0 : a1 = b1
    · subst c0
      by_cases c1 : a2 = b2
      · subst c1; simp [p1, e1]
      · have c1' : (a2 == b2) = false := by simpa using c1
        simp [c1, p1, e1, c1']
    · simp [c0]
  guard op x y w a b := by
    cases op <;> simp [encSI, eqGuard, hg]
  kind a b := ⟨fun w => by simp [encSI, binOp], fun w => by simp [encSI, binOp]⟩
end Go.Proofs.Ytcelhpbcdpefnaa
