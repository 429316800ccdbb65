/- The proof engine, part 11: equality of structs. -/
import Derived.Laws.StructEq
import Derived.Test.YtcelhpbcdpefnaaEng10
namespace Go.Proofs.Ytcelhpbcdpefnaa
open Go.RowKit

def encII (p : Int × Int) : Value := .agg #[.int .i64 p.1, .int .i64 p.2]

theorem eqT_int2 {P : Program} {t : Nat} {f0 f1 : Field} (hu : P.underlying t = some (.struct #[f0, f1])) (h0 : f0.name ≠ "_") (h0' : f0.offset = 0) (h1 : f1.name ≠ "_") (h1' : f1.offset = 1)
    (u0 : TU P f0.type (.int .i64)) (u1 : TU P f1.type (.int .i64)) (hp : P.stoodInHeld t = false) (hg : P.eqGuardType P.depth t = false) : EqT P t encII where
  eq w a b := by
    have hf : P.fieldsOf t = #[f0, f1] := by simp [Program.fieldsOf, hu]
    have ht : P.underlying t = some (.struct (P.fieldsOf t)) := by rw [hf]; exact hu
    simp only [encII, Op.equal, Op.maxDepth]
    rw [run_equalIn_struct w 9999 t _ _ ht hp, hf]
    have e0 := run_equalIn_int (P := P) w 9998 f0.type .i64 .i64 a.1 b.1 u0.h
    have e1 := run_equalIn_int (P := P) w 9998 f1.type .i64 .i64 a.2 b.2 u1.h
    obtain ⟨a1, a2⟩ := a
    obtain ⟨b1, b2⟩ := b
    simp only at e0 e1
    have p0 : ∀ c1 c2 : Int, (part f0.type #[Value.int .i64 c1, Value.int .i64 c2] 0).run P w = .ok (.int .i64 c1) w := fun c1 c2 => by simp [part, run_isAgg w u0, TypeDesc.isAgg]
    have p1 : ∀ c1 c2 : Int, (part f1.type #[Value.int .i64 c1, Value.int .i64 c2] 1).run P w = .ok (.int .i64 c2) w := fun c1 c2 => by simp [part, run_isAgg w u1, TypeDesc.isAgg]
    simp only [Op.eqFields, h0, h1, h0', h1', ne_eq, not_false_eq_true, if_true, Sem.run_bind, p0, Result.andThen_ok, e0]
    by_cases c0 : a1 = b1
    · subst c0
      by_cases c1 : a2 = b2
      · subst c1; simp [p1, e1]
      · have c1' : (a2 == b2) = false := by simpa using c1
        simp [c1, p1, e1, c1']
    · simp [c0]
  guard op x y w a b := by
    cases op <;> simp [encII, eqGuard, hg]
  kind a b := ⟨fun w => by simp [encII, binOp], fun w => by simp [encII, binOp]⟩

theorem jD {P : Program} {fn : Func} {n t u v : Nat} {R : Value → World → Prop} {s : Sl} {w : World} (hf : fn.results = #[.tmp t, .tmp u, .tmp v]) (ht : Nat.blt t n = true) (hu : Nat.blt u n = true) (hv : Nat.blt v n = true) (h : R (.tuple #[s t, s u, s v]) w) : finR P fn n R s [] w := by
  unfold finR
  refine ⟨rfl, _, ?_, h⟩
  have e1 : (mkA n s []).tmps[t]?.getD undef = s t := by
    rw [mkA_getElem?, if_pos (by simpa using ht)]; rfl
  have e2 : (mkA n s []).tmps[u]?.getD undef = s u := by
    rw [mkA_getElem?, if_pos (by simpa using hu)]; rfl
  have e3 : (mkA n s []).tmps[v]?.getD undef = s v := by
    rw [mkA_getElem?, if_pos (by simpa using hv)]; rfl
  simp [results, hf, e1, e2, e3]

/-- A function whose one result is a variable of its own. -/
theorem fin1C {P : Program} {fn : Func} {n t ty b size bytes : Nat} {R : Value → World → Prop} {s : Sl} {w : World} {cs : List Value} {dd : TypeDesc} {z : Value} (hf : fn.results = #[.cell t ty]) (ht : Nat.blt t n = true) (hs : s t = .pointer (some ⟨b, 0, none⟩)) [hb : At w b 0 cs] [hu : TU P ty dd] (hag : TypeDesc.isAgg dd = true) [hz : TS P ty z size bytes] (hl : cs.length = size)
    (h : R (.agg cs.toArray) w) : finR P fn n R s [] w := by
  unfold finR
  refine ⟨rfl, .agg cs.toArray, ?_, h⟩
  have e : (mkA n s []).tmps[t]?.getD undef = .pointer (some ⟨b, 0, none⟩) := by
    rw [mkA_getElem?, if_pos (by simpa using ht)]; exact hs
  have := run_loadVar_agg (P := P) (t := ty) (w := w) (b := b) (o := 0) hu hag hz (cs := cs) hl (fun i v hv => by have := hb.h i v hv; simpa using this)
  simp [results, hf, e, asAddr, this]
end Go.Proofs.Ytcelhpbcdpefnaa
