/- The proof engine, part 18: division of numbers that are not negative; equality of pairs. -/
import Derived.ChangeKeysEq
import Derived.Test.YtcelhpbcdpefnaaEng11
import Derived.Test.YtcelhpbcdpefnaaEng16
namespace Go.Proofs.Ytcelhpbcdpefnaa
open Go.RowKit

section rules
variable {P : Program} {ro : Option Nat} {n : Nat} {all rest : List Oper} {K : Sl → World → Prop} {s : Sl} {w : World} {d : Nat} {ty : Nat} {pos : String} {af : Array Edge} {x y : Operand} {t t' : Nat} {a b : Int}
theorem Ops.rem (hx : ev n s x = .int .i64 a) (hy : ev n s y = .int .i64 b) (h0 : 0 ≤ a) (h1 : 0 < b) (h : Ops P ro n all rest K (upd s d (.int .i64 (a % b))) w) :
    Ops P ro n all (⟨some d, .binOp .rem t x y t', ty, pos, af, none⟩ :: rest) K s w :=
  Ops.ofRun rfl (by
    have e1 : Int.tmod a b = a % b := Int.tmod_eq_emod_of_nonneg h0
    have e3 : ¬ b = 0 := by omega
    simp [execOp, hx, hy, go_sem, Op.intDiv, e1, e3]) h
theorem Ops.quo (hx : ev n s x = .int .i64 a) (hy : ev n s y = .int .i64 b) (h0 : 0 ≤ a) (h0' : a ≤ 9223372036854775807) (h1 : 0 < b) (h : Ops P ro n all rest K (upd s d (.int .i64 (a / b))) w) :
    Ops P ro n all (⟨some d, .binOp .quo t x y t', ty, pos, af, none⟩ :: rest) K s w :=
  Ops.ofRun rfl (by
    have e1 : Int.tdiv a b = a / b := Int.tdiv_eq_ediv_of_nonneg h0
    have e2 : IntKind.i64.wrap (a / b) = a / b := by
      have := Int.ediv_nonneg h0 (Int.le_of_lt h1)
      have := Int.ediv_le_self b h0
      rw [IntKind.wrap_i64]; omega
    have e3 : ¬ b = 0 := by omega
    simp [execOp, hx, hy, go_sem, Op.intDiv, e1, e2, e3]) h
theorem Ops.neqTN {α : Type} [DecidableEq α] {enc : α → Value} (u : α) [he : EqT P t enc] (hx : ev n s x = enc u) (hy : ev n s y = enc u) (h : Ops P ro n all rest K (upd s d (.bool false)) w) :
    Ops P ro n all (⟨some d, .binOp .neq t x y t', ty, pos, af, none⟩ :: rest) K s w :=
  Ops.neqT u u hx hy (by rw [decide_eq_false (by simp)]; exact h)
end rules

theorem eqT_arr2 {P : Program} {t e bytes : Nat} {z : Value} (hu : P.underlying t = some (.array 2 e)) (u0 : TU P e (.int .i64)) (hz : TS P e z 1 bytes) (hg : P.eqGuardType P.depth t = false) : EqT P t encII where
  eq w a b := by
    obtain ⟨i, hi, _, hs, _⟩ := hz.info
    have hc : P.cellsOf e = 1 := by simp [Program.cellsOf, hi, hs]
    simp only [encII, Op.equal, Op.maxDepth]
    rw [run_equalIn_array w 9999 _ _ hu hi, hc]
    have e0 : (Op.equalIn 9999 e (.int .i64 a.1) (.int .i64 b.1)).run P w = .ok (a.1 == b.1) w := run_equalIn_int (P := P) w 9998 e .i64 .i64 a.1 b.1 u0.h
    have e1 : (Op.equalIn 9999 e (.int .i64 a.2) (.int .i64 b.2)).run P w = .ok (a.2 == b.2) w := run_equalIn_int (P := P) w 9998 e .i64 .i64 a.2 b.2 u0.h
    obtain ⟨a1, a2⟩ := a
    obtain ⟨b1, b2⟩ := b
    simp only at e0 e1
    have p0 : ∀ c1 c2 : Int, (part e #[Value.int .i64 c1, Value.int .i64 c2] 0).run P w = .ok (.int .i64 c1) w := fun c1 c2 => by simp [part, run_isAgg w u0, TypeDesc.isAgg]
    have p1 : ∀ c1 c2 : Int, (part e #[Value.int .i64 c1, Value.int .i64 c2] 1).run P w = .ok (.int .i64 c2) w := fun c1 c2 => by simp [part, run_isAgg w u0, TypeDesc.isAgg]
    have hr : List.range 2 = [0, 1] := by decide
    rw [hr]
    simp only [Op.eqItems, Nat.zero_mul, Nat.one_mul, Sem.run_bind, p0, Result.andThen_ok, e0]
    by_cases c0 : a1 = b1
    · subst c0
      by_cases c1 : a2 = b2
      · subst c1; simp [p1, e1]
      · have c1' : (a2 == b2) = false := by simpa using c1
        simp [c1, p1, e1, c1']
    · simp [c0]
  guard op x y w a b := by
    cases op <;> simp [encII, eqGuard, hg]
  kind a b := ⟨fun w => by simp [encII, binOp], fun w => by simp [encII, binOp]⟩
end Go.Proofs.Ytcelhpbcdpefnaa
