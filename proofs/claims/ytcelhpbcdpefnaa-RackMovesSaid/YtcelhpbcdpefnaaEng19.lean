/- The proof engine, part 19: slices within their room; append in place, copy, clear; overlaps. -/
import Derived.Laws.CopyRow
import Derived.Laws.Externs
import Derived.Lib.Overlaps
import Derived.Lib.SliceRun
import Derived.Test.YtcelhpbcdpefnaaEng16
namespace Go.Proofs.Ytcelhpbcdpefnaa
open Go.RowKit

section rules
variable {P : Program} {ro : Option Nat} {n : Nat} {all rest : List Oper} {K : Sl → World → Prop} {s : Sl} {w : World} {d : Nat} {ty : Nat} {pos : String} {af : Array Edge} {x y : Operand} {t t' e bytes : Nat} {z : Value}
variable {g o l c lo hi : Nat} {i j : Int} {k1 k2 k3 : IntKind} {xl xh xm : Operand}
theorem Ops.sliceXH (hx : ev n s x = .slice (some ⟨g, o, none⟩) l c) (hh : ev n s xh = .int k2 j) (hj : j = (hi : Int)) (h2 : hi ≤ c) [ht : TSl P t e] [hz : TS P e z 1 bytes]
    (h : Ops P ro n all rest K (upd s d (.slice (some ⟨g, o, none⟩) hi c)) w) : Ops P ro n all (⟨some d, .slice t x none (some xh) none, ty, pos, af, none⟩ :: rest) K s w := by
  subst hj
  refine Ops.ofRun rfl ?_ h
  by_cases hc : c = 0
  · obtain rfl : hi = 0 := by omega
    simp [execOp, Instr.sliceAt, Instr.slice, Instr.sliceBounds, Instr.sliceBound, hx, hh, run_underlying ht.h, asIntOf, run_sizeOf' w hz, hc]
  · simp [execOp, Instr.sliceAt, Instr.slice, Instr.sliceBounds, Instr.sliceBound, hx, hh, run_underlying ht.h, asIntOf, h2, run_sizeOf' w hz, hc, Addr.add_lit]
theorem Ops.sliceXL (hx : ev n s x = .slice (some ⟨g, o, none⟩) l c) (hl : ev n s xl = .int k1 i) (hi' : i = (lo : Int)) (h1 : lo ≤ l) [ht : TSl P t e] [hz : TS P e z 1 bytes]
    (h : Ops P ro n all rest K (upd s d (.slice (some ⟨g, if c = lo then o else o + lo, none⟩) (l - lo) (c - lo))) w) : Ops P ro n all (⟨some d, .slice t x (some xl) none none, ty, pos, af, none⟩ :: rest) K s w := by
  subst hi'
  refine Ops.ofRun rfl ?_ h
  by_cases hc : c = lo
  · simp [execOp, Instr.sliceAt, Instr.slice, Instr.sliceBounds, Instr.sliceBound, hx, hl, run_underlying ht.h, asIntOf, h1, run_sizeOf' w hz, hc]
  · simp [execOp, Instr.sliceAt, Instr.slice, Instr.sliceBounds, Instr.sliceBound, hx, hl, run_underlying ht.h, asIntOf, h1, run_sizeOf' w hz, hc, Addr.add_lit]
theorem Ops.sliceXL2 (hx : ev n s x = .slice (some ⟨g, o, none⟩) l c) (hl : ev n s xl = .int k1 i) (hi' : i = (lo : Int)) (h1 : lo ≤ l) (h2 : lo < c) [ht : TSl P t e] [hz : TS P e z 1 bytes]
    (h : Ops P ro n all rest K (upd s d (.slice (some ⟨g, o + lo, none⟩) (l - lo) (c - lo))) w) : Ops P ro n all (⟨some d, .slice t x (some xl) none none, ty, pos, af, none⟩ :: rest) K s w :=
  Ops.sliceXL (lo := lo) hx hl hi' h1 (by rw [if_neg (by omega)]; exact h)
theorem Ops.sliceXLH (hx : ev n s x = .slice (some ⟨g, o, none⟩) l c) (hl : ev n s xl = .int k1 i) (hh : ev n s xh = .int k2 j) (hi' : i = (lo : Int)) (hj : j = (hi : Int)) (h1 : lo ≤ hi) (h2 : hi ≤ c) (h3 : lo < c) [ht : TSl P t e] [hz : TS P e z 1 bytes]
    (h : Ops P ro n all rest K (upd s d (.slice (some ⟨g, o + lo, none⟩) (hi - lo) (c - lo))) w) : Ops P ro n all (⟨some d, .slice t x (some xl) (some xh) none, ty, pos, af, none⟩ :: rest) K s w := by
  subst hi' hj
  refine Ops.ofRun rfl ?_ h
  have hc : ¬ c = lo := by omega
  simp [execOp, Instr.sliceAt, Instr.slice, Instr.sliceBounds, Instr.sliceBound, hx, hl, hh, run_underlying ht.h, asIntOf, h1, h2, run_sizeOf' w hz, hc, Addr.add_lit]
/-- A slice of three numbers: only that it is there. -/
theorem Ops.slice3 {a : Option Addr} {mx : Nat} {m : Int} (hx : ev n s x = .slice a l c) (hl : ev n s xl = .int k1 i) (hh : ev n s xh = .int k2 j) (hm : ev n s xm = .int k3 m) (hi' : i = (lo : Int)) (hj : j = (hi : Int)) (hm' : m = (mx : Int)) (h1 : lo ≤ hi) (h2 : hi ≤ mx) (h3 : mx ≤ c) [ht : TSl P t e] [hz : TS P e z 1 bytes]
    (h : ∀ v, Ops P ro n all rest K (upd s d v) w) : Ops P ro n all (⟨some d, .slice t x (some xl) (some xh) (some xm), ty, pos, af, none⟩ :: rest) K s w := by
  subst hi' hj hm'
  refine Ops.ofRun (v := .slice (if mx = lo then a else a.map (·.add (lo * 1))) (hi - lo) (mx - lo)) rfl ?_ (h _)
  simp [execOp, Instr.sliceAt, Instr.slice, Instr.sliceBounds, Instr.sliceBound, hx, hl, hh, hm, run_underlying ht.h, asIntOf, h1, h2, h3, run_sizeOf' w hz]

variable {cs us : List Value} {a : Addr} {sl sc dl dc : Nat}
/-- Append where there is room. -/
theorem Ops.appendRoom {m cap : Nat} (hB : Bk w g cs e) (hx : ev n s x = .slice (some ⟨g, 0, none⟩) m cap) (hy : ev n s y = .slice (some a) sl sc) (hl : us.length = sl) (hsrc : ∀ (j : Nat) v, us[j]? = some v → w.cell? (a.add j) = some v) (h1 : ∀ v ∈ us, v.oneCell' = true)
    (hroom : m + sl ≤ cap) (hfit : m + sl ≤ cs.length) [ht : TSl P t e] [hz : TS P e z 1 bytes]
    (h : ∀ w', PutO w w' g (.cells (cs.take m ++ us ++ cs.drop (m + sl)).toArray e (0, 0)) → Ops P ro n all rest K (upd s d (.slice (some ⟨g, 0, none⟩) (m + sl) cap)) w') :
    Ops P ro n all (⟨some d, .call { callee := .builtin .append, args := #[x, y], argTypes := #[t, t] }, ty, pos, af, none⟩ :: rest) K s w := by
  obtain ⟨inf, hi1, _, his, _⟩ := hz.info
  subst hl
  have hr := run_append_room (P := P) w t ty e inf ht.h hi1 g m cap cs.toArray hB.h a us.length sc us (by rw [his, Nat.mul_one]) hsrc h1 hroom (by rw [his]; simpa using hfit)
  rw [his, Nat.mul_one] at hr
  exact Ops.ofRun (w' := w.setRow g (cs.take m ++ us ++ cs.drop (m + us.length)).toArray) rfl (by simp [execOp, resolve, invoke, builtin, hx, hy, hr]) (h _ (putO_setRow hB))
/-- Copy into a block that is known whole. -/
theorem Ops.copyB (hB : Bk w g cs e) (hx : ev n s x = .slice (some ⟨g, o, none⟩) dl dc) (hy : ev n s y = .slice (some a) sl sc) (hn : us.length = min sl dl) (hsrc : ∀ (j : Nat) v, us[j]? = some v → w.cell? (a.add j) = some v) (h1 : ∀ v ∈ us, v.oneCell' = true)
    (hfit : o + us.length ≤ cs.length) [ht : TSl P t e] [hz : TS P e z 1 bytes]
    (h : ∀ w', PutO w w' g (.cells (cs.take o ++ us ++ cs.drop (o + us.length)).toArray e (0, 0)) → Ops P ro n all rest K (upd s d (.int .i64 ((us.length : Nat) : Int))) w') :
    Ops P ro n all (⟨some d, .call { callee := .builtin .copy, args := #[x, y], argTypes := #[t, t'] }, ty, pos, af, none⟩ :: rest) K s w := by
  obtain ⟨inf, hi1, _, his, _⟩ := hz.info
  have hr := run_copy_row (P := P) w t t' ty e g o dl dc a sl sc cs.toArray e us ht.h (by rw [hi1]; simp [his]) hB.h hn hsrc (by simpa using hfit) h1
  exact Ops.ofRun (w' := w.setRow g (cs.take o ++ us ++ cs.drop (o + us.length)).toArray) rfl (by simp [execOp, resolve, invoke, builtin, hx, hy, hr, goInt]) (h _ (putO_setRow hB))
/-- Clear within a block that is known whole. -/
theorem Ops.clearB (hB : Bk w g cs e) (hx : ev n s x = .slice (some ⟨g, o, none⟩) l c) (hl0 : 0 < l) (hfit : o + l ≤ cs.length) [ht : TSl P t e] [hz : TS P e z 1 bytes] (hzc : z.cells = #[z]) (h1 : z.oneCell' = true)
    (h : ∀ w', PutO w w' g (.cells (cs.take o ++ List.replicate l z ++ cs.drop (o + l)).toArray e (0, 0)) → Ops P ro n all rest K s w') :
    Ops P ro n all (⟨none, .call { callee := .builtin .clear, args := #[x], argTypes := #[t] }, ty, pos, af, none⟩ :: rest) K s w := by
  obtain ⟨inf, hi1, hiz, his, _⟩ := hz.info
  have hzv : (zeroValue e).run P w = .ok z w := by simp [zeroValue, typeInfo, hi1, hiz]
  have hzl : (Builtin.zeroCells z.cells l).toList = List.replicate l z := by
    rw [hzc]
    simp [Builtin.zeroCells]
    apply List.ext_getElem
    · simp
    · intro i h1 h2
      simp [Nat.mod_one]
  have hst := run_storeCells_at P g o e (List.replicate l z) 0 cs.toArray w hB.h (by simpa using hfit) (by intro v hv'; rw [List.eq_of_mem_replicate hv']; exact h1)
  simp only [Nat.add_zero, List.length_replicate] at hst
  have hr : (Builtin.clear_ #[t] ty #[.slice (some ⟨g, o, none⟩) l c]).run P w = .ok (.tuple #[]) (w.setRow g (cs.take o ++ List.replicate l z ++ cs.drop (o + l)).toArray) := by
    obtain ⟨m, rfl⟩ : ∃ m, l = m + 1 := ⟨l - 1, by omega⟩
    simp [Builtin.clear_, run_underlying ht.h, hzv, hzl, hst]
  exact Ops.step rfl (OpW.ofRun (v := .tuple #[]) (w' := w.setRow g (cs.take o ++ List.replicate l z ++ cs.drop (o + l)).toArray) rfl (by simp [execOp, resolve, invoke, builtin, hx, hr]) (h _ (putO_setRow hB)))
theorem Ops.buildSlice2 {u v : Value} (hx : ev n s x = u) (hy : ev n s y = v) [ht : TSl P t e] [hz : TS P e z 1 bytes] (hu : u.cells = #[u]) (hv : v.cells = #[v]) (hzz : z.cells.size = 1)
    (h : ∀ b w', b = w.heap.size → w'.heap.size = w.heap.size + 1 → Step w w' → Bk w' b [u, v] e → Ops P ro n all rest K (upd s d (.slice (some ⟨b, 0, none⟩) 2 2)) w') :
    Ops P ro n all (⟨some d, .buildSlice t 2 #[(0, x), (1, y)], ty, pos, af, none⟩ :: rest) K s w := by
  obtain ⟨inf, hi1, hiz, his, _⟩ := hz.info
  have hfill : ∀ (a b : Value), Instr.fill (fun i => some (i, 1)) #[a, b] [(0, u), (1, v)] = some #[u, v] := by
    intro a b
    simp [Instr.fill, hu, hv]
  have hzv : (zeroValue e).run P w = .ok z w := by simp [zeroValue, typeInfo, hi1, hiz]
  have hrange : (Array.range 2).map (fun x => z.cells[x % z.cells.size]!) = #[z.cells[0]!, z.cells[0]!] := by
    rw [hzz, show Array.range 2 = #[0, 1] from by decide]; simp [Nat.mod_one]
  refine Ops.ofRun (w' := w.alloc (.cells #[u, v] e)) rfl ?_ (h w.heap.size _ rfl (by simp) ⟨(Below.refl _ w).alloc (Nat.le_refl _) _⟩ ⟨World.alloc_heap_new w _⟩)
  simp [execOp, Instr.buildSlice, run_underlying ht.h, run_sizeOf' w hz, hx, hy, hzv, hrange, hfill, newRow]
/-- A call of a function without a body: what the model says of it. -/
theorem Ops.callX {args : Array Operand} {at_ : Array Nat} {fv : Operand} {f : Nat} {vs : List Value} {v : Value} (hf : ev n s fv = .func (.func f) #[] #[]) (ha : args.toList.map (ev n s) = vs) (hr : (callFunc f vs.toArray).run P w = .ok (.value v) w)
    (h : Ops P ro n all rest K (upd s d v) w) : Ops P ro n all (⟨some d, .call { callee := .value fv, args := args, argTypes := at_ }, ty, pos, af, none⟩ :: rest) K s w := by
  refine Ops.ofRun rfl ?_ h
  subst ha
  have e : args.map (ev n s) = (args.toList.map (ev n s)).toArray := by apply Array.ext'; simp
  simp [execOp, hf, go_sem, hr, e]
end rules
end Go.Proofs.Ytcelhpbcdpefnaa
