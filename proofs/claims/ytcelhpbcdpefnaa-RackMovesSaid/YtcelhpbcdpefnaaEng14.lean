/- The proof engine, part 14: a call of a built-in whose value nobody takes; delete; a shift by one. -/
import Derived.Test.YtcelhpbcdpefnaaEng12
namespace Go.Proofs.Ytcelhpbcdpefnaa
open Go.RowKit

theorem RowV.place' {w : World} {agg : Bool} {k l c j : Nat} {a : Option Addr} {xs : List Value} {x : Value} (h : RowV w agg k (.slice a l c) xs) (hj : xs[j]? = some x) : ∃ b o, a = some ⟨b, o, none⟩ ∧ At w b (o + j * k) x.cells.toList := by
  rcases h.at_ with ⟨rfl, _⟩ | ⟨b, o, c', hv, hl, hc⟩
  · simp at hj
  · simp only [Value.slice.injEq] at hv
    exact ⟨b, o, hv.1, hc j x hj⟩

theorem stepR_scope {P : Program} {b : Frame} {a : Act} {k : List Item} {cs : List Frame} {w : World} {c : Code} : step P (lone (b.atR a (.code (.scope c) :: k)) cs w) = .next (lone (b.atR a (.code c :: .inScope c :: k)) cs w) :=
  step_lone_go (by simp [stepG, stepG.exec, Frame.atR])
theorem stepR_inScope {P : Program} {b : Frame} {a : Act} {k : List Item} {cs : List Frame} {w : World} {c : Code} : step P (lone (b.atR a (.inScope c :: k)) cs w) = .next (lone (b.atR a k) cs w) :=
  step_lone_go (by simp [stepG, stepG.exec, Frame.atR])
/-- A scope out of which nothing jumps. -/
theorem wpIn_scope_straight {F : Fence} {n : Nat} {P : Program} {Q : Exit → Act → World → Prop} {a : Act} {w : World} {c : Code} (h : c.wpIn F n P Q a w) (hng : ∀ l a w, ¬ Q (.goto l) a w) : (Code.scope c).wpIn F n P Q a w := by
  intro b k cs hro hb hr
  have h0 : (lone (b.atR a (.code (.scope c) :: k)) cs w).fenced P F := fenced_calm hb hr rfl
  obtain ⟨e, a₁, w₁, hq, harr⟩ := h b (.inScope c :: k) cs hro hb hr
  cases e with
  | normal => exact ⟨.normal, a₁, w₁, hq, .head h0 stepR_scope (StepsIn.trans harr (.one (fenced_calm hb hr rfl) stepR_inScope))⟩
  | exit id' =>
    have hx : exitTo id' (.inScope c :: k) = exitTo id' k := by simp [exitTo]
    exact ⟨.exit id', a₁, w₁, hq, fun k' hk => .head h0 stepR_scope (harr.1 k' (by rw [hx]; exact hk)),
      fun hr' hk => let ⟨k₁, h1, h2⟩ := harr.2 hr' (by rw [hx]; exact hk); ⟨k₁, h1, .head h0 stepR_scope h2⟩⟩
  | goto l => exact (hng _ _ _ hq).elim
  | ret => exact ⟨_, a₁, w₁, hq, .of_steps (.one h0 stepR_scope) harr⟩
  | panic ch => exact ⟨_, a₁, w₁, hq, .of_steps (.one h0 stepR_scope) harr⟩
  | outgrown => exact ⟨_, a₁, w₁, hq, .of_steps (.one h0 stepR_scope) harr⟩
theorem jjH {P : Program} {ro : Option Nat} {n : Nat} {X : Ctx} {s : Sl} {ds : List Deferred} {w : World} {c : Code} (h : W P ro n c X s ds w) : W P ro n (.scope c) X s ds w := by
  unfold W at h ⊢
  exact wpIn_scope_straight h fun l a w hq => hq
theorem jjI {P : Program} {ro : Option Nat} {n : Nat} {X : Ctx} {s : Sl} {ds : List Deferred} {w : World} {l : Nat} (h : X.nx s ds w) : W P ro n (.label l) X s ds w := by
  unfold W
  exact wpIn_label ⟨s, ds, rfl, h⟩

section rules
variable {P : Program} {ro : Option Nat} {n : Nat} {all rest : List Oper} {K : Sl → World → Prop} {s : Sl} {w : World} {d : Nat} {ty : Nat} {pos : String} {af : Array Edge}
variable {x y : Operand}

theorem Ops.ofRunN {op : Op} {v : Value} {w' : World} (hd : Op.noDefer op = true) (hr : (execOp (ev n s) ⟨none, op, ty, pos, af, none⟩).run P w = .ok (.value v) w') (h : Ops P ro n all rest K s w') : Ops P ro n all (⟨none, op, ty, pos, af, none⟩ :: rest) K s w :=
  Ops.step rfl (OpW.ofRun hd hr h)

section maps
variable {κ : Type} [DecidableEq κ] {encK : κ → Value} {t kt et b : Nat} {m : List (κ × Value)} {k : κ}
theorem Ops.deleteN (hm : MapE encK w b m) (hx : ev n s x = .map (some b)) (hy : ev n s y = encK k) [hk : KeyL P kt encK] [ht : TMap P t kt et] {at2 : Nat}
    (h : ∀ w' o, PutO w w' b o → MapE encK w' b (mdel m k) → Ops P ro n all rest K s w') : Ops P ro n all (⟨none, .call { callee := .builtin .delete, args := #[x, y], argTypes := #[t, at2] }, ty, pos, af, none⟩ :: rest) K s w := by
  obtain ⟨es, c, h1, h2, h3, h4, h5⟩ := hm.h
  have hlt : b < w.heap.size := (Array.getElem?_eq_some_iff.1 h1).1
  have hf := hk.find w k es.toList (m.map (·.1)) (by rw [h2, List.map_map]; rfl)
  have hlen : es.size = m.length := by have := congrArg List.length h2; simpa using this
  cases hidx : (m.map (·.1)).findIdx? (fun x => decide (k = x)) with
  | none =>
    rw [hidx] at hf
    refine Ops.ofRunN (v := .tuple #[]) (w' := w.putObj b (.map es c)) rfl ?_ (h _ _ (putO_putObj _ h1) ?_)
    · simp only [execOp, resolve, invoke, builtin, Sem.run_bind, Sem.run_pure, Result.andThen, List.map_toArray, List.map_cons, List.map_nil, hx, hy, Builtin.delete_, List.getElem?_toArray, List.getElem?_cons_zero, List.getElem?_cons_succ, run_underlying ht.h, run_getObj_m h1, hk.chk, hf, Option.map_none, run_setObj_m _ h1]
    · rw [mdel_none m k hidx]
      exact ⟨es, c, World.putObj_heap_same hlt, h2, h3, h4, h5⟩
  | some i =>
    rw [hidx] at hf
    obtain ⟨_, hi, _⟩ := mset_old m k undef i hidx
    refine Ops.ofRunN (v := .tuple #[]) (w' := w.putObj b (.map (es.eraseIdxIfInBounds i) c)) rfl ?_ (h _ _ (putO_putObj _ h1) ?_)
    · simp only [execOp, resolve, invoke, builtin, Sem.run_bind, Sem.run_pure, Result.andThen, List.map_toArray, List.map_cons, List.map_nil, hx, hy, Builtin.delete_, List.getElem?_toArray, List.getElem?_cons_zero, List.getElem?_cons_succ, run_underlying ht.h, run_getObj_m h1, hk.chk, hf, Option.map_some, run_setObj_m _ h1]
    · rw [mdel_some m k i hidx]
      have hi' : i < es.size := by omega
      have e : (es.eraseIdxIfInBounds i).toList = es.toList.eraseIdx i := by simp [Array.eraseIdxIfInBounds, hi']
      refine ⟨_, c, World.putObj_heap_same hlt, ?_, ?_, ?_, ?_⟩
      · rw [e, map_eraseIdx, h2, ← map_eraseIdx]
      · rw [e, map_eraseIdx, h3, ← map_eraseIdx]
      · intro x hx; rw [e] at hx; exact h4 x (List.mem_of_mem_eraseIdx hx)
      · rw [e, map_eraseIdx]; exact h5.sublist (List.eraseIdx_sublist _ _)
end maps

/-- A number from 0 on, halved by a shift. -/
theorem Ops.half {t t' : Nat} {a : Nat} {i : Int} {k' : IntKind} (hx : ev n s x = .int .u64 i) (hi : i = (a : Int)) (hy : ev n s y = .int k' 1) (h : Ops P ro n all rest K (upd s d (.int .u64 ((a / 2 : Nat) : Int))) w) :
    Ops P ro n all (⟨some d, .binOp .shr t x y t', ty, pos, af, none⟩ :: rest) K s w := by
  subst hi
  refine Ops.ofRun rfl ?_ h
  simp [execOp, hx, hy, go_sem, Op.shift]
  exact Int.fdiv_eq_ediv_of_nonneg _ (by decide)

/-! comparisons that are decided ahead -/
section dec
variable {t t' : Nat} {a b : Int} {k : IntKind}
theorem jjZ (hx : ev n s x = .int k a) (hy : ev n s y = .int k b) (hp : a < b) (h : Ops P ro n all rest K (upd s d (.bool true)) w) : Ops P ro n all (⟨some d, .binOp .lss t x y t', ty, pos, af, none⟩ :: rest) K s w :=
  jX hx hy (by rw [decide_eq_true hp]; exact h)
theorem jja (hx : ev n s x = .int k a) (hy : ev n s y = .int k b) (hp : ¬ (a < b)) (h : Ops P ro n all rest K (upd s d (.bool false)) w) : Ops P ro n all (⟨some d, .binOp .lss t x y t', ty, pos, af, none⟩ :: rest) K s w :=
  jX hx hy (by rw [decide_eq_false hp]; exact h)
theorem jjb (hx : ev n s x = .int k a) (hy : ev n s y = .int k b) (hp : a ≤ b) (h : Ops P ro n all rest K (upd s d (.bool true)) w) : Ops P ro n all (⟨some d, .binOp .leq t x y t', ty, pos, af, none⟩ :: rest) K s w :=
  jd hx hy (by rw [decide_eq_true hp]; exact h)
theorem jjc (hx : ev n s x = .int k a) (hy : ev n s y = .int k b) (hp : ¬ (a ≤ b)) (h : Ops P ro n all rest K (upd s d (.bool false)) w) : Ops P ro n all (⟨some d, .binOp .leq t x y t', ty, pos, af, none⟩ :: rest) K s w :=
  jd hx hy (by rw [decide_eq_false hp]; exact h)
theorem jjd (hx : ev n s x = .int k a) (hy : ev n s y = .int k b) (hp : b < a) (h : Ops P ro n all rest K (upd s d (.bool true)) w) : Ops P ro n all (⟨some d, .binOp .gtr t x y t', ty, pos, af, none⟩ :: rest) K s w :=
  je hx hy (by rw [decide_eq_true hp]; exact h)
theorem jje (hx : ev n s x = .int k a) (hy : ev n s y = .int k b) (hp : ¬ (b < a)) (h : Ops P ro n all rest K (upd s d (.bool false)) w) : Ops P ro n all (⟨some d, .binOp .gtr t x y t', ty, pos, af, none⟩ :: rest) K s w :=
  je hx hy (by rw [decide_eq_false hp]; exact h)
theorem jjf (hx : ev n s x = .int k a) (hy : ev n s y = .int k b) (hp : b ≤ a) (h : Ops P ro n all rest K (upd s d (.bool true)) w) : Ops P ro n all (⟨some d, .binOp .geq t x y t', ty, pos, af, none⟩ :: rest) K s w :=
  jf hx hy (by rw [decide_eq_true hp]; exact h)
theorem jjg (hx : ev n s x = .int k a) (hy : ev n s y = .int k b) (hp : ¬ (b ≤ a)) (h : Ops P ro n all rest K (upd s d (.bool false)) w) : Ops P ro n all (⟨some d, .binOp .geq t x y t', ty, pos, af, none⟩ :: rest) K s w :=
  jf hx hy (by rw [decide_eq_false hp]; exact h)
theorem jjh (hx : ev n s x = .int k a) (hy : ev n s y = .int k b) (hp : a = b) (h : Ops P ro n all rest K (upd s d (.bool true)) w) : Ops P ro n all (⟨some d, .binOp .eql t x y t', ty, pos, af, none⟩ :: rest) K s w :=
  jb hx hy (by rw [decide_eq_true hp]; exact h)
theorem jji (hx : ev n s x = .int k a) (hy : ev n s y = .int k b) (hp : ¬ (a = b)) (h : Ops P ro n all rest K (upd s d (.bool false)) w) : Ops P ro n all (⟨some d, .binOp .eql t x y t', ty, pos, af, none⟩ :: rest) K s w :=
  jb hx hy (by rw [decide_eq_false hp]; exact h)
theorem jjj (hx : ev n s x = .int k a) (hy : ev n s y = .int k b) (hp : ¬ a = b) (h : Ops P ro n all rest K (upd s d (.bool true)) w) : Ops P ro n all (⟨some d, .binOp .neq t x y t', ty, pos, af, none⟩ :: rest) K s w :=
  jc hx hy (by rw [decide_eq_true hp]; exact h)
theorem jjk (hx : ev n s x = .int k a) (hy : ev n s y = .int k b) (hp : ¬ (¬ a = b)) (h : Ops P ro n all rest K (upd s d (.bool false)) w) : Ops P ro n all (⟨some d, .binOp .neq t x y t', ty, pos, af, none⟩ :: rest) K s w :=
  jc hx hy (by rw [decide_eq_false hp]; exact h)
end dec
end rules
end Go.Proofs.Ytcelhpbcdpefnaa
