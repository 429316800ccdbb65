/- The proof engine, part 5: a range over a function; iterators. -/
import Derived.Test.YtcelhpbcdpefnaaEng4
namespace Go.Proofs.Ytcelhpbcdpefnaa
open Go.RowKit

/-- The blocks that the machine itself keeps for a range over a function. -/
def Obj.loopy : Obj → Bool
  | .loop _ => true
  | .deferred _ => true
  | _ => false

/-- A step that leaves those blocks alone. -/
structure Tr (w w' : World) : Prop where
  size : w.heap.size ≤ w'.heap.size
  keep : ∀ (k : Nat) (o : Obj), w.heap[k]? = some o → Obj.loopy o = true → w'.heap[k]? = some o
theorem Tr.refl (w : World) : Tr w w := ⟨Nat.le_refl _, fun _ _ h _ => h⟩
theorem Tr.trans {a b c : World} (h : Tr a b) (k : Tr b c) : Tr a c := ⟨Nat.le_trans h.size k.size, fun i o hi ho => k.keep i o (h.keep i o hi ho) ho⟩
theorem Ext.tr {w w' : World} (h : Ext w w') : Tr w w' := ⟨h.size, fun _ _ hk _ => h.block' hk⟩

/-- Below N all is as it was; whatever is not of the machine's own is as it was. -/
structure Grow (N : Nat) (w w' : World) : Prop where
  os : w'.os = w.os
  tape : w'.tape = w.tape
  output : w'.output = w.output
  size : w.heap.size ≤ w'.heap.size
  old : ∀ (k : Nat), k < N → w'.heap[k]? = w.heap[k]?
  data : ∀ (k : Nat) (o : Obj), w.heap[k]? = some o → Obj.loopy o = false → w'.heap[k]? = some o
theorem Grow.refl (N : Nat) (w : World) : Grow N w w := ⟨rfl, rfl, rfl, Nat.le_refl _, fun _ _ => rfl, fun _ _ h _ => h⟩
theorem Grow.trans {N : Nat} {a b c : World} (h : Grow N a b) (k : Grow N b c) : Grow N a c :=
  ⟨k.os.trans h.os, k.tape.trans h.tape, k.output.trans h.output, Nat.le_trans h.size k.size, fun i hi => (k.old i hi).trans (h.old i hi), fun i o hi ho => k.data i o (h.data i o hi ho) ho⟩
theorem Ext.grow {N : Nat} {w w' : World} (h : Ext w w') (hN : N ≤ w.heap.size) : Grow N w w' :=
  ⟨h.b.os, h.b.tape, h.b.output, h.size, fun _ hk => h.block (by omega), fun _ _ hk _ => h.block' hk⟩
theorem Grow.mono {N M : Nat} {w w' : World} (h : Grow N w w') (hM : M ≤ N) : Grow M w w' := ⟨h.os, h.tape, h.output, h.size, fun k hk => h.old k (by omega), h.data⟩
theorem Grow.putObj {N : Nat} {w : World} {l : Nat} {o : Obj} (o' : Obj) (hl : w.heap[l]? = some o) (ho : Obj.loopy o = true) (hN : N ≤ l) : Grow N w (w.putObj l o') :=
  ⟨rfl, rfl, rfl, by simp, fun k hk => World.putObj_heap_other (by omega), fun k o2 hk h2 => by
    by_cases e : k = l
    · subst e; rw [hl] at hk; cases hk; rw [ho] at h2; cases h2
    · exact (World.putObj_heap_other e).trans hk⟩
theorem Ext.ofGrow {N : Nat} {w0 w w' : World} (h : Ext w0 w) (g : Grow N w w') (hN : w0.heap.size ≤ N) : Ext w0 w' :=
  ⟨⟨g.os.trans h.b.os, g.tape.trans h.b.tape, g.output.trans h.b.output, Nat.le_trans h.size g.size, fun k hk => (g.old k (by omega)).trans (h.block hk)⟩⟩
theorem cell_block {w : World} {b o : Nat} {v : Value} (h : w.cell? ⟨b, o, none⟩ = some v) : ∃ ob, w.heap[b]? = some ob ∧ Obj.loopy ob = false := by
  unfold World.cell? at h
  cases hb : w.heap[b]? with
  | none => simp [hb] at h
  | some x => cases x <;> simp [hb] at h; exact ⟨_, rfl, rfl⟩
theorem Grow.cell {N : Nat} {w w' : World} (g : Grow N w w') {b o : Nat} {v : Value} (h : w.cell? ⟨b, o, none⟩ = some v) : w'.cell? ⟨b, o, none⟩ = some v := by
  obtain ⟨ob, hb, hd⟩ := cell_block h
  have := g.data b ob hb hd
  rw [← h]
  exact World.cell?_of_block (a := ⟨b, o, none⟩) (this.trans hb.symm)
theorem At.grow {N : Nat} {w w' : World} {b o : Nat} {cs : List Value} (h : At w b o cs) (g : Grow N w w') : At w' b o cs := ⟨fun i v hv => g.cell (h.h i v hv)⟩
theorem RowV.grow {N : Nat} {w w' : World} {agg : Bool} {k : Nat} {v : Value} {xs : List Value} (h : RowV w agg k v xs) (g : Grow N w w') : RowV w' agg k v xs :=
  ⟨h.len, h.fit, h.at_.imp id fun ⟨b, o, c, hv, hl, hc⟩ => ⟨b, o, c, hv, hl, fun j x hx => (hc j x hx).grow g⟩⟩

/-! ### Marks of loops among the deferred calls -/
/-- The record of a loop under way lies at l. -/
class IsRec (w : World) (l : Nat) : Prop where
  h : ∃ r, w.heap[l]? = some (.loop r)
theorem IsRec.tr {w w' : World} {l : Nat} (h : IsRec w l) (t : Tr w w') : IsRec w' l := by
  obtain ⟨r, hr⟩ := h.h
  exact ⟨r, t.keep l _ hr rfl⟩
instance IsRec.step {w w' : World} {l : Nat} [hs : Step w w'] [h : IsRec w l] : IsRec w' l := h.tr (Ext.tr ⟨hs.b⟩)

/-- Marks: each names a block from N on for deferred calls, none laid in it; no two name one. -/
def MksP (N : Nat) (w : World) : List Deferred → Prop
  | [] => True
  | d :: ds => (∃ D, d = { target := .collected D, args := #[] } ∧ N ≤ D ∧ w.heap[D]? = some (.deferred (some [])) ∧ ∀ d' ∈ ds, d' ≠ d) ∧ MksP N w ds
class Mks (N : Nat) (w : World) (ds : List Deferred) : Prop where
  h : MksP N w ds
theorem MksP.tr {N : Nat} {w w' : World} : ∀ {ds : List Deferred}, MksP N w ds → Tr w w' → MksP N w' ds
  | [], _, _ => trivial
  | _ :: _, ⟨⟨D, e, hN, hD, hne⟩, h⟩, t => ⟨⟨D, e, hN, t.keep D _ hD rfl, hne⟩, h.tr t⟩
instance Mks.nil (N : Nat) (w : World) : Mks N w [] := ⟨trivial⟩
instance Mks.step {N : Nat} {w w' : World} {ds : List Deferred} [hs : Step w w'] [h : Mks N w ds] : Mks N w' ds := ⟨h.h.tr (Ext.tr ⟨hs.b⟩)⟩
theorem Mks.tr {N : Nat} {w w' : World} {ds : List Deferred} (h : Mks N w ds) (t : Tr w w') : Mks N w' ds := ⟨h.h.tr t⟩
theorem MksP.lt {N : Nat} {w : World} : ∀ {ds : List Deferred}, MksP N w ds → ∀ d ∈ ds, ∃ D, d = { target := .collected D, args := #[] } ∧ D < w.heap.size
  | _ :: _, ⟨⟨D, e, _, hD, _⟩, h⟩, d, hd => by
    rcases List.mem_cons.1 hd with rfl | hd
    · exact ⟨D, e, (Array.getElem?_eq_some_iff.1 hD).1⟩
    · exact h.lt d hd

/-! ### What a round may write -/
/-- All data but what lies in blocks of M stays; M takes in new blocks alone. -/
structure Fr (M : World → Nat → Prop) (w w' : World) : Prop where
  size : w.heap.size ≤ w'.heap.size
  keep : ∀ (k : Nat) (o : Obj), w.heap[k]? = some o → Obj.loopy o = false → ¬ M w k → w'.heap[k]? = some o
  own : ∀ (k : Nat), M w' k → M w k ∨ w.heap.size ≤ k
theorem Fr.trans {M : World → Nat → Prop} {a b c : World} (h : Fr M a b) (k : Fr M b c) : Fr M a c :=
  ⟨Nat.le_trans h.size k.size, fun i o hi ho hm => k.keep i o (h.keep i o hi ho hm) ho (fun hm' => by
    rcases h.own i hm' with h1 | h1
    · exact hm h1
    · have := (Array.getElem?_eq_some_iff.1 hi).1; omega),
   fun i hi => by
    rcases k.own i hi with h1 | h1
    · exact h.own i h1
    · exact .inr (Nat.le_trans h.size h1)⟩
theorem Fr.ofGrow {M : World → Nat → Prop} {N : Nat} {w w' : World} (g : Grow N w w') (hm : ∀ k, M w' k → M w k ∨ w.heap.size ≤ k) : Fr M w w' := ⟨g.size, fun k o hk ho _ => g.data k o hk ho, hm⟩
theorem Fr.ofExt {M : World → Nat → Prop} {w w' : World} (g : Ext w w') (hm : ∀ k, M w' k → M w k ∨ w.heap.size ≤ k) : Fr M w w' := ⟨g.size, fun _ _ hk _ _ => g.block' hk, hm⟩
theorem Fr.ext {M : Nat → Prop} {w w' : World} (g : Ext w w') : Fr (fun _ => M) w w' := Fr.ofExt g fun _ h => .inl h
theorem Fr.refl (M : World → Nat → Prop) (w : World) : Fr M w w := ⟨Nat.le_refl _, fun _ _ h _ _ => h, fun _ h => .inl h⟩

/-! ### A call of yield, and an iterator -/
def Yd (P : Program) (l : Nat) (args : List Value) (w : World) (R : Ending → World → Prop) : Prop := YieldAt Fence.wide 0 P l args.toArray w R

/-- Iterator gf (with what it has captured): it hands the values xs to yield, one behind the other, till a round says no; between two calls of yield it goes by G; of the rounds it wants that they keep Fct. -/
def IterG {α : Type} (P : Program) (gf : Nat) (lb : List Value) (xs : List α) (enc : α → List Value) (Fct : World → Prop) (G : World → World → Prop) : Prop :=
  ∀ (l : Nat) (J Jx : Nat → World → Prop) (M : World → Nat → Prop) (w : World), (∀ i w w', J i w → G w w' → J i w') → (∀ i w w', Jx i w → G w w' → Jx i w') → (∀ i w, J i w → Fct w) →
    (∀ i w k, J i w → M w k → k < w.heap.size) → (∀ i w w' k, J i w → G w w' → M w' k → M w k) →
    (∀ i x w, xs[i]? = some x → J i w → Yd P l (enc x) w fun e w' => (e = .returned (.bool true) ∧ J (i + 1) w' ∧ Fr M w w') ∨ (e = .returned (.bool false) ∧ Jx (i + 1) w')) → J 0 w →
    Calls P gf ([Value.func (.yield l) #[] #[]] ++ lb).toArray w fun e w' => (∃ v, e = .returned v) ∧ (J xs.length w' ∨ ∃ i, i ≤ xs.length ∧ Jx i w')
abbrev Iter {α : Type} (P : Program) (gf : Nat) (lb : List Value) (xs : List α) (enc : α → List Value) (Fct : World → Prop) : Prop := IterG P gf lb xs enc Fct Ext

def setPs (s : Sl) : List Nat → List Value → Sl
  | p :: ps, v :: vs => setPs (upd s p v) ps vs
  | _, _ => s

theorem foldl_zip (n : Nat) : ∀ (ps : List Nat) (vs : List Value) (s : Sl) (ds : List Deferred),
    (ps.zip vs).foldl (fun t (x : Nat × Value) => t.setIfInBounds x.1 x.2) (mkA n s ds).tmps = (mkA n (setPs s ps vs) ds).tmps := by
  intro ps
  induction ps with
  | nil => intro vs s ds; simp [setPs]
  | cons p ps ih =>
    intro vs s ds
    cases vs with
    | nil => simp [setPs]
    | cons v vs =>
      have h1 : (mkA n s ds).tmps.setIfInBounds p v = (mkA n (upd s p v) ds).tmps := congrArg Act.tmps (mkA_put n s ds (some p) v)
      simp only [List.zip_cons_cons, List.foldl_cons, h1, ih, setPs]
theorem setPs_mkA (n : Nat) (ps : List Nat) (vs : List Value) (s : Sl) (ds : List Deferred) :
    ({ tmps := (ps.toArray.zip vs.toArray).foldl (fun t (p, v) => t.setIfInBounds p v) (mkA n s ds).tmps, defers := [] } : Act) = mkA n (setPs s ps vs) [] := by
  have h := foldl_zip n ps vs s ds
  have e : (ps.toArray.zip vs.toArray).foldl (fun t (p, v) => t.setIfInBounds p v) (mkA n s ds).tmps = (mkA n (setPs s ps vs) ds).tmps := by
    rw [← h, ← Array.foldl_toList, Array.toList_zip]
  rw [e]; rfl

section
variable {P : Program} {ro : Option Nat} {n : Nat} {X : Ctx} {s : Sl} {ds : List Deferred} {w : World}

/-- What stands in the way of a loop: none, or the record of the round that we are in. -/
def RoOk (w : World) : Option Nat → Prop
  | none => True
  | some l => IsRec w l

theorem W.rangeG {α : Type} {g : Operand} {ps : List Nat} {assign body : Code} (N : Nat) (xs : List α) (enc : α → List Value) {Fct : World → Prop} {G : World → World → Prop} {gf : Nat} {lb : List Value}
    (hg : ev n s g = .func (.func gf) #[] lb.toArray) [he : Enters P gf] (hit : IterG P gf lb xs enc Fct G) (hps : ∀ x, (enc x).length = ps.length) (hro : RoOk w ro) (hmk : Mks N w ds) (hN : N ≤ w.heap.size)
    (J : Nat → World → Prop) (Jx : Code → Nat → World → Prop) (hJ : ∀ i V V', J i V → Grow w.heap.size V V' → J i V') (hJx : ∀ c i V V', Jx c i V → Grow w.heap.size V V' → Jx c i V')
    (hJG : ∀ i V V', w.heap.size ≤ V.heap.size → J i V → G V V' → J i V') (hJxG : ∀ c i V V', w.heap.size ≤ V.heap.size → Jx c i V → G V V' → Jx c i V') (hGt : ∀ V V', w.heap.size ≤ V.heap.size → G V V' → Tr V V')
    (hF : ∀ i V, J i V → Fct V) (h0 : J 0 w) (M : World → Nat → Prop) (hW1 : ∀ i V k, J i V → M V k → k < V.heap.size) (hW2 : ∀ i V V' k, w.heap.size ≤ V.heap.size → J i V → G V V' → M V' k → M V k) (hW3 : ∀ V V' k, Grow w.heap.size V V' → M V' k → M V k ∨ V.heap.size ≤ k)
    (A : α → Sl → World → Prop) (hA : ∀ x s V V', A x s V → Grow w.heap.size V V' → A x s V')
    (hassign : ∀ l i x V, xs[i]? = some x → J i V → w.heap.size ≤ l → IsRec V l →
      W P (some l) n assign { nx := fun s' ds' V' => ds' = [] ∧ Tr V V' ∧ Fr M V V' ∧ J i V' ∧ A x s' V', rt := fun _ _ _ => False, ex := fun _ _ _ _ => False } (setPs s ps (enc x)) [] V)
    (hbody : ∀ l i x s' V, xs[i]? = some x → J i V → A x s' V → w.heap.size ≤ l → IsRec V l →
      W P (some l) n body { nx := fun _ _ V' => Tr V V' ∧ Fr M V V' ∧ J (i + 1) V', rt := fun _ _ V' => Tr V V' ∧ Jx .ret (i + 1) V', ex := fun id _ _ V' => Tr V V' ∧ Jx (.exit id) (i + 1) V' } s' [] V)
    (hdone : ∀ ds' V, Mks N V ds' → Tr w V → J xs.length V → X.nx s ds' V)
    (hstop : ∀ ds' c i V, Mks N V ds' → Tr w V → i ≤ xs.length → Jx c i V → W P ro n c X s ds' V) :
    W P ro n (.rangeFunc g ps.toArray assign body) X s ds w := by
  unfold W at hassign hbody hstop ⊢
  refine wpIn_rangeFunc ?_
  intro fn hfn
  -- the world in which the iterator is called
  have enter : ∃ (l : Nat) (mark : List Deferred) (df : Nat) (V1 : World) (rec : LoopState → Option Code → Loop), (∀ st pe, (rec st pe).state = st ∧ (rec st pe).pending = pe ∧ (rec st pe).fn = fn ∧ (rec st pe).tmps = (mkA n s ds).tmps ∧ (rec st pe).params = ps.toArray ∧ (rec st pe).assign = assign ∧ (rec st pe).body = body ∧ (rec st pe).defers = df) ∧
      (Instr.enterLoop fn (mkA n s ds).tmps ps.toArray assign body (Fw ro).round).run P w = .ok (l, mark) V1 ∧ V1.heap[l]? = some (.loop (rec .ready none)) ∧ w.heap.size ≤ l ∧ Ext w V1 ∧ MksP N V1 (mark ++ ds) := by
    cases ro with
    | none =>
      refine ⟨_, _, w.heap.size, _, fun st pe => { state := st, pending := pe, fn, tmps := (mkA n s ds).tmps, params := ps.toArray, assign, body, defers := w.heap.size }, fun st pe => ⟨rfl, rfl, rfl, rfl, rfl, rfl, rfl, rfl⟩, run_enterLoop_outer _ _ _ _ _, ?_, by omega, ?_, ?_⟩
      · have := World.alloc_heap_new (w.alloc (.deferred (some []))) (.loop { state := .ready, pending := none, fn, tmps := (mkA n s ds).tmps, params := ps.toArray, assign, body, defers := w.heap.size })
        rwa [World.size_alloc] at this
      · exact ⟨((Below.refl _ w).alloc (Nat.le_refl _) _).alloc (by simp) _⟩
      · have hE : Ext w ((w.alloc (.deferred (some []))).alloc (.loop { state := .ready, pending := none, fn, tmps := (mkA n s ds).tmps, params := ps.toArray, assign, body, defers := w.heap.size })) := ⟨((Below.refl _ w).alloc (Nat.le_refl _) _).alloc (by simp) _⟩
        refine ⟨⟨w.heap.size, rfl, hN, ?_, fun d' hd' => ?_⟩, hmk.h.tr hE.tr⟩
        · exact (Below.heap_alloc _ _ _ (by simp)).trans (World.alloc_heap_new w _)
        · obtain ⟨D, rfl, hlt⟩ := hmk.h.lt d' hd'
          intro e
          simp only [Deferred.mk.injEq, Target.collected.injEq, and_true] at e
          omega
    | some l0 =>
      obtain ⟨r0, hr0⟩ := (show IsRec w l0 from hro).h
      have hE : ∀ o, Ext w (w.alloc o) := fun o => ⟨(Below.refl _ w).alloc (Nat.le_refl _) _⟩
      exact ⟨_, _, r0.defers, _, fun st pe => { state := st, pending := pe, fn, tmps := (mkA n s ds).tmps, params := ps.toArray, assign, body, defers := r0.defers }, fun st pe => ⟨rfl, rfl, rfl, rfl, rfl, rfl, rfl, rfl⟩, run_enterLoop_inner hr0 _ _ _ _ _, World.alloc_heap_new w _, by omega, hE _, hmk.h.tr (hE _).tr⟩
  obtain ⟨l, mark, df, V1, rec, hrec, hent, hL1, hl, hE1, hM1⟩ := enter
  have hE1' : w.heap.size ≤ V1.heap.size := hE1.size
  have hl1 : l < V1.heap.size := (Array.getElem?_eq_some_iff.1 hL1).1
  have eN : ∀ st pe st' pe', ({ rec st pe with state := st', pending := pe' } : Loop) = rec st' pe' := fun st pe st' pe' => by
    obtain ⟨a1, a2, a3, a4, a5, a6, a7, a8⟩ := hrec st pe
    obtain ⟨b1, b2, b3, b4, b5, b6, b7, b8⟩ := hrec st' pe'
    generalize hx : rec st' pe' = y at *
    generalize hy : rec st pe = x at *
    cases x; cases y
    simp_all
  refine ⟨l, mark, V1, { target := .fn (.func gf) lb.toArray, args := #[.func (.yield l) #[] #[]] }, V1, gf, ([Value.func (.yield l) #[] #[]] ++ lb).toArray, V1, hent, ?_, fun _ _ => trivial, ?_, fun h => by simp [Fw, Fence.wide] at h, ?_⟩
  · simp only [resolve, mkA_eval, hg]
    simp [Deferred.ofValue, ev]
  · have e : (#[Value.func (.yield l) #[] #[]] ++ lb.toArray : Array Value) = ([Value.func (.yield l) #[] #[]] ++ lb).toArray := by simp
    simp only [invoke]
    rw [e]
    exact he.h _ _
  have hcalls := hit l (fun i V => J i V ∧ V.heap[l]? = some (.loop (rec .ready none)) ∧ MksP N V (mark ++ ds) ∧ Tr V1 V)
      (fun i V => ∃ c, Jx c i V ∧ V.heap[l]? = some (.loop (rec .done (some c))) ∧ MksP N V (mark ++ ds) ∧ V1.heap.size ≤ V.heap.size ∧ ∀ k, k ≠ l → ∀ o, V1.heap[k]? = some o → Obj.loopy o = true → V.heap[k]? = some o) M V1
      (fun i V V' h g => by
        have hs : w.heap.size ≤ V.heap.size := Nat.le_trans hE1' h.2.2.2.size
        have t := hGt V V' hs g
        exact ⟨hJG i V V' hs h.1 g, t.keep l _ h.2.1 rfl, h.2.2.1.tr t, h.2.2.2.trans t⟩)
      (fun i V V' h g => by
        obtain ⟨c, h1, h2, h3, h5, h4⟩ := h
        have hs : w.heap.size ≤ V.heap.size := by have := (Array.getElem?_eq_some_iff.1 h2).1; omega
        have t := hGt V V' hs g
        exact ⟨c, hJxG c i V V' hs h1 g, t.keep l _ h2 rfl, h3.tr t, Nat.le_trans h5 t.size, fun k hk o ho hlo => t.keep k o (h4 k hk o ho hlo) hlo⟩)
      (fun i V h => hF i V h.1) (fun i V k h => hW1 i V k h.1) (fun i V V' k h g => hW2 i V V' k (Nat.le_trans hE1' h.2.2.2.size) h.1 g) ?round ⟨hJ 0 _ _ h0 (hE1.grow (Nat.le_refl _)), hL1, hM1, Tr.refl _⟩
  case round =>
    rintro i x V hx ⟨hj, hL, hM, hT⟩
    obtain ⟨c1, c2, c3, c4, c5, c6, c7, c8⟩ := hrec .ready none
    have hy := run_yield (P := P) (args := (enc x).toArray) hL (by rw [c5]; simpa using hps x)
    rw [c3, c4, c5, c6, c7] at hy
    have hNl : N ≤ l := by omega
    -- the record's own turns
    have turn : ∀ (V : World) (st st' : LoopState) (pe pe' : Option Code), V.heap[l]? = some (.loop (rec st pe)) → Grow w.heap.size V (V.putObj l (.loop (rec st' pe'))) ∧ (V.putObj l (.loop (rec st' pe'))).heap[l]? = some (.loop (rec st' pe')) ∧
        (∀ k, k ≠ l → (V.putObj l (.loop (rec st' pe'))).heap[k]? = V.heap[k]?) := fun V st st' pe pe' h =>
      ⟨Grow.putObj _ h rfl hl, World.putObj_heap_same (Array.getElem?_eq_some_iff.1 h).1, fun k hk => World.putObj_heap_other hk⟩
    have mks : ∀ (V : World) (o' : Loop), (∃ r, V.heap[l]? = some (.loop r)) → ∀ (dds : List Deferred), MksP N V dds → MksP N (V.putObj l (.loop o')) dds := by
      intro V o' hW dds
      induction dds with
      | nil => exact fun _ => trivial
      | cons d dds ih =>
        rintro ⟨⟨D, e, hD, hb, hne⟩, h⟩
        refine ⟨⟨D, e, hD, ?_, hne⟩, ih h⟩
        have : D ≠ l := by
          rintro rfl
          obtain ⟨r, hr⟩ := hW
          rw [hb] at hr; cases hr
        exact (World.putObj_heap_other this).trans hb
    refine ⟨fn, _, assign, body, hy, ?_⟩
    have hround : RoundIn (Fw none) 0 P l fn ((ps.toArray.zip (enc x).toArray).foldl (fun t (p, v) => t.setIfInBounds p v) (mkA n s ds).tmps) assign body V
        (fun e w' => (e = .returned (.bool true) ∧ (J (i + 1) w' ∧ w'.heap[l]? = some (.loop (rec .ready none)) ∧ MksP N w' (mark ++ ds) ∧ Tr V1 w') ∧ Fr M V w') ∨
          (e = .returned (.bool false) ∧ ∃ c, Jx c (i + 1) w' ∧ w'.heap[l]? = some (.loop (rec .done (some c))) ∧ MksP N w' (mark ++ ds) ∧ V1.heap.size ≤ w'.heap.size ∧ ∀ k, k ≠ l → ∀ o, V1.heap[k]? = some o → Obj.loopy o = true → w'.heap[k]? = some o)) := by
      refine roundIn_of_wpIn trivial ?_
      have hact := setPs_mkA n ps (enc x) s ds
      rw [hact]
      refine wpIn_mono (hassign l i x V hx hj hl ⟨_, hL⟩) fun e a w1 hp => ?_
      cases e with
      | ret => obtain ⟨_, _, _, h⟩ := hp; exact h.elim
      | exit i => obtain ⟨_, _, _, h⟩ := hp; exact h.elim
      | goto l => exact hp.elim
      | panic c => exact hp.elim
      | outgrown => exact hp.elim
      | normal =>
        obtain ⟨s', ds', rfl, rfl, ht1, hf1, hj1, hA1⟩ := hp
        have hLw1 := ht1.keep l _ hL rfl
        have hb := run_beginRound (P := P) hLw1 c1
        have hb' : ({ rec .ready none with state := .busy } : Loop) = rec .busy none := by
          have := eN .ready none .busy none
          rw [← this]; simp [c2]
        rw [hb'] at hb
        obtain ⟨g2, hL2, ho2⟩ := turn w1 .ready .busy none none hLw1
        refine ⟨_, hb, ?_⟩
        have hM2 := mks w1 (rec .busy none) ⟨_, hLw1⟩ _ (hM.tr ht1)
        refine wpIn_mono (hbody l i x s' _ hx (hJ _ _ _ hj1 g2) (hA _ _ _ _ hA1 g2) hl ⟨_, hL2⟩) fun e a w3 hp => ?_
        have fin : ∀ (jump : Option Code), Tr (w1.putObj l (.loop (rec .busy none))) w3 →
            (Instr.endRound l jump).run P w3 = .ok (.bool jump.isNone) (w3.putObj l (.loop (rec (if jump.isNone then .ready else .done) jump))) ∧
            Grow w.heap.size w3 (w3.putObj l (.loop (rec (if jump.isNone then .ready else .done) jump))) ∧
            (w3.putObj l (.loop (rec (if jump.isNone then .ready else .done) jump))).heap[l]? = some (.loop (rec (if jump.isNone then .ready else .done) jump)) ∧
            MksP N (w3.putObj l (.loop (rec (if jump.isNone then .ready else .done) jump))) (mark ++ ds) ∧
            (∀ k, k ≠ l → ∀ o, V1.heap[k]? = some o → Obj.loopy o = true → (w3.putObj l (.loop (rec (if jump.isNone then .ready else .done) jump))).heap[k]? = some o) := fun jump ht3 => by
          have hL3 := ht3.keep l _ hL2 rfl
          have hr := run_endRound (P := P) jump hL3
          rw [eN] at hr
          obtain ⟨g4, hL4, ho4⟩ := turn w3 .busy (if jump.isNone then .ready else .done) none jump hL3
          refine ⟨hr, g4, hL4, mks _ _ ⟨_, hL3⟩ _ (hM2.tr ht3), fun k hk o ho hlo => ?_⟩
          rw [ho4 k hk]
          refine ht3.keep k o ?_ hlo
          rw [ho2 k hk]
          exact ht1.keep k o (hT.keep k o ho hlo) hlo
        cases e with
        | normal =>
          obtain ⟨_, _, _, ht3, hf3, hj3⟩ := hp
          obtain ⟨hr, g4, hL4, hM4, ho4⟩ := fin none ht3
          refine ⟨_, _, hr, .inl ⟨rfl, ⟨hJ _ _ _ hj3 g4, hL4, hM4, ⟨?_, fun k o ho hlo => ?_⟩⟩, hf1.trans ((Fr.ofGrow g2 fun k => hW3 _ _ k g2).trans (hf3.trans (Fr.ofGrow g4 fun k => hW3 _ _ k g4)))⟩⟩
          · exact Nat.le_trans hT.size (Nat.le_trans ht1.size (Nat.le_trans g2.size (Nat.le_trans ht3.size g4.size)))
          · by_cases e : k = l
            · subst e
              rw [hL1] at ho; cases ho
              exact hL4
            · exact ho4 k e o ho hlo
        | ret =>
          obtain ⟨_, _, _, ht3, hj3⟩ := hp
          obtain ⟨hr, g4, hL4, hM4, ho4⟩ := fin (some .ret) ht3
          exact ⟨_, _, hr, .inr ⟨rfl, .ret, hJx _ _ _ _ hj3 g4, hL4, hM4, Nat.le_trans hT.size (Nat.le_trans ht1.size (Nat.le_trans g2.size (Nat.le_trans ht3.size g4.size))), ho4⟩⟩
        | exit id =>
          obtain ⟨_, _, _, ht3, hj3⟩ := hp
          obtain ⟨hr, g4, hL4, hM4, ho4⟩ := fin (some (.exit id)) ht3
          exact ⟨_, _, hr, .inr ⟨rfl, .exit id, hJx _ _ _ _ hj3 g4, hL4, hM4, Nat.le_trans hT.size (Nat.le_trans ht1.size (Nat.le_trans g2.size (Nat.le_trans ht3.size g4.size))), ho4⟩⟩
        | goto l => exact hp.elim
        | panic c => exact hp.elim
        | outgrown => exact hp.elim
    exact hround
  have hc := (callsIn_wide (n := 0)).2 hcalls
  refine CallsIn.mono (F := Fw ro) (n := 0 - 1) hc fun e V2 hR => ?_
  obtain ⟨⟨v, rfl⟩, hR⟩ := hR
  have trw : ∀ (o : Loop) (V2 : World), V1.heap.size ≤ V2.heap.size → (∀ k, k ≠ l → ∀ o, V1.heap[k]? = some o → Obj.loopy o = true → V2.heap[k]? = some o) → Tr w (V2.putObj l (.loop o)) := fun o V2 hsz h4 =>
    ⟨by simp; omega, fun k ob hk hlo => by
      have hkw : k < w.heap.size := (Array.getElem?_eq_some_iff.1 hk).1
      have : k ≠ l := by omega
      rw [World.putObj_heap_other this]
      exact h4 k this ob (hE1.block' hk) hlo⟩
  have mks2 : ∀ (V : World) (o' : Loop), (∃ r, V.heap[l]? = some (.loop r)) → ∀ (dds : List Deferred), MksP N V dds → MksP N (V.putObj l (.loop o')) dds := by
    intro V o' hW dds
    induction dds with
    | nil => exact fun _ => trivial
    | cons d dds ih =>
      rintro ⟨⟨D, e, hD, hb, hne⟩, h⟩
      refine ⟨⟨D, e, hD, ?_, hne⟩, ih h⟩
      have : D ≠ l := by
        rintro rfl
        obtain ⟨r, hr⟩ := hW
        rw [hb] at hr; cases hr
      exact (World.putObj_heap_other this).trans hb
  rcases hR with ⟨hj, hL, hM, hT⟩ | ⟨i, hi, c, hj, hL, hM, hsz, hT⟩
  · have hr := run_endLoop (P := P) hL (by rw [(hrec .ready none).1]; simp)
    rw [(hrec .ready none).2.1] at hr
    refine ⟨none, _, hr, ?_⟩
    have g : ∀ o' : Loop, Grow w.heap.size V2 (V2.putObj l (.loop o')) := fun o' => Grow.putObj _ hL rfl hl
    exact ⟨s, _, rfl, hdone _ _ ⟨mks2 _ _ ⟨_, hL⟩ _ hM⟩ (trw _ _ hT.size (fun k _ o ho hlo => hT.keep k o ho hlo)) (hJ _ _ _ hj (g _))⟩
  · have hr := run_endLoop (P := P) hL (by rw [(hrec .done (some c)).1]; simp)
    rw [(hrec .done (some c)).2.1] at hr
    refine ⟨some c, _, hr, ?_⟩
    have g : ∀ o' : Loop, Grow w.heap.size V2 (V2.putObj l (.loop o')) := fun o' => Grow.putObj _ hL rfl hl
    exact hstop _ c i _ ⟨mks2 _ _ ⟨_, hL⟩ _ hM⟩ (trw _ _ hsz hT) hi (hJx _ _ _ _ hj (g _))

/-- The same where the iterator only lays new memory, and rounds write nothing but blocks that were there ahead of the loop, and new ones that they forget. -/
theorem W.range {α : Type} {g : Operand} {ps : List Nat} {assign body : Code} (N : Nat) (xs : List α) (enc : α → List Value) {Fct : World → Prop} {gf : Nat} {lb : List Value}
    (hit : Iter P gf lb xs enc Fct) (hg : ev n s g = .func (.func gf) #[] lb.toArray) [he : Enters P gf] (hps : ∀ x, (enc x).length = ps.length) (hro : RoOk w ro) (hmk : Mks N w ds) (hN : N ≤ w.heap.size)
    (J : Nat → World → Prop) (Jx : Code → Nat → World → Prop) (hJ : ∀ i V V', J i V → Grow w.heap.size V V' → J i V') (hJx : ∀ c i V V', Jx c i V → Grow w.heap.size V V' → Jx c i V')
    (hF : ∀ i V, J i V → w.heap.size ≤ V.heap.size ∧ Fct V) (h0 : J 0 w)
    (A : α → Sl → World → Prop) (hA : ∀ x s V V', A x s V → Grow w.heap.size V V' → A x s V')
    (hassign : ∀ l i x V, xs[i]? = some x → J i V → w.heap.size ≤ l → IsRec V l →
      W P (some l) n assign { nx := fun s' ds' V' => ds' = [] ∧ Tr V V' ∧ Fr (fun _ k => k < w.heap.size) V V' ∧ J i V' ∧ A x s' V', rt := fun _ _ _ => False, ex := fun _ _ _ _ => False } (setPs s ps (enc x)) [] V)
    (hbody : ∀ l i x s' V, xs[i]? = some x → J i V → A x s' V → w.heap.size ≤ l → IsRec V l →
      W P (some l) n body { nx := fun _ _ V' => Tr V V' ∧ Fr (fun _ k => k < w.heap.size) V V' ∧ J (i + 1) V', rt := fun _ _ V' => Tr V V' ∧ Jx .ret (i + 1) V', ex := fun id _ _ V' => Tr V V' ∧ Jx (.exit id) (i + 1) V' } s' [] V)
    (hdone : ∀ ds' V, Mks N V ds' → Tr w V → J xs.length V → X.nx s ds' V)
    (hstop : ∀ ds' c i V, Mks N V ds' → Tr w V → i ≤ xs.length → Jx c i V → W P ro n c X s ds' V) :
    W P ro n (.rangeFunc g ps.toArray assign body) X s ds w :=
  W.rangeG N xs enc hg hit hps hro hmk hN J Jx hJ hJx (fun i V V' hs h e => hJ i V V' h (e.grow hs)) (fun c i V V' hs h e => hJx c i V V' h (e.grow hs)) (fun V V' _ e => e.tr) (fun i V h => (hF i V h).2) h0
    (fun _ k => k < w.heap.size) (fun i V k h hk => Nat.lt_of_lt_of_le hk (hF i V h).1) (fun _ _ _ _ _ _ _ h => h) (fun _ _ _ _ h => .inl h) A hA hassign hbody hdone hstop
/-- The same with what rounds own said of each world. -/
theorem W.rangeM {α : Type} {g : Operand} {ps : List Nat} {assign body : Code} (N : Nat) (xs : List α) (enc : α → List Value) {Fct : World → Prop} {gf : Nat} {lb : List Value}
    (hit : Iter P gf lb xs enc Fct) (hg : ev n s g = .func (.func gf) #[] lb.toArray) [he : Enters P gf] (hps : ∀ x, (enc x).length = ps.length) (hro : RoOk w ro) (hmk : Mks N w ds) (hN : N ≤ w.heap.size)
    (J : Nat → World → Prop) (Jx : Code → Nat → World → Prop) (hJ : ∀ i V V', J i V → Grow w.heap.size V V' → J i V') (hJx : ∀ c i V V', Jx c i V → Grow w.heap.size V V' → Jx c i V')
    (hF : ∀ i V, J i V → Fct V) (h0 : J 0 w) (M : World → Nat → Prop) (hW1 : ∀ i V k, J i V → M V k → k < V.heap.size) (hW2 : ∀ i V V' k, J i V → Grow w.heap.size V V' → M V' k → M V k) (hW3 : ∀ V V' k, Grow w.heap.size V V' → M V' k → M V k ∨ V.heap.size ≤ k)
    (A : α → Sl → World → Prop) (hA : ∀ x s V V', A x s V → Grow w.heap.size V V' → A x s V')
    (hassign : ∀ l i x V, xs[i]? = some x → J i V → w.heap.size ≤ l → IsRec V l →
      W P (some l) n assign { nx := fun s' ds' V' => ds' = [] ∧ Tr V V' ∧ Fr M V V' ∧ J i V' ∧ A x s' V', rt := fun _ _ _ => False, ex := fun _ _ _ _ => False } (setPs s ps (enc x)) [] V)
    (hbody : ∀ l i x s' V, xs[i]? = some x → J i V → A x s' V → w.heap.size ≤ l → IsRec V l →
      W P (some l) n body { nx := fun _ _ V' => Tr V V' ∧ Fr M V V' ∧ J (i + 1) V', rt := fun _ _ V' => Tr V V' ∧ Jx .ret (i + 1) V', ex := fun id _ _ V' => Tr V V' ∧ Jx (.exit id) (i + 1) V' } s' [] V)
    (hdone : ∀ ds' V, Mks N V ds' → Tr w V → J xs.length V → X.nx s ds' V)
    (hstop : ∀ ds' c i V, Mks N V ds' → Tr w V → i ≤ xs.length → Jx c i V → W P ro n c X s ds' V) :
    W P ro n (.rangeFunc g ps.toArray assign body) X s ds w :=
  W.rangeG N xs enc hg hit hps hro hmk hN J Jx hJ hJx (fun i V V' hs h e => hJ i V V' h (e.grow hs)) (fun c i V V' hs h e => hJx c i V V' h (e.grow hs)) (fun V V' _ e => e.tr) hF h0
    M hW1 (fun i V V' k hs h e => hW2 i V V' k h (e.grow hs)) hW3 A hA hassign hbody hdone hstop
end

/-! ### The end of a function that has ranged over functions -/
theorem leaves_marks {P : Program} {fn : Func} {tmps : Array Value} {N : Nat} {R : Ending → World → Prop} : ∀ (ds : List Deferred) (w : World), MksP N w ds →
    (∀ w', Grow N w w' → ∃ v, (results fn tmps).run P w' = .ok v w' ∧ R (.returned v) w') → LeavesInM Fence.wide 0 P fn tmps R ds .returning w := by
  intro ds
  induction ds with
  | nil => intro w _ h; exact h w (Grow.refl N w)
  | cons d ds ih =>
    rintro w ⟨⟨D, rfl, hD, hb, hne⟩, hm⟩ h
    refine ⟨by simp, .inl ⟨D, _, rfl, run_takeDeferred hb, ih _ ?_ fun w' g => h w' ((Grow.putObj _ hb rfl hD).trans g)⟩⟩
    have : ∀ (dds : List Deferred), (∀ d' ∈ dds, d' ≠ { target := .collected D, args := #[] }) → MksP N w dds → MksP N (w.putObj D (.deferred none)) dds := by
      intro dds
      induction dds with
      | nil => exact fun _ _ => trivial
      | cons d dds ih2 =>
        rintro hn ⟨⟨D2, rfl, hD2, hb2, hne2⟩, h2⟩
        refine ⟨⟨D2, rfl, hD2, ?_, hne2⟩, ih2 (fun d' hd' => hn d' (List.mem_cons_of_mem _ hd')) h2⟩
        have : D2 ≠ D := by
          rintro rfl
          exact hn _ (List.mem_cons_self) rfl
        exact (World.putObj_heap_other this).trans hb2
    exact this ds hne hm

/-- What a function hands back, marks and all. -/
def finM (P : Program) (fn : Func) (n N : Nat) (R : Value → World → Prop) : Kont := fun s ds w =>
  Mks N w ds ∧ ∀ w', Grow N w w' → ∃ v, (results fn (mkA n s []).tmps).run P w' = .ok v w' ∧ R v w'

theorem Calls.ofWM {P : Program} {f n : Nat} {fn : Func} {c : Code} [hi : FnI P f fn c n] {args : List Value} {w : World} {R : Ending → World → Prop} (hl : args.length ≤ n)
    (h : W P none n c { nx := finM P fn n w.heap.size (fun v => R (.returned v)), rt := finM P fn n w.heap.size (fun v => R (.returned v)), ex := fun _ _ _ _ => False } (fun i => args.getD i undef) [] w) :
    Calls P f args.toArray w R := by
  unfold W at h
  refine (callsIn_wide (n := 0)).1 (callsIn_of_wp_marks hi.hf hi.hb trivial ?_)
  rw [hi.hn, List.size_toArray, mkA_init n args hl]
  refine wpIn_mono h fun e a w' hp => ?_
  cases e with
  | normal => obtain ⟨s, ds, rfl, hm, hR⟩ := hp; exact leaves_marks _ _ hm.h hR
  | ret => obtain ⟨s, ds, rfl, hm, hR⟩ := hp; exact leaves_marks _ _ hm.h hR
  | exit i => obtain ⟨s, ds, rfl, h⟩ := hp; exact h.elim
  | goto l => exact hp.elim
  | panic c => exact hp.elim
  | outgrown => exact hp.elim

theorem Ct.ofWM {P : Program} {f n : Nat} {fn : Func} {c : Code} [hi : FnI P f fn c n] {args : List Value} {w : World} {R : Value → World → Prop} (hl : args.length ≤ n)
    (h : W P none n c { nx := finM P fn n w.heap.size (fun v w' => Ext w w' ∧ R v w'), rt := finM P fn n w.heap.size (fun v w' => Ext w w' ∧ R v w'), ex := fun _ _ _ _ => False } (fun i => args.getD i undef) [] w) :
    Ct P f args w R := by
  unfold Ct
  refine Calls.ofWM hl (W.mono h ?_ ?_ (fun _ _ _ _ h => h)) <;> exact fun _ _ _ ⟨hm, hR⟩ => ⟨hm, fun w' g => let ⟨v, hr, hR⟩ := hR w' g; ⟨v, hr, v, rfl, hR⟩⟩

theorem run_results1 {P : Program} {fn : Func} {n t : Nat} {s : Sl} {w : World} (hf : fn.results = #[.tmp t]) (ht : Nat.blt t n = true) : (results fn (mkA n s []).tmps).run P w = .ok (s t) w := by
  have : (mkA n s []).tmps[t]?.getD undef = s t := by
    rw [mkA_getElem?, if_pos (by simpa using ht)]; rfl
  simp [results, hf, this]
theorem run_results2 {P : Program} {fn : Func} {n t u : Nat} {s : Sl} {w : World} (hf : fn.results = #[.tmp t, .tmp u]) (ht : Nat.blt t n = true) (hu : Nat.blt u n = true) : (results fn (mkA n s []).tmps).run P w = .ok (.tuple #[s t, s u]) w := by
  have e1 : (mkA n s []).tmps[t]?.getD undef = s t := by
    rw [mkA_getElem?, if_pos (by simpa using ht)]; rfl
  have e2 : (mkA n s []).tmps[u]?.getD undef = s u := by
    rw [mkA_getElem?, if_pos (by simpa using hu)]; rfl
  simp [results, hf, e1, e2]
theorem run_results0 {P : Program} {fn : Func} {n : Nat} {s : Sl} {w : World} (hf : fn.results = #[]) : (results fn (mkA n s []).tmps).run P w = .ok (.tuple #[]) w := by
  simp [results, hf]

theorem fin1M {P : Program} {fn : Func} {n N t : Nat} {R : Value → World → Prop} {s : Sl} {ds : List Deferred} {w : World} (hf : fn.results = #[.tmp t]) (ht : Nat.blt t n = true) (hm : Mks N w ds) (h : ∀ w', Grow N w w' → R (s t) w') : finM P fn n N R s ds w :=
  ⟨hm, fun w' g => ⟨_, run_results1 hf ht, h w' g⟩⟩
theorem fin2M {P : Program} {fn : Func} {n N t u : Nat} {R : Value → World → Prop} {s : Sl} {ds : List Deferred} {w : World} (hf : fn.results = #[.tmp t, .tmp u]) (ht : Nat.blt t n = true) (hu : Nat.blt u n = true) (hm : Mks N w ds) (h : ∀ w', Grow N w w' → R (.tuple #[s t, s u]) w') : finM P fn n N R s ds w :=
  ⟨hm, fun w' g => ⟨_, run_results2 hf ht hu, h w' g⟩⟩

/-! ### A call of yield -/
theorem Ops.yield {P : Program} {ro : Option Nat} {n : Nat} {all rest : List Oper} {K : Sl → World → Prop} {s : Sl} {w : World} {d ty : Nat} {pos : String} {af : Array Edge} {args : Array Operand} {at_ : Array Nat} {fv : Operand} {l : Nat} {vs : List Value} {R : Ending → World → Prop}
    (hy : Yd P l vs w R) (hf : ev n s fv = .func (.yield l) #[] #[]) (ha : args.toList.map (ev n s) = vs) (hk : ∀ e w', R e w' → ∃ v, e = .returned v ∧ Ops P ro n all rest K (upd s d v) w') :
    Ops P ro n all (⟨some d, .call { callee := .value fv, args := args, argTypes := at_ }, ty, pos, af, none⟩ :: rest) K s w := by
  refine Ops.step rfl ?_
  unfold OpW
  intro ds
  obtain ⟨fn, tmps, assign, body, hr, hround⟩ := hy
  refine ⟨fun _ _ => trivial, ?_⟩
  subst ha
  have e : args.map (ev n s) = (args.toList.map (ev n s)).toArray := by apply Array.ext'; simp
  have hrun : (execOp (ev n s) (⟨some d, .call { callee := .value fv, args := args, argTypes := at_ }, ty, pos, af, none⟩ : Oper)).run P w = .ok (.round l fn tmps assign body) w := by
    simp only [execOp, resolve, hf, Deferred.ofValue, Sem.run_bind, Sem.run_pure, Result.andThen, invoke]
    rw [e, ← hr]
    simp
  rw [mkA_eval, show (Fw ro).round = ro from rfl, OpW.semAt rfl, hrun]
  refine ⟨fun h => by simp [Fw, Fence.wide] at h, ?_⟩
  have hround' : RoundIn (Fw ro) (0 - 1) P l fn tmps assign body w R := hround
  refine hround'.mono fun e w' hR => ?_
  obtain ⟨v, rfl, hk⟩ := hk e w' hR
  exact ⟨v, rfl, hk⟩
attribute [irreducible] finM
end Go.Proofs.Ytcelhpbcdpefnaa
