/- The proof engine, part 6: blocks known whole; stores; variables with an initial value; slices that a call makes and appends to; parts of slices; structs. -/
import Derived.Maps.AppendAt
import Derived.Test.YtcelhpbcdpefnaaEng5
namespace Go.Proofs.Ytcelhpbcdpefnaa
open Go.RowKit

/-- Block b holds just these cells, none of them frozen. -/
class Bk (w : World) (b : Nat) (cs : outParam (List Value)) (e : outParam Nat) : Prop where
  h : w.heap[b]? = some (.cells cs.toArray e (0, 0))
theorem Bk.of {w : World} {b e : Nat} {cs : List Value} (h : w.heap[b]? = some (.cells cs.toArray e (0, 0))) : Bk w b cs e := ⟨h⟩
theorem Bk.ext {w w' : World} {b e : Nat} {cs : List Value} (h : Bk w b cs e) (hs : Ext w w') : Bk w' b cs e := ⟨hs.block' h.h⟩
theorem Bk.grow {N : Nat} {w w' : World} {b e : Nat} {cs : List Value} (h : Bk w b cs e) (g : Grow N w w') : Bk w' b cs e := ⟨g.data _ _ h.h rfl⟩
instance Bk.step {w w' : World} {b e : Nat} {cs : List Value} [hs : Step w w'] [h : Bk w b cs e] : Bk w' b cs e := h.ext ⟨hs.b⟩
instance Bk.toAt {w : World} {b e : Nat} {cs : List Value} [h : Bk w b cs e] : At w b 0 cs := At.ofBlock h.h
theorem Bk.lt {w : World} {b e : Nat} {cs : List Value} (h : Bk w b cs e) : b < w.heap.size := (Array.getElem?_eq_some_iff.1 h.h).1

/-- Block b has become o; all else is as it was. -/
structure PutO (w w' : World) (b : Nat) (o : Obj) : Prop where
  os : w'.os = w.os
  tape : w'.tape = w.tape
  output : w'.output = w.output
  size : w'.heap.size = w.heap.size
  new : w'.heap[b]? = some o
  other : ∀ k, k ≠ b → w'.heap[k]? = w.heap[k]?
theorem PutO.ext {w0 w w' : World} {b : Nat} {o : Obj} (p : PutO w w' b o) (h : Ext w0 w) (hb : w0.heap.size ≤ b) : Ext w0 w' :=
  ⟨⟨p.os.trans h.b.os, p.tape.trans h.b.tape, p.output.trans h.b.output, by rw [p.size]; exact h.size, fun k hk => (p.other k (by omega)).trans (h.block hk)⟩⟩
theorem PutO.tr {w w' : World} {b : Nat} {o : Obj} (p : PutO w w' b o) (hb : ∃ o', w.heap[b]? = some o' ∧ Obj.loopy o' = false) : Tr w w' :=
  ⟨by rw [p.size]; exact Nat.le_refl _, fun k ob hk hl => by
    by_cases e : k = b
    · subst e; obtain ⟨o', h1, h2⟩ := hb; rw [h1] at hk; cases hk; rw [h2] at hl; cases hl
    · exact (p.other k e).trans hk⟩
theorem PutO.bk {w w' : World} {b c e : Nat} {o : Obj} {cs : List Value} (p : PutO w w' b o) (h : Bk w c cs e) (hne : c ≠ b) : Bk w' c cs e := ⟨(p.other c hne).trans h.h⟩
theorem PutO.at_ {w w' : World} {b c o' : Nat} {o : Obj} {cs : List Value} (p : PutO w w' b o) (h : At w c o' cs) (hne : c ≠ b) : At w' c o' cs :=
  ⟨fun i v hv => by rw [← h.h i v hv]; exact World.cell?_of_block (a := ⟨c, o' + i, none⟩) (p.other c hne)⟩
theorem PutO.row {w w' : World} {b : Nat} {o : Obj} {agg : Bool} {k : Nat} {v : Value} {xs : List Value} (p : PutO w w' b o) (h : RowV w agg k v xs) (hne : v.ownBlock ≠ some b) : RowV w' agg k v xs :=
  ⟨h.len, h.fit, h.at_.imp id fun ⟨b', o', c, hv, hl, hc⟩ => ⟨b', o', c, hv, hl, fun j x hx => p.at_ (hc j x hx) (by subst hv; simpa [Value.ownBlock] using hne)⟩⟩

theorem putO_setRow {w : World} {b e : Nat} {cs cs' : List Value} (h : Bk w b cs e) : PutO w (w.setRow b cs'.toArray) b (.cells cs'.toArray e (0, 0)) :=
  ⟨rfl, rfl, rfl, by simp [World.setRow], setRow_heap w b _ _ _ _ h.h, fun k hk => setRow_other w b k _ hk⟩

section rules
variable {P : Program} {ro : Option Nat} {n : Nat} {all rest : List Oper} {K : Sl → World → Prop} {s : Sl} {w : World} {d : Nat} {ty : Nat} {pos : String} {af : Array Edge}
variable {x y : Operand} {t : Nat} {b o : Nat} {cs : List Value}

theorem run_storeVar_at {v z : Value} {e size bytes : Nat} (hb : Bk w b cs e) (hz : TS P t z size bytes) (hsz : v.cells.size = size) (hfit : o + size ≤ cs.length) (h1 : v.cells.toList.all (·.oneCell') = true) :
    (storeVar t ⟨b, o, none⟩ v).run P w = .ok () (w.setRow b (cs.take o ++ v.cells.toList ++ cs.drop (o + size)).toArray) := by
  have := run_storeCells_at P b o e v.cells.toList 0 cs.toArray w hb.h (by simp; omega) (fun u hu => (List.all_eq_true.1 h1) u (by simpa using hu))
  simp only [Nat.add_zero, Array.length_toList, hsz] at this
  simp only [storeVar, Sem.run_bind, run_sizeOf' w hz, Result.andThen, hsz, ne_eq, not_true_eq_false, if_false]
  simpa using this

/-- A store into a block that is known whole. -/
theorem Ops.store {v z : Value} {e size bytes : Nat} (hx : ev n s x = .pointer (some ⟨b, o, none⟩)) (hy : ev n s y = v) [hb : Bk w b cs e] [hz : TS P t z size bytes] (hsz : v.cells.size = size) (hfit : Nat.ble (o + size) cs.length = true) (h1 : v.cells.toList.all (·.oneCell') = true)
    (h : ∀ w', PutO w w' b (.cells (cs.take o ++ v.cells.toList ++ cs.drop (o + size)).toArray e (0, 0)) → Ops P ro n all rest K s w') : Ops P ro n all (⟨none, .store t x y, ty, pos, af, none⟩ :: rest) K s w := by
  have hr := run_storeVar_at hb hz hsz (by simpa using hfit) h1
  exact Ops.ofRunU rfl (by simp [execOp, hx, hy, Instr.storeAt, Instr.sureAddr, hr]) (h _ (putO_setRow hb))

/-- A new variable with its zero value. -/
theorem jjY {z : Value} {size bytes : Nat} [hz : TS P t z size bytes] (h : ∀ b w', b = w.heap.size → w'.heap.size = w.heap.size + 1 → Step w w' → w'.heap[b]? = some (.cells z.cells t (0, 0)) → Ops P ro n all rest K (upd s d (.pointer (some ⟨b, 0, none⟩))) w') :
    Ops P ro n all (⟨some d, .alloc t, ty, pos, af, none⟩ :: rest) K s w :=
  Ops.ofRun (w' := w.alloc (.cells z.cells t)) rfl (by simp [execOp, Instr.alloc, run_zeroValue' w hz, newVar, newRow]) (h w.heap.size _ rfl (by simp) ⟨(Below.refl _ w).alloc (Nat.le_refl _) _⟩ (World.alloc_heap_new w _))

/-- A new variable and the store of its first value, one behind the other. -/
theorem jjR {v z : Value} {size bytes : Nat} {ty' : Nat} {pos' : String} {af' : Array Edge} {g : Option (Nat × Bool)} (hg : g = none) (hy : ∀ p, ev n (upd s d p) y = v) [hz : TS P t z size bytes] (hzz : z.cells.size = size) (hsz : v.cells.size = size) (h1 : v.cells.toList.all (·.oneCell') = true) (hd : Nat.blt d n = true)
    (h : ∀ b w', b = w.heap.size → w'.heap.size = w.heap.size + 1 → Step w w' → w'.heap[b]? = some (.cells v.cells t (0, 0)) → Ops P ro n all rest K (upd s d (.pointer (some ⟨b, 0, none⟩))) w') :
    Ops P ro n all (⟨some d, .alloc t, ty, pos, af, none⟩ :: ⟨none, .store t (.tmp d) y, ty', pos', af', g⟩ :: rest) K s w := by
  subst hg
  refine jjY fun b w1 hb hs1 hS hk => ?_
  have hbk : Bk w1 b z.cells.toList t := ⟨by simpa using hk⟩
  have hev : ev n (upd s d (.pointer (some ⟨b, 0, none⟩))) (.tmp d) = .pointer (some ⟨b, 0, none⟩) := by
    have : Nat.beq d d = true := by simp
    simp [ev, hd, upd]
  refine Ops.store hev (hy _) hsz (by simp [hzz]) h1 fun w2 p => ?_
  refine h b w2 hb (by rw [p.size, hs1]) (p.ext ⟨hS.b⟩ (by omega)).toStep ?_
  rw [p.new]
  have e : List.take 0 z.cells.toList ++ v.cells.toList ++ List.drop (0 + size) z.cells.toList = v.cells.toList := by
    rw [List.drop_eq_nil_of_le (by simp [hzz])]; simp
  rw [e, Array.toArray_toList]
end rules

/-! ### Slices of the call's own -/
/-- Slice v was made by the call (its block lies from B on); it reads as xs. -/
structure OwnL (w : World) (B e : Nat) (agg : Bool) (k : Nat) (v : Value) (xs : List Value) : Prop where
  own : w.ownsRow B e k v xs.length (xs.flatMap (·.cells.toList))
  fit : ∀ x ∈ xs, fitsV agg k x = true
  len : xs.length ≤ 140737488355328
theorem OwnL.nil (w : World) (B e : Nat) (agg : Bool) (k : Nat) : OwnL w B e agg k (.slice none 0 0) [] := ⟨World.ownsRow_nil w B e k, by simp, by simp⟩

theorem flat_get {k : Nat} : ∀ {xs : List Value}, (∀ x ∈ xs, x.cells.size = k) → ∀ {j : Nat} {x : Value}, xs[j]? = some x → ∀ {i : Nat} {u : Value}, x.cells.toList[i]? = some u → (xs.flatMap (·.cells.toList))[j * k + i]? = some u
  | [], _, j, x, hx, _, _, _ => by simp at hx
  | y :: xs, hk, j, x, hx, i, u, hu => by
    have hy : y.cells.toList.length = k := by simpa using hk y List.mem_cons_self
    cases j with
    | zero =>
      simp at hx; subst hx
      have hi : i < y.cells.toList.length := (List.getElem?_eq_some_iff.1 hu).1
      rw [List.flatMap_cons, Nat.zero_mul, Nat.zero_add, List.getElem?_append_left hi]
      exact hu
    | succ j =>
      have := flat_get (fun z hz => hk z (List.mem_cons_of_mem _ hz)) (by simpa using hx : xs[j]? = some x) hu
      rw [List.flatMap_cons, show (j + 1) * k + i = y.cells.toList.length + (j * k + i) from by rw [hy, Nat.add_mul]; omega, List.getElem?_append_right (by omega), Nat.add_sub_cancel_left]
      exact this
theorem OwnL.row {w : World} {B e : Nat} {agg : Bool} {k : Nat} {v : Value} {xs : List Value} (h : OwnL w B e agg k v xs) : RowV w agg k v xs := by
  refine ⟨h.len, h.fit, ?_⟩
  rcases h.own.2 with ⟨rfl, h0⟩ | ⟨g, cap, cur, rfl, hb, hg, hn, hc, hs, ht⟩
  · exact .inl ⟨List.length_eq_zero_iff.1 h0, _, _, rfl⟩
  · refine .inr ⟨g, 0, cap, rfl, hn, fun j x hx => ⟨fun i u hu => ?_⟩⟩
    have hf := flat_get (fun y hy => fitsV_cells (h.fit y hy)) hx hu
    rw [← ht, List.getElem?_take] at hf
    split at hf
    · rw [Nat.zero_add]
      simp [World.cell?, hg]
      simpa using hf
    · cases hf
theorem OwnL.kept {w w' : World} {B e : Nat} {agg : Bool} {k : Nat} {v : Value} {xs : List Value} (h : OwnL w B e agg k v xs) (hb : ∀ g, v.ownBlock = some g → w'.heap[g]? = w.heap[g]?) : OwnL w' B e agg k v xs := by
  refine ⟨⟨h.own.1, ?_⟩, h.fit, h.len⟩
  rcases h.own.2 with hn | ⟨g, cap, cur, rfl, hB, hg, rest⟩
  · exact .inl hn
  · exact .inr ⟨g, cap, cur, rfl, hB, (hb g rfl).trans hg, rest⟩
theorem OwnL.ext {w w' : World} {B e : Nat} {agg : Bool} {k : Nat} {v : Value} {xs : List Value} (h : OwnL w B e agg k v xs) (hs : Ext w w') : OwnL w' B e agg k v xs :=
  h.kept fun g hg => hs.block (h.own.lt g hg).2
theorem OwnL.grow {N : Nat} {w w' : World} {B e : Nat} {agg : Bool} {k : Nat} {v : Value} {xs : List Value} (h : OwnL w B e agg k v xs) (hs : Grow N w w') : OwnL w' B e agg k v xs :=
  h.kept fun g hg => by
    rcases h.own.2 with ⟨rfl, _⟩ | ⟨g', cap, cur, rfl, hB, hg', _⟩
    · simp [Value.ownBlock] at hg
    · simp [Value.ownBlock] at hg; subst hg
      exact (hs.data _ _ hg' rfl).trans hg'.symm
theorem OwnL.put {w w' : World} {B e b : Nat} {ob : Obj} {agg : Bool} {k : Nat} {v : Value} {xs : List Value} (h : OwnL w B e agg k v xs) (p : PutO w w' b ob) (hne : v.ownBlock ≠ some b) : OwnL w' B e agg k v xs :=
  h.kept fun g hg => p.other g (by rintro rfl; exact hne hg)
theorem OwnL.mono {w : World} {B B' e : Nat} {agg : Bool} {k : Nat} {v : Value} {xs : List Value} (h : OwnL w B e agg k v xs) (hB : B' ≤ B) : OwnL w B' e agg k v xs := by
  refine ⟨⟨h.own.1, ?_⟩, h.fit, h.len⟩
  rcases h.own.2 with hn | ⟨g, cap, cur, rfl, hb, rest⟩
  · exact .inl hn
  · exact .inr ⟨g, cap, cur, rfl, by omega, rest⟩
theorem OwnL.slice {w : World} {B e : Nat} {agg : Bool} {k : Nat} {v : Value} {xs : List Value} (h : OwnL w B e agg k v xs) : ∃ a c, v = .slice a xs.length c := h.row.slice
theorem OwnL.block {w : World} {B e : Nat} {agg : Bool} {k : Nat} {v : Value} {xs : List Value} (h : OwnL w B e agg k v xs) : ∀ g, v.ownBlock = some g → B ≤ g ∧ g < w.heap.size := h.own.lt

/-- A new slice of one element. -/
theorem OwnL.one {w : World} {B b e k : Nat} {agg : Bool} {x : Value} (hx : fitsV agg k x = true) (hB : B ≤ b) (h : w.heap[b]? = some (.cells x.cells e (0, 0))) : OwnL w B e agg k (.slice (some ⟨b, 0, none⟩) 1 1) [x] := by
  have hc := fitsV_cells hx
  refine ⟨⟨by simp [hc], .inr ⟨b, 1, x.cells, rfl, hB, h, by simp, by simp [maxLen], by simp [hc], ?_⟩⟩, by simpa using hx, by simp⟩
  simp
  rw [List.take_of_length_le (by simp [hc])]

/-- What an append does: new memory, or places behind the slice in its own block. -/
structure App (B : Nat) (w w' : World) (v : Value) : Prop where
  g : w.grownBy w' v.ownBlock
  from_ : ∀ g, v.ownBlock = some g → B ≤ g ∧ ∃ o, w.heap[g]? = some o ∧ Obj.loopy o = false
theorem App.ext {B : Nat} {w0 w w' : World} {v : Value} (a : App B w w' v) (h : Ext w0 w) (hB : w0.heap.size ≤ B) : Ext w0 w' :=
  ⟨⟨a.g.os.trans h.b.os, a.g.tape.trans h.b.tape, a.g.output.trans h.b.output, Nat.le_trans h.size a.g.size, fun k hk => (a.g.block k (by have := h.size; omega) (fun e => by have := (a.from_ k e.symm).1; omega)).trans (h.block hk)⟩⟩
theorem App.other {B : Nat} {w w' : World} {v : Value} (a : App B w w' v) {k : Nat} {o : Obj} (h : w.heap[k]? = some o) (hne : v.ownBlock ≠ some k) : w'.heap[k]? = some o :=
  (a.g.block k (Array.getElem?_eq_some_iff.1 h).1 (fun e => hne e.symm)).trans h
theorem App.tr {B : Nat} {w w' : World} {v : Value} (a : App B w w' v) : Tr w w' :=
  ⟨a.g.size, fun k o hk hl => a.other hk (fun e => by obtain ⟨_, o', h1, h2⟩ := a.from_ k e; rw [h1] at hk; cases hk; rw [h2] at hl; cases hl)⟩
theorem App.bk {B : Nat} {w w' : World} {v : Value} (a : App B w w' v) {b e : Nat} {cs : List Value} (h : Bk w b cs e) (hne : v.ownBlock ≠ some b) : Bk w' b cs e := ⟨a.other h.h hne⟩

section rules
variable {P : Program} {ro : Option Nat} {n : Nat} {all rest : List Oper} {K : Sl → World → Prop} {s : Sl} {w : World} {d : Nat} {ty : Nat} {pos : String} {af : Array Edge}
variable {x y : Operand} {t : Nat}

/-- append(v, u...): v the call's own; u reads as us. -/
theorem Ops.appendL {B e : Nat} {agg : Bool} {k bytes : Nat} {v u z : Value} {xs us : List Value} (hown : OwnL w B e agg k v xs) (hB : B ≤ w.heap.size) (hu : RowV w agg k u us) (hx : ev n s x = v) (hy : ev n s y = u) [ht : TSl P t e] [hz : TS P e z k bytes]
    (hk : Nat.blt 0 k = true) (hzz : z.cells.size = k) (h1 : us.all (fun v => v.cells.toList.all (·.oneCell')) = true) (hlen : (xs.length + us.length) * bytes ≤ 140737488355328) (hlen' : xs.length + us.length ≤ 140737488355328)
    (h : ∀ v' w', App B w w' v → OwnL w' B e agg k v' (xs ++ us) → (v' = .slice none 0 0 ↔ v = .slice none 0 0 ∧ us = []) → (v'.ownBlock = v.ownBlock ∨ v'.ownBlock = some w.heap.size) → Ops P ro n all rest K (upd s d v') w') :
    Ops P ro n all (⟨some d, .call { callee := .builtin .append, args := #[x, y], argTypes := #[t, t] }, ty, pos, af, none⟩ :: rest) K s w := by
  obtain ⟨i, hi, hiz, his, hib⟩ := hz.info
  have hfrom : ∀ g, v.ownBlock = some g → B ≤ g ∧ ∃ o, w.heap[g]? = some o ∧ Obj.loopy o = false := fun g hg => by
    rcases hown.own.2 with ⟨rfl, _⟩ | ⟨g', cap, cur, rfl, hB, hg', _⟩
    · simp [Value.ownBlock] at hg
    · simp [Value.ownBlock] at hg; subst hg
      exact ⟨hB, _, hg', rfl⟩
  have hex : ∀ (a : Addr) (m c : Nat), m = us.length → (∀ (j : Nat) (u : Value), (us.flatMap (·.cells.toList))[j]? = some u → w.cell? (a.add j) = some u) →
      ∃ v' w', (Builtin.append_ #[t, t] ty #[v, .slice (some a) m c]).run P w = .ok v' w' ∧ w'.ownsRow B e k v' (xs.length + m) (xs.flatMap (·.cells.toList) ++ us.flatMap (·.cells.toList)) ∧ w.grownBy w' v.ownBlock ∧ (v' = .slice none 0 0 ↔ v = .slice none 0 0 ∧ m = 0) ∧ (v'.ownBlock = v.ownBlock ∨ v'.ownBlock = some w.heap.size) := by
    rintro a m c rfl hc
    refine run_append_own_at (P := P) (w := w) B t ty e i z k bytes ht.h hi hiz his hib hzz (by simpa using hk) v xs.length _ hown.own a us.length c (us.flatMap (·.cells.toList)) ?_ hc ?_ (by simp only [maxLen]; omega) hlen hB
    · have : ∀ (l : List Value), (∀ x ∈ l, fitsV agg k x = true) → (l.flatMap (·.cells.toList)).length = l.length * k := by
        intro l
        induction l with
        | nil => simp
        | cons y l ih => intro hl; rw [List.flatMap_cons, List.length_append, ih (fun x hx => hl x (List.mem_cons_of_mem _ hx)), Array.length_toList, fitsV_cells (hl y List.mem_cons_self), List.length_cons, Nat.add_mul]; omega
      exact this us hu.fit
    · intro q hq
      obtain ⟨y, hy, hqy⟩ := List.mem_flatMap.1 hq
      exact (List.all_eq_true.1 (List.all_eq_true.1 h1 y hy)) q hqy
  have fin : ∀ v' w', w'.ownsRow B e k v' (xs.length + us.length) (xs.flatMap (·.cells.toList) ++ us.flatMap (·.cells.toList)) → w.grownBy w' v.ownBlock → (v' = .slice none 0 0 ↔ v = .slice none 0 0 ∧ us.length = 0) → (v'.ownBlock = v.ownBlock ∨ v'.ownBlock = some w.heap.size) → Ops P ro n all rest K (upd s d v') w' := fun v' w' ho hg hn hw =>
    h v' w' ⟨hg, hfrom⟩ ⟨by rw [List.flatMap_append, List.length_append]; exact ho, fun q hq => (List.mem_append.1 hq).elim (hown.fit q) (hu.fit q), by rw [List.length_append]; exact hlen'⟩ (by rw [hn, List.length_eq_zero_iff]) hw
  rcases hu.at_ with ⟨rfl, a, c, rfl⟩ | ⟨b, o, c, rfl, _, hc⟩
  · cases a with
    | none =>
      -- append(v, nil...): the slice itself
      obtain ⟨av, cv, hv⟩ := hown.slice
      refine Ops.ofRun (v := v) (w' := w) rfl ?_ (fin v w ?_ ⟨rfl, rfl, rfl, Nat.le_refl _, fun _ _ _ => rfl⟩ (by simp) (.inl rfl))
      · subst hv
        have hcap : xs.length ≤ cv := by
          rcases hown.own.2 with ⟨e1, e2⟩ | ⟨g, cap, cur, e1, _, _, e2, _⟩
          · simp only [Value.slice.injEq] at e1; omega
          · simp only [Value.slice.injEq] at e1; omega
        have hr : (Builtin.append_ #[t, t] ty #[.slice av xs.length cv, .slice none 0 c]).run P w = .ok (.slice av xs.length cv) w := by
          cases av <;> simp [Builtin.append_, run_underlying ht.h, sizeOf, typeInfo, hi, Builtin.lenOf, Builtin.firstCells, hcap, storeCells]
        simp [execOp, resolve, invoke, builtin, hx, hy, hr]
      · simpa using hown.own
    | some a =>
      obtain ⟨v', w', hr, ho, hg, hn, hw⟩ := hex a 0 c rfl (by simp)
      exact Ops.ofRun (v := v') (w' := w') rfl (by simp [execOp, resolve, invoke, builtin, hx, hy, hr]) (fin v' w' ho hg hn hw)
  · obtain ⟨v', w', hr, ho, hg, hn, hw⟩ := hex ⟨b, o, none⟩ us.length c rfl (fun j q hq => by
      rw [Addr.add_lit]
      have key : ∀ (l : List Value) (o' : Nat), (∀ x ∈ l, fitsV agg k x = true) → (∀ (j : Nat) (x : Value), l[j]? = some x → At w b (o' + j * k) x.cells.toList) → ∀ j q, (l.flatMap (·.cells.toList))[j]? = some q → w.cell? ⟨b, o' + j, none⟩ = some q := by
        intro l
        induction l with
        | nil => intro o' _ _ j q hq; simp at hq
        | cons y l ih =>
          intro o' hf hl j q hq
          have hy : y.cells.toList.length = k := by simpa using fitsV_cells (hf y List.mem_cons_self)
          rw [List.flatMap_cons] at hq
          by_cases hj : j < k
          · rw [List.getElem?_append_left (by omega)] at hq
            have := (hl 0 y rfl).h j q hq
            simpa using this
          · rw [List.getElem?_append_right (by omega), hy] at hq
            have := ih (o' + k) (fun x hx => hf x (List.mem_cons_of_mem _ hx)) (fun j x hx => by
              have := hl (j + 1) x (by simpa using hx)
              rw [show o' + k + j * k = o' + (j + 1) * k from by rw [Nat.add_mul]; omega]
              exact this) (j - k) q hq
            rw [show o' + k + (j - k) = o' + j from by omega] at this
            exact this
      exact key us o hu.fit hc j q hq)
    exact Ops.ofRun (v := v') (w' := w') rfl (by simp [execOp, resolve, invoke, builtin, hx, hy, hr]) (fin v' w' ho hg hn hw)

/-! structs by value -/
theorem Ops.build {cells : List Value} {parts : Array (Nat × Operand)} (hb : P.built t (parts.toList.map fun (i, x) => (i, ev n s x)) = some cells.toArray) (h : Ops P ro n all rest K (upd s d (.agg cells.toArray)) w) :
    Ops P ro n all (⟨some d, .build t parts, ty, pos, af, none⟩ :: rest) K s w :=
  Ops.ofRun rfl (by
    have e : (parts.map fun (i, x) => (i, ev n s x)).toList = parts.toList.map fun (i, x) => (i, ev n s x) := by simp
    have := run_build (P := P) w t (parts.map fun (i, x) => (i, ev n s x)) cells.toArray (by rw [e]; exact hb)
    simp [execOp, this]) h
/-- One field of a struct value, of one cell. -/
class FV (P : Program) (t i : Nat) (off : outParam Nat) : Prop where
  h : ∃ (fs : Array Field) (f : Field) (dd : TypeDesc), P.underlying t = some (.struct fs) ∧ fs[i]? = some f ∧ f.offset = off ∧ TU P f.type dd ∧ TypeDesc.isAgg dd = false
theorem Ops.field {cells : List Value} {i off : Nat} {v : Value} (hx : ev n s x = .agg cells.toArray) [hf : FV P t i off] (hv : cells[off]? = some v) (h : Ops P ro n all rest K (upd s d v) w) :
    Ops P ro n all (⟨some d, .field t x i, ty, pos, af, none⟩ :: rest) K s w := by
  obtain ⟨fs, f, dd, hu, hfi, ho, htu, hag⟩ := hf.h
  subst ho
  exact Ops.ofRun rfl (by simp [execOp, Instr.field, run_underlying hu, hfi, hx, asAgg, part, run_isAgg w htu, hag, hv]) h
end rules
end Go.Proofs.Ytcelhpbcdpefnaa
