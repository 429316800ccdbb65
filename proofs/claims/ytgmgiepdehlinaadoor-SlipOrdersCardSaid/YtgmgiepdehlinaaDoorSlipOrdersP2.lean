/- Texts of the proof, part 2: Eng15, Eng16, Eng17, Spec0, Txt, Eng19, Eng20, Types, Cmp, Tp1, Lib1, In, Tl1, Tr1, RefB. -/
import Derived.Lib.SliceRun
import Derived.Laws.CopyRow
import Derived.Laws.Externs
import Derived.Lib.Overlaps
import Derived.Test.YtgmgiepdehlinaaDoorProg
import Derived.KernelRfl
import Derived.Test.YtgmgiepdehlinaaDoorSlipOrdersP1
/- The proof engine, part 15: a slice compared with nil; five results; stores into a slice of the call's own. -/
namespace Go.Proofs.YtgmgiepdehlinaaDoor
open Go.RowKit

section rules
variable {P : Program} {ro : Option Nat} {n : Nat} {all rest : List Oper} {K : Sl → World → Prop} {s : Sl} {w : World} {d : Nat} {ty : Nat} {pos : String} {af : Array Edge}
variable {x y : Operand}
theorem Ops.eqlNil {t t' e l c : Nat} {a : Option Addr} (hx : ev n s x = .slice a l c) (hy : ev n s y = .slice none 0 0) [ht : TSl P t e] (h : Ops P ro n all rest K (upd s d (.bool a.isNone)) w) :
    Ops P ro n all (⟨some d, .binOp .eql t x y t', ty, pos, af, none⟩ :: rest) K s w := by
  refine Ops.ofRun rfl ?_ h
  have hg : (eqGuard .eql t x y (.slice a l c) (.slice none 0 0)).run P w = .ok () w := by cases a <;> simp [eqGuard]
  have hr := Lib.run_eql_slice_nil w t e a l c 0 0 ht.h
  simp [execOp, hx, hy, hg, hr]

theorem flat_len {k : Nat} : ∀ {xs : List Value}, (∀ x ∈ xs, x.cells.size = k) → (xs.flatMap (·.cells.toList)).length = xs.length * k
  | [], _ => by simp
  | y :: xs, h => by
    rw [List.flatMap_cons, List.length_append, flat_len fun x hx => h x (List.mem_cons_of_mem _ hx), Array.length_toList, h y List.mem_cons_self, List.length_cons, Nat.add_mul]; omega
theorem flat_set {k i : Nat} {u : Value} (hi : i < k) : ∀ {xs : List Value} {j : Nat} {x x' : Value}, (∀ x ∈ xs, x.cells.size = k) → xs[j]? = some x → x'.cells.toList = x.cells.toList.set i u →
    ((xs.set j x').flatMap (·.cells.toList)) = (xs.flatMap (·.cells.toList)).set (j * k + i) u
  | [], j, x, x', _, hx, _ => by simp at hx
  | y :: xs, j, x, x', hk, hx, he => by
    have hy : y.cells.toList.length = k := by simpa using hk y List.mem_cons_self
    cases j with
    | zero =>
      simp at hx; subst hx
      rw [List.set_cons_zero, List.flatMap_cons, List.flatMap_cons, he, Nat.zero_mul, Nat.zero_add, List.set_append_left _ _ (by omega)]
    | succ j =>
      have := flat_set hi (fun z hz => hk z (List.mem_cons_of_mem _ hz)) (by simpa using hx : xs[j]? = some x) he
      rw [List.set_cons_succ, List.flatMap_cons, List.flatMap_cons, this, List.set_append_right _ _ (by rw [hy, Nat.add_mul]; omega)]
      congr 2
      rw [hy, Nat.add_mul]; omega

/-- A slice from a place on; what it reads as holds in an elder world, too. -/
theorem Ops.sliceL2 {agg : Bool} {t e k bytes c lo : Nat} {z : Value} {a : Option Addr} {xs : List Value} {i : Int} {k1 : IntKind} {xl : Operand} {w0 : World} (hrow : RowV w agg k (.slice a xs.length c) xs) (hrow0 : RowV w0 agg k (.slice a xs.length c) xs) (hx : ev n s x = .slice a xs.length c) (hl : ev n s xl = .int k1 i)
    (hi' : i = (lo : Int)) (h1 : lo ≤ xs.length) [ht : TSl P t e] [hz : TS P e z k bytes]
    (h : ∀ v, RowV w0 agg k v (xs.drop lo) → (∃ a' c', v = .slice a' (xs.length - lo) c') → Ops P ro n all rest K (upd s d v) w) : Ops P ro n all (⟨some d, .slice t x (some xl) none none, ty, pos, af, none⟩ :: rest) K s w := by
  subst hi'
  obtain ⟨_, hlc⟩ := hrow.cap
  have hp := hrow0.part lo xs.length h1 (Nat.le_refl _) (c - lo) (by omega) (if c = lo then a else a.map (·.add (lo * k))) (fun hlt => by rw [if_neg (by omega)])
  rw [List.take_length] at hp
  refine Ops.ofRun (v := .slice (if c = lo then a else a.map (·.add (lo * k))) (xs.length - lo) (c - lo)) (w' := w) rfl ?_ (h _ hp ⟨_, _, rfl⟩)
  simp [execOp, Instr.sliceAt, Instr.slice, Instr.sliceBounds, Instr.sliceBound, hx, hl, run_underlying ht.h, asIntOf, h1, run_sizeOf' w hz]

/-- A store into one cell of an element of a slice of the call's own. -/
theorem Ops.storeL {B e k g j i bytes t : Nat} {agg : Bool} {v u z : Value} {xs : List Value} {X X' : Value} (hown : OwnL w B e agg k v xs) (hg : v.ownBlock = some g) (hX : xs[j]? = some X) (hX' : fitsV agg k X' = true) (hc : X'.cells.toList = X.cells.toList.set i u) (hi : Nat.blt i k = true)
    (hx : ev n s x = .pointer (some ⟨g, j * k + i, none⟩)) (hy : ev n s y = u) (huc : u.cells = #[u]) (hu1 : u.oneCell' = true) [hz : TS P t z 1 bytes]
    (h : ∀ w' o, PutO w w' g o → OwnL w' B e agg k v (xs.set j X') → Ops P ro n all rest K s w') : Ops P ro n all (⟨none, .store t x y, ty, pos, af, none⟩ :: rest) K s w := by
  have hi : i < k := by simpa using hi
  rcases hown.own.2 with ⟨rfl, _⟩ | ⟨g', cap, cur, rfl, hB, hh, hn, hm, hs, ht⟩
  · simp [Value.ownBlock] at hg
  · have hgg : g' = g := by simpa [Value.ownBlock] using hg
    subst hgg
    have hjl : j < xs.length := (List.getElem?_eq_some_iff.1 hX).1
    have hfl := flat_len (k := k) (xs := xs) fun y hy => fitsV_cells (hown.fit y hy)
    have hjk : j * k + i < xs.length * k := by
      have : (j + 1) * k ≤ xs.length * k := Nat.mul_le_mul_right k hjl
      rw [Nat.add_mul] at this; omega
    have hcl : xs.length * k ≤ cap * k := Nat.mul_le_mul_right k hn
    have hbk : Bk w g' cur.toList e := ⟨by simpa using hh⟩
    refine Ops.store hx hy (by rw [huc]; rfl) (Nat.ble_eq_true_of_le (by rw [Array.length_toList, hs]; omega)) (by rw [huc]; simp [hu1]) ?_
    intro w' hp
    refine h w' _ hp ⟨⟨?_, .inr ⟨g', cap, (cur.toList.take (j * k + i) ++ u.cells.toList ++ cur.toList.drop (j * k + i + 1)).toArray, by rw [List.length_set], hB, hp.new, by rw [List.length_set]; exact hn, hm, ?_, ?_⟩⟩, ?_, by rw [List.length_set]; exact hown.len⟩
    · rw [flat_set hi (fun y hy => fitsV_cells (hown.fit y hy)) hX hc, List.length_set, List.length_set]; exact hfl
    · have hcs : cur.toList.length = cap * k := by simpa using hs
      rw [huc]
      simp only [List.size_toArray, List.length_append, List.length_take, List.length_drop, List.length_cons, List.length_nil]
      omega
    · have hcs : cur.toList.length = cap * k := by simpa using hs
      rw [List.length_set, flat_set hi (fun y hy => fitsV_cells (hown.fit y hy)) hX hc, ← ht, huc]
      have e1 : cur.toList.take (j * k + i) ++ #[u].toList ++ cur.toList.drop (j * k + i + 1) = cur.toList.set (j * k + i) u := by
        rw [List.set_eq_take_append_cons_drop, if_pos (by omega)]
        simp
      rw [e1, List.take_set]
    · intro y hy
      rcases List.mem_or_eq_of_mem_set hy with h1 | h1
      · exact hown.fit y h1
      · subst h1; exact hX'
end rules

/-- Results: a variable of its own (a struct), a slot, and three more. -/
theorem fin5C {P : Program} {fn : Func} {n t ty b size bytes t1 t2 t3 t4 : Nat} {R : Value → World → Prop} {s : Sl} {w : World} {cs : List Value} {dd : TypeDesc} {z : Value} (hf : fn.results = #[.cell t ty, .tmp t1, .tmp t2, .tmp t3, .tmp t4]) (ht : Nat.blt t n = true) (h1 : Nat.blt t1 n = true) (h2 : Nat.blt t2 n = true) (h3 : Nat.blt t3 n = true) (h4 : Nat.blt t4 n = true)
    (hs : s t = .pointer (some ⟨b, 0, none⟩)) (hb : At w b 0 cs) [hu : TU P ty dd] (hag : TypeDesc.isAgg dd = true) [hz : TS P ty z size bytes] (hl : cs.length = size)
    (h : R (.tuple #[.agg cs.toArray, s t1, s t2, s t3, s t4]) w) : finR P fn n R s [] w := by
  unfold finR
  refine ⟨rfl, _, ?_, h⟩
  have e : (mkA n s []).tmps[t]?.getD undef = .pointer (some ⟨b, 0, none⟩) := by
    rw [mkA_getElem?, if_pos (by simpa using ht)]; exact hs
  have e1 : (mkA n s []).tmps[t1]?.getD undef = s t1 := by rw [mkA_getElem?, if_pos (by simpa using h1)]; rfl
  have e2 : (mkA n s []).tmps[t2]?.getD undef = s t2 := by rw [mkA_getElem?, if_pos (by simpa using h2)]; rfl
  have e3 : (mkA n s []).tmps[t3]?.getD undef = s t3 := by rw [mkA_getElem?, if_pos (by simpa using h3)]; rfl
  have e4 : (mkA n s []).tmps[t4]?.getD undef = s t4 := by rw [mkA_getElem?, if_pos (by simpa using h4)]; rfl
  have := run_loadVar_agg (P := P) (t := ty) (w := w) (b := b) (o := 0) hu hag hz (cs := cs) hl (fun i v hv => by have := hb.h i v hv; simpa using this)
  simp [results, hf, e, e1, e2, e3, e4, asAddr, this]
end Go.Proofs.YtgmgiepdehlinaaDoor

/- The proof engine, part 16: all but one block stays; a row of numbers that is sorted in its place. -/
namespace Go.Proofs.YtgmgiepdehlinaaDoor
open Go.RowKit

abbrev intV (x : Int) : Value := .int .i64 x
def encI (x : Int) : List Value := [.int .i64 x]
theorem one_int (x : Int) : [intV x].all (fun v => v.cells.toList.all (·.oneCell')) = true := rfl
theorem all_ints' (xs : List Int) : (xs.map intV).all (fun v => v.cells.toList.all (·.oneCell')) = true := by
  rw [List.all_eq_true]; intro q hq; obtain ⟨y, _, rfl⟩ := List.mem_map.1 hq; rfl
theorem OwnL.app {w w' : World} {B B' e : Nat} {agg : Bool} {k : Nat} {v v' : Value} {xs : List Value} (h : OwnL w B e agg k v xs) (a : App B' w w' v') (hne : ∀ g, v.ownBlock = some g → v'.ownBlock ≠ some g) : OwnL w' B e agg k v xs :=
  h.kept fun g hg => a.g.block g (h.block g hg).2 fun e => hne g hg e.symm
theorem row_none {w : World} {agg : Bool} {k l c : Nat} {xs : List Value} (h : RowV w agg k (.slice none l c) xs) : xs = [] := by
  rcases h.at_ with ⟨e, _⟩ | ⟨b, o, c', hv, _⟩
  · exact e
  · simp at hv

/-- All is as it was but block kb, and new blocks. -/
structure Only (kb : Nat) (w w' : World) : Prop where
  os : w'.os = w.os
  tape : w'.tape = w.tape
  output : w'.output = w.output
  size : w.heap.size ≤ w'.heap.size
  other : ∀ k, k < w.heap.size → k ≠ kb → w'.heap[k]? = w.heap[k]?
theorem Only.ofExt {kb : Nat} {w w' : World} (e : Ext w w') : Only kb w w' := ⟨e.b.os, e.b.tape, e.b.output, e.size, fun _ hk _ => e.block hk⟩
theorem Only.ofPut {kb : Nat} {w w' : World} {o : Obj} (p : PutO w w' kb o) : Only kb w w' := ⟨p.os, p.tape, p.output, by rw [p.size]; exact Nat.le_refl _, fun k _ hk => p.other k hk⟩
theorem Only.trans {kb : Nat} {a b c : World} (h : Only kb a b) (k : Only kb b c) : Only kb a c :=
  ⟨k.os.trans h.os, k.tape.trans h.tape, k.output.trans h.output, Nat.le_trans h.size k.size, fun i hi hne => (k.other i (by have := h.size; omega) hne).trans (h.other i hi hne)⟩
theorem Only.ext {kb : Nat} {w0 w w' : World} (h : Only kb w w') (e : Ext w0 w) (hk : w0.heap.size ≤ kb) : Ext w0 w' :=
  ⟨⟨h.os.trans e.b.os, h.tape.trans e.b.tape, h.output.trans e.b.output, Nat.le_trans e.size h.size, fun k hk' => (h.other k (by have := e.size; omega) (by omega)).trans (e.block hk')⟩⟩
theorem Only.at_ {kb : Nat} {w w' : World} {b o : Nat} {cs : List Value} (h : Only kb w w') (ha : At w b o cs) (hne : b ≠ kb) : At w' b o cs := ⟨fun i v hv => by
  have h1 := ha.h i v hv
  rw [← h1]
  exact World.cell?_of_block (a := ⟨b, o + i, none⟩) (h.other b (lt_of_cell h1) hne)⟩
theorem Only.bk {kb : Nat} {w w' : World} {b e : Nat} {cs : List Value} (h : Only kb w w') (ha : Bk w b cs e) (hne : b ≠ kb) : Bk w' b cs e := ⟨(h.other b ha.lt hne).trans ha.h⟩
theorem Only.map {kb : Nat} {κ : Type} {encK : κ → Value} {w w' : World} {b : Nat} {m : List (κ × Value)} (h : Only kb w w') (ha : MapE encK w b m) (hne : b ≠ kb) : MapE encK w' b m := by
  have hl := ha.lt
  obtain ⟨es, c, h1, h2⟩ := ha.h
  exact ⟨es, c, (h.other b hl hne).trans h1, h2⟩
theorem Only.own {kb : Nat} {w w' : World} {B e : Nat} {agg : Bool} {k : Nat} {v : Value} {xs : List Value} (h : Only kb w w') (ho : OwnL w B e agg k v xs) (hB : kb < B) : OwnL w' B e agg k v xs :=
  ho.kept fun g hg => h.other g (ho.block g hg).2 (by have := (ho.block g hg).1; omega)

theorem Only.own' {kb : Nat} {w w' : World} {B e : Nat} {agg : Bool} {k : Nat} {v : Value} {xs : List Value} (h : Only kb w w') (ho : OwnL w B e agg k v xs) (hn : v.ownBlock ≠ some kb) : OwnL w' B e agg k v xs :=
  ho.kept fun g hg => h.other g (ho.block g hg).2 (fun e => hn (by rw [hg, e]))

theorem Only.row {kb : Nat} {w w' : World} {agg : Bool} {k : Nat} {v : Value} {xs : List Value} (h : Only kb w w') (hr : RowV w agg k v xs) (hne : v.ownBlock ≠ some kb) : RowV w' agg k v xs :=
  ⟨hr.len, hr.fit, hr.at_.imp id fun ⟨b, o, c, hv, hl, hc⟩ => ⟨b, o, c, hv, hl, fun j x hx => h.at_ (hc j x hx) (fun e => by subst e; subst hv; exact hne rfl)⟩⟩
theorem App.at_ {B : Nat} {w w' : World} {v : Value} {b o : Nat} {cs : List Value} (a : App B w w' v) (h : At w b o cs) (hne : v.ownBlock ≠ some b) : At w' b o cs := ⟨fun i u hv => by
  have h1 := h.h i u hv
  obtain ⟨ob, hb, _⟩ := cell_block h1
  rw [← h1]
  exact World.cell?_of_block (a := ⟨b, o + i, none⟩) ((a.other hb hne).trans hb.symm)⟩
theorem Only.app {kb B : Nat} {w0 w w' : World} {v : Value} (h : Only kb w0 w) (a : App B w w' v) (hB : w0.heap.size ≤ B) : Only kb w0 w' :=
  ⟨a.g.os.trans h.os, a.g.tape.trans h.tape, a.g.output.trans h.output, Nat.le_trans h.size a.g.size, fun k hk hne => (a.g.block k (by have := h.size; omega) (fun e => by have := (a.from_ k e.symm).1; omega)).trans (h.other k hk hne)⟩


/-! ### A slice of numbers in a block of the call's own, written in its place -/
abbrev SD (e : Nat) (w : World) (b n c : Nat) (l : List Int) : Prop := l.length = n ∧ OwnL w b e false 1 (.slice (some ⟨b, 0, none⟩) n c) (l.map intV)
theorem SD.ext {e b n c : Nat} {w w' : World} {l : List Int} (h : SD e w b n c l) (x : Ext w w') : SD e w' b n c l := ⟨h.1, h.2.ext x⟩
theorem SD.lt {e b n c : Nat} {w : World} {l : List Int} (h : SD e w b n c l) : b < w.heap.size := (h.2.block b rfl).2
theorem SD.get {e b n c i : Nat} {w : World} {l : List Int} {x : Int} (h : SD e w b n c l) (hx : l[i]? = some x) : w.cell? ⟨b, 0 + i, none⟩ = some (intV x) := by
  have := h.2.row
  obtain ⟨b', o, he, hA⟩ := RowV.place' (j := i) (x := intV x) this (by simp [hx])
  cases he
  have h0 := hA.h 0 (intV x) rfl
  simpa using h0
theorem get_mid {α : Type} {L R : List α} {x : α} {i : Nat} (h : i = L.length) : (L ++ x :: R)[i]? = some x := by subst h; simp
theorem set_mid {α : Type} {L R : List α} {x y : α} {i : Nat} (h : i = L.length) : (L ++ x :: R).set i y = L ++ y :: R := by subst h; simp

theorem wrap64 {i : Int} (h0 : 0 ≤ i) (h1 : i ≤ 9223372036854775807) : IntKind.wrap .u64 i = i := by
  rw [IntKind.wrap_u64]; omega
theorem wrapi {i : Int} (h0 : 0 ≤ i) (h1 : i ≤ 9223372036854775807) : IntKind.wrap .i64 i = i := by
  rw [IntKind.wrap_i64]; omega

theorem OwnL.fr {M : World → Nat → Prop} {w w' : World} {B e : Nat} {agg : Bool} {k : Nat} {v : Value} {xs : List Value} (h : OwnL w B e agg k v xs) (f : Fr M w w') (hm : ∀ g, v.ownBlock = some g → ¬ M w g) : OwnL w' B e agg k v xs := by
  rcases h.own.2 with hn | ⟨g, cap, cur, rfl, hB, hg, rest⟩
  · exact ⟨⟨h.own.1, .inl hn⟩, h.fit, h.len⟩
  · exact h.kept fun g' e => by cases e; exact (f.keep g _ hg rfl (hm g rfl)).trans hg.symm
theorem OwnL.self {w : World} {B e l c k : Nat} {agg : Bool} {a : Option Addr} {xs : List Value} (h : OwnL w B e agg k (.slice a l c) xs) (h0 : 0 < xs.length) : ∃ g, a = some ⟨g, 0, none⟩ ∧ B ≤ g ∧ OwnL w g e agg k (.slice (some ⟨g, 0, none⟩) l c) xs := by
  rcases h.own.2 with ⟨e0, _⟩ | ⟨g, cap, cur, e0, hB, rest⟩
  · have h1 := h.row.cap.1
    simp only [Value.slice.injEq] at e0
    omega
  · have e1 := e0
    simp only [Value.slice.injEq] at e1
    obtain ⟨rfl, _, _⟩ := e1
    exact ⟨g, rfl, hB, ⟨⟨h.own.1, .inr ⟨g, cap, cur, e0, Nat.le_refl _, rest⟩⟩, h.fit, h.len⟩⟩
/-- A cut: only some slots are known behind it. -/
theorem W.cutL {P : Program} {ro : Option Nat} {n : Nat} {X : Ctx} {s : Sl} {ds : List Deferred} {w : World} {c : Code} (L : List (Nat × Value)) (Q : World → Prop) (h : W P ro n c { X with nx := fun s' ds' w' => ds' = ds ∧ AllEq s' L ∧ Q w' } s ds w)
    (h2 : ∀ s0 w', Q w' → X.nx (upds s0 L) ds w') : W P ro n c X s ds w :=
  W.mono h (fun s' _ w' ⟨e, hA, q⟩ => by subst e; have := h2 s' w' q; rw [upds_id hA] at this; exact this) (fun _ _ _ h => h) (fun _ _ _ _ h => h)

section rules
variable {P : Program} {ro : Option Nat} {n : Nat} {all rest : List Oper} {K : Sl → World → Prop} {s : Sl} {w : World} {ty : Nat} {pos : String} {af : Array Edge} {x y : Operand}
theorem OpsD.store {e b m c i t bytes : Nat} {l : List Int} {u : Int} {z : Value} (hD : SD e w b m c l) (hi : i < m) (hx : ev n s x = .pointer (some ⟨b, 0 + i, none⟩)) (hy : ev n s y = .int .i64 u) [hz : TS P t z 1 bytes]
    (h : ∀ w', Only b w w' → SD e w' b m c (l.set i u) → Ops P ro n all rest K s w') : Ops P ro n all (⟨none, .store t x y, ty, pos, af, none⟩ :: rest) K s w := by
  have hil : i < l.length := by rw [hD.1]; exact hi
  rw [Nat.zero_add] at hx
  refine Ops.storeL (B := b) (e := e) (agg := false) (k := 1) (xs := l.map intV) (u := intV u) (X := intV l[i]) (X' := intV u) (j := i) (i := 0) (g := b) hD.2 rfl (by simp [hil]) rfl rfl rfl (by rw [Nat.mul_one, Nat.add_zero]; exact hx) hy rfl rfl ?_
  intro w' o hp hO
  refine h w' (.ofPut hp) ⟨by rw [List.length_set]; exact hD.1, ?_⟩
  rw [List.map_set]; exact hO
end rules

/-- A function that compares numbers by their keys, in all worlds that come of w by writing block b alone. -/
structure CmpE (P : Program) (g : Nat) (cap : List Value) (k : Int → Int) (b : Nat) (w : World) (p : Int → Prop) : Prop where
  h : ∀ w', Only b w w' → ∀ x y, p x → p y → Ct P g ([intV x, intV y] ++ cap) w' fun v _ => v = .int .i64 (if k x < k y then -1 else if k y < k x then 1 else 0)
theorem CmpE.only {P : Program} {g : Nat} {cap : List Value} {k : Int → Int} {b : Nat} {w w' : World} {p : Int → Prop} (h : CmpE P g cap k b w p) (o : Only b w w') : CmpE P g cap k b w' p := ⟨fun w2 o2 => h.h w2 (o.trans o2)⟩
theorem cmp_lt {a b : Int} : decide ((if a < b then (-1 : Int) else if b < a then 1 else 0) < 0) = decide (a < b) := by
  by_cases h : a < b
  · simp [h]
  · by_cases h2 : b < a <;> simp [h, h2]
end Go.Proofs.YtgmgiepdehlinaaDoor

/- The proof engine, part 17: a slice of the call's own in a field. -/
namespace Go.Proofs.YtgmgiepdehlinaaDoor
open Go.RowKit

theorem Bk.cellO {w : World} {b e o : Nat} {cs : List Value} {v : Value} (h : Bk w b cs e) (hv : cs[o]? = some v) : w.cell? ⟨b, o, none⟩ = some v := by have := (Bk.toAt (h := h)).h o v hv; simpa using this
/-- The blocks below N, and the block of the slice that lies at place o of block b. -/
def MO (N b o : Nat) (V : World) (k : Nat) : Prop := k < N ∨ ∃ v, V.cell? ⟨b, o, none⟩ = some v ∧ v.ownBlock = some k
theorem MO.lt {N b o : Nat} {V : World} {v : Value} {k : Nat} (hN : N ≤ V.heap.size) (hb : V.cell? ⟨b, o, none⟩ = some v) (ho : ∀ g, v.ownBlock = some g → g < V.heap.size) (h : MO N b o V k) : k < V.heap.size := by
  rcases h with h | ⟨v', hv, hk⟩
  · omega
  · rw [hb] at hv; cases hv
    exact ho k hk
theorem MO.back {N n b o : Nat} {V V' : World} {v : Value} {k : Nat} (hb : V.cell? ⟨b, o, none⟩ = some v) (g : Grow n V V') (h : MO N b o V' k) : MO N b o V k := by
  rcases h with h | ⟨v', hv, hk⟩
  · exact .inl h
  · rw [g.cell hb] at hv; cases hv
    exact .inr ⟨v, hb, hk⟩
theorem MO.grow {N b o : Nat} {V V' : World} {k : Nat} (hb : b < N) (g : Grow N V V') (h : MO N b o V' k) : MO N b o V k := by
  rcases h with h | ⟨v', hv, hk⟩
  · exact .inl h
  · refine .inr ⟨v', ?_, hk⟩
    rw [← hv]
    exact (World.cell?_of_block (a := ⟨b, o, none⟩) (g.old b hb)).symm
/-- A round: what it keeps, and what the slice is behind it. -/
theorem MO.fr {N b o : Nat} {V V' : World} {v v' : Value} (hs : V.heap.size ≤ V'.heap.size) (hb : V.cell? ⟨b, o, none⟩ = some v) (hb' : V'.cell? ⟨b, o, none⟩ = some v') (hk : ∀ k ob, V.heap[k]? = some ob → N ≤ k → v.ownBlock ≠ some k → V'.heap[k]? = some ob)
    (hw : v'.ownBlock = v.ownBlock ∨ ∃ g, v'.ownBlock = some g ∧ V.heap.size ≤ g) : Fr (MO N b o) V V' :=
  ⟨hs, fun k ob h1 _ hm => hk k ob h1 (Nat.le_of_not_lt fun h => hm (.inl h)) (fun e => hm (.inr ⟨v, hb, e⟩)), fun k h => by
    rcases h with h | ⟨u, hu, hk'⟩
    · exact .inl (.inl h)
    · rw [hb'] at hu; cases hu
      rcases hw with e | ⟨g, e, hg⟩
      · exact .inl (.inr ⟨v, hb, by rw [← e]; exact hk'⟩)
      · rw [e] at hk'; cases hk'; exact .inr hg⟩
/-- A number put into a slice that lies in one block. -/
theorem Bk.setI {w : World} {b e i : Nat} {xs : List Int} {y : Int} (hi : i < xs.length) (h : Bk w b ((xs.map intV).take i ++ [intV y] ++ (xs.map intV).drop (i + 1)) e) : Bk w b ((xs.set i y).map intV) e := by
  have : (xs.map intV).take i ++ [intV y] ++ (xs.map intV).drop (i + 1) = (xs.set i y).map intV := by
    rw [List.map_set, List.set_eq_take_append_cons_drop, if_pos (by simpa using hi)]; simp
  rw [← this]; exact h
/-! ### Rows of rows of numbers -/
abbrev Rw := Option Addr × Nat × List Int
abbrev encW (x : Rw) : Value := .slice x.1 x.2.2.length x.2.1
class RowsI (w : World) (rs : List Rw) : Prop where
  h : ∀ x ∈ rs, RowV w false 1 (encW x) (x.2.2.map intV)
instance RowsI.step {w w' : World} {rs : List Rw} [hs : Step w w'] [h : RowsI w rs] : RowsI w' rs := ⟨fun x hx => (h.h x hx).ext ⟨hs.b⟩⟩
theorem RowsI.ext {w w' : World} {rs : List Rw} (h : RowsI w rs) (hs : Ext w w') : RowsI w' rs := ⟨fun x hx => (h.h x hx).ext hs⟩
theorem RowsI.get {w : World} {rs : List Rw} (h : RowsI w rs) {i : Nat} (hi : i < rs.length) : RowI w (.slice rs[i].1 rs[i].2.2.length rs[i].2.1) false 1 (rs[i].2.2.map intV) := ⟨h.h _ (List.getElem_mem hi)⟩
theorem OwnL.ne {w : World} {B B' e e' : Nat} {agg agg' : Bool} {k k' : Nat} {v v' : Value} {xs ys : List Value} (h : OwnL w B e agg k v xs) (h' : OwnL w B' e' agg' k' v' ys) (he : e ≠ e') : ∀ g, v.ownBlock = some g → v'.ownBlock ≠ some g := fun g hg hg' => by
  rcases h.own.2 with ⟨rfl, _⟩ | ⟨g1, cap1, cur1, rfl, _, h1, _⟩
  · simp [Value.ownBlock] at hg
  · rcases h'.own.2 with ⟨rfl, _⟩ | ⟨g2, cap2, cur2, rfl, _, h2, _⟩
    · simp [Value.ownBlock] at hg'
    · simp only [Value.ownBlock, Option.some.injEq] at hg hg'
      subst hg; subst hg'
      rw [h1] at h2
      simp only [Option.some.injEq, Obj.cells.injEq] at h2
      exact he h2.2.1
/-- Rows of rows of the call's own. -/
structure OwnW (w : World) (B e1 e2 : Nat) (v : Value) (rs : List Rw) : Prop where
  out : OwnL w B e1 false 1 v (rs.map encW)
  ins : ∀ x ∈ rs, OwnL w B e2 false 1 (encW x) (x.2.2.map intV)
theorem OwnW.rows {w : World} {B e1 e2 : Nat} {v : Value} {rs : List Rw} (h : OwnW w B e1 e2 v rs) : RowsI w rs := ⟨fun x hx => (h.ins x hx).row⟩
theorem OwnW.ext {w w' : World} {B e1 e2 : Nat} {v : Value} {rs : List Rw} (h : OwnW w B e1 e2 v rs) (hs : Ext w w') : OwnW w' B e1 e2 v rs := ⟨h.out.ext hs, fun x hx => (h.ins x hx).ext hs⟩
theorem OwnW.nil (w : World) (B e1 e2 : Nat) : OwnW w B e1 e2 (.slice none 0 0) [] := ⟨OwnL.nil _ _ _ _ _, by simp⟩
theorem all_encW (rs : List Rw) : (rs.map encW).all (fun v => v.cells.toList.all (·.oneCell')) = true := by
  rw [List.all_eq_true]; intro q hq; obtain ⟨y, _, rfl⟩ := List.mem_map.1 hq; rfl
/-- One more row. -/
theorem OwnW.snoc {w w' : World} {B e1 e2 : Nat} {v v' : Value} {rs : List Rw} {x : Rw} (h : OwnW w B e1 e2 v rs) (hx : OwnL w B e2 false 1 (encW x) (x.2.2.map intV)) (hA : App B w w' v) (hO : OwnL w' B e1 false 1 v' (rs.map encW ++ [encW x])) (he : e2 ≠ e1) : OwnW w' B e1 e2 v' (rs ++ [x]) :=
  ⟨by rw [List.map_append]; exact hO, fun y hy => by
    rcases List.mem_append.1 hy with hy | hy
    · exact (h.ins y hy).app hA ((h.ins y hy).ne h.out he)
    · have : y = x := by simpa using hy
      subst this
      exact hx.app hA (hx.ne h.out he)⟩
end Go.Proofs.YtgmgiepdehlinaaDoor

/- Plain functions that several contracts speak of. -/
namespace Go.Proofs.YtgmgiepdehlinaaDoor
open Go.RowKit

def inB (lo hi n : Int) : Bool := decide (lo ≤ n ∧ n ≤ hi)
theorem not_any_not {α : Type} (q : α → Bool) (xs : List α) : (!(xs.any fun n => !q n)) = xs.all q := by
  induction xs with
  | nil => rfl
  | cons x xs ih => simp only [List.any_cons, List.all_cons, Bool.not_or, ih, Bool.not_not]
theorem any_not {α : Type} (q : α → Bool) (xs : List α) : (xs.any fun n => !q n) = !xs.all q := by
  rw [← not_any_not, Bool.not_not]
def lowB (c : UInt8) : Bool := decide (97 ≤ c.toNat ∧ c.toNat ≤ 122)
def wordB (s : ByteArray) : Bool := decide (1 ≤ s.size ∧ s.size ≤ 12) && s.data.toList.all lowB
theorem low_any (l : List UInt8) : (!l.any fun c => decide ((c.toNat : Int) < 97 ∨ 122 < (c.toNat : Int))) = l.all lowB := by
  rw [← not_any_not]
  congr 2
  funext c
  rw [lowB, ← decide_not, decide_eq_decide]
  omega
theorem word_yes (s : ByteArray) (h : [(s.size : Int)].all (inB 1 12) = true) : (!s.data.toList.any fun c => decide ((c.toNat : Int) < 97 ∨ 122 < (c.toNat : Int))) = wordB s := by
  rw [low_any, wordB]
  simp [inB] at h
  have : decide (1 ≤ s.size ∧ s.size ≤ 12) = true := decide_eq_true (by omega)
  rw [this]; rfl
theorem word_no (s : ByteArray) (h : [(s.size : Int)].all (inB 1 12) = false) : false = wordB s := by
  rw [wordB]
  simp [inB] at h
  have : decide (1 ≤ s.size ∧ s.size ≤ 12) = false := decide_eq_false (by omega)
  rw [this]; rfl
end Go.Proofs.YtgmgiepdehlinaaDoor

/- Texts: chapters of lines of words. -/
namespace Go.Proofs.YtgmgiepdehlinaaDoor
open Go.RowKit

abbrev strV (s : ByteArray) : Value := .string s
abbrev Ln := Option Addr × Nat × List ByteArray
abbrev encLn (x : Ln) : Value := .slice x.1 x.2.2.length x.2.1
abbrev Ch := Int × Option Addr × Nat × List Ln
abbrev encCh (x : Ch) : Value := .agg #[.int .i64 x.1, .slice x.2.1 x.2.2.2.length x.2.2.1]
class TextI (w : World) (cs : List Ch) : Prop where
  lines : ∀ x ∈ cs, RowV w false 1 (.slice x.2.1 x.2.2.2.length x.2.2.1) (x.2.2.2.map encLn)
  words : ∀ x ∈ cs, ∀ y ∈ x.2.2.2, RowV w false 1 (encLn y) (y.2.2.map strV)
theorem TextI.ext {w w' : World} {cs : List Ch} (h : TextI w cs) (hs : Ext w w') : TextI w' cs := ⟨fun x hx => (h.lines x hx).ext hs, fun x hx y hy => (h.words x hx y hy).ext hs⟩
instance TextI.step {w w' : World} {cs : List Ch} [hs : Step w w'] [h : TextI w cs] : TextI w' cs := h.ext ⟨hs.b⟩
theorem TextI.line {w : World} {cs : List Ch} (h : TextI w cs) {k : Nat} (hk : k < cs.length) : RowI w (.slice cs[k].2.1 cs[k].2.2.2.length cs[k].2.2.1) false 1 (cs[k].2.2.2.map encLn) := ⟨h.lines _ (List.getElem_mem hk)⟩
theorem TextI.word {w : World} {cs : List Ch} (h : TextI w cs) {k n : Nat} (hk : k < cs.length) (hn : n < cs[k].2.2.2.length) : RowI w (.slice cs[k].2.2.2[n].1 cs[k].2.2.2[n].2.2.length cs[k].2.2.2[n].2.1) false 1 (cs[k].2.2.2[n].2.2.map strV) := ⟨h.words _ (List.getElem_mem hk) _ (List.getElem_mem hn)⟩
/-- What a text says, without its memory. -/
abbrev Tx := List (Int × List (List ByteArray))
def txF (cs : List Ch) : Tx := cs.map fun x => (x.1, x.2.2.2.map (·.2.2))
def greatL (y : List ByteArray) : Bool := decide (15 < y.length) || y.any fun s => decide (40 < s.size)
def greatC (x : Int × List (List ByteArray)) : Bool := decide (15 < x.2.length) || x.2.any greatL
def greatT (t : Tx) : Bool := decide (10 < t.length) || t.any greatC
theorem any_hit {α : Type} {p : α → Bool} {l : List α} {k : Nat} (hk : k < l.length) (h : p l[k] = true) : l.any p = true := List.any_eq_true.2 ⟨_, List.getElem_mem hk, h⟩
theorem any_miss {α : Type} {p : α → Bool} {l : List α} (h : ∀ (j : Nat) (hj : j < l.length), p l[j] = false) : l.any p = false := by
  rw [List.any_eq_false]
  intro x hx
  obtain ⟨i, hi, rfl⟩ := List.mem_iff_getElem.1 hx
  rw [h i hi]; simp
theorem all_1 (p : Int → Bool) (n : Int) : [n].all p = p n := by simp
/-! Valid texts -/
def lineB (y : List ByteArray) : Bool := inB 1 10 (y.length : Int) && y.all wordB
def chapB (x : Int × List (List ByteArray)) : Bool := inB 0 9999 x.1 && inB 1 10 (x.2.length : Int) && x.2.all lineB
def textB (t : Tx) : Bool := inB 1 6 (t.length : Int) && t.all chapB && decide ((t.map (·.1)).Nodup)
abbrev txC (x : Ch) : Int × List (List ByteArray) := (x.1, x.2.2.2.map (·.2.2))
theorem txF_len (cs : List Ch) : (txF cs).length = cs.length := by simp [txF]
theorem all_no {α : Type} {p : α → Bool} {l : List α} {k : Nat} (hk : k < l.length) (h : p l[k] = false) : l.all p = false := by
  rw [List.all_eq_false]; exact ⟨_, List.getElem_mem hk, by rw [h]; simp⟩
theorem all_yes {α : Type} {p : α → Bool} {l : List α} (h : ∀ (j : Nat) (hj : j < l.length), p l[j] = true) : l.all p = true := by
  rw [List.all_eq_true]
  intro x hx
  obtain ⟨i, hi, rfl⟩ := List.mem_iff_getElem.1 hx
  exact h i hi
theorem textB_len {cs : List Ch} (h : inB 1 6 (cs.length : Int) = false) : textB (txF cs) = false := by rw [textB, txF_len, h]; rfl
theorem textB_chap {cs : List Ch} {k : Nat} (hk : k < cs.length) (h : chapB (txC cs[k]) = false) : textB (txF cs) = false := by
  have : (txF cs).all chapB = false := all_no (k := k) (by rw [txF_len]; exact hk) (by simpa [txF] using h)
  rw [textB, this, Bool.and_false]; rfl
theorem textB_dup {cs : List Ch} {i k : Nat} (hik : i < k) (hk : k < cs.length) (h : (cs[i]'(by omega)).1 = cs[k].1) : textB (txF cs) = false := by
  have : ¬ ((txF cs).map (·.1)).Nodup := fun hn => by
    have h1 := List.pairwise_iff_getElem.1 hn i k (by simp [txF]; omega) (by simp [txF]; omega) hik
    simp [txF] at h1
    exact h1 h
  rw [textB, decide_eq_false this, Bool.and_false]
theorem textB_yes {cs : List Ch} (h1 : inB 1 6 (cs.length : Int) = true) (h2 : ∀ (k : Nat) (hk : k < cs.length), chapB (txC cs[k]) = true) (h3 : ∀ (i k : Nat) (hik : i < k) (hk : k < cs.length), (cs[i]'(by omega)).1 ≠ cs[k].1) : textB (txF cs) = true := by
  have e1 : (txF cs).all chapB = true := all_yes fun k hk => by
    have := h2 k (by rw [← txF_len]; exact hk)
    simpa [txF] using this
  have e2 : ((txF cs).map (·.1)).Nodup := by
    refine List.pairwise_iff_getElem.2 fun i k hi hk hik => ?_
    have := h3 i k hik (by simpa [txF] using hk)
    simpa [txF] using this
  rw [textB, txF_len, h1, e1, decide_eq_true e2]; rfl
theorem chapB_id {x : Ch} (h : inB 0 9999 x.1 = false) : chapB (txC x) = false := by rw [chapB, h]; rfl
theorem chapB_len {x : Ch} (h : inB 1 10 (x.2.2.2.length : Int) = false) : chapB (txC x) = false := by rw [chapB, List.length_map, h, Bool.and_false]; rfl
theorem chapB_line {x : Ch} {n : Nat} (hn : n < x.2.2.2.length) (h : lineB x.2.2.2[n].2.2 = false) : chapB (txC x) = false := by
  have : (x.2.2.2.map (·.2.2)).all lineB = false := all_no (k := n) (by rw [List.length_map]; exact hn) (by rw [List.getElem_map]; exact h)
  rw [chapB, this, Bool.and_false]
theorem chapB_yes {x : Ch} (h1 : inB 0 9999 x.1 = true) (h2 : inB 1 10 (x.2.2.2.length : Int) = true) (h3 : ∀ (n : Nat) (hn : n < x.2.2.2.length), lineB x.2.2.2[n].2.2 = true) : chapB (txC x) = true := by
  have : (x.2.2.2.map (·.2.2)).all lineB = true := all_yes fun n hn => by
    rw [List.length_map] at hn
    rw [List.getElem_map]; exact h3 n hn
  rw [chapB, List.length_map, h1, h2, this]; rfl
theorem lineB_len {y : List ByteArray} (h : inB 1 10 (y.length : Int) = false) : lineB y = false := by rw [lineB, h]; rfl
theorem lineB_word {y : List ByteArray} {q : Nat} (hq : q < y.length) (h : wordB y[q] = false) : lineB y = false := by rw [lineB, all_no hq h, Bool.and_false]
theorem lineB_yes {y : List ByteArray} (h1 : inB 1 10 (y.length : Int) = true) (h2 : ∀ (q : Nat) (hq : q < y.length), wordB y[q] = true) : lineB y = true := by rw [lineB, h1, all_yes h2]; rfl
/-- No word is very long. -/
def SmallT (cs : List Ch) : Prop := cs.length ≤ 1000 ∧ ∀ x ∈ cs, x.2.2.2.length ≤ 1000 ∧ ∀ y ∈ x.2.2.2, y.2.2.length ≤ 1000 ∧ ∀ s ∈ y.2.2, s.size ≤ 1000
theorem small_of_great {cs : List Ch} (h : greatT (txF cs) = false) : SmallT cs := by
  simp only [greatT, Bool.or_eq_false_iff, decide_eq_false_iff_not, List.any_eq_false, txF_len] at h
  refine ⟨by omega, fun x hx => ?_⟩
  have h1 := h.2 (txC x) (List.mem_map.2 ⟨x, hx, rfl⟩)
  simp only [greatC, Bool.or_eq_true, decide_eq_true_eq, List.any_eq_true, not_or, not_exists, not_and, List.length_map] at h1
  refine ⟨by omega, fun y hy => ?_⟩
  have h2 := h1.2 y.2.2 (List.mem_map.2 ⟨y, hy, rfl⟩)
  simp only [greatL, Bool.or_eq_true, decide_eq_true_eq, List.any_eq_true, not_or, not_exists, not_and] at h2
  exact ⟨by omega, fun s hs => by have := h2.2 s hs; omega⟩
end Go.Proofs.YtgmgiepdehlinaaDoor

/- The proof engine, part 19: slices within their room; append in place, copy, clear; overlaps. -/
namespace Go.Proofs.YtgmgiepdehlinaaDoor
open Go.RowKit

section rules
variable {P : Program} {ro : Option Nat} {n : Nat} {all rest : List Oper} {K : Sl → World → Prop} {s : Sl} {w : World} {d : Nat} {ty : Nat} {pos : String} {af : Array Edge} {x y : Operand} {t t' e bytes : Nat} {z : Value}
variable {g o l c lo hi : Nat} {i j : Int} {k1 k2 k3 : IntKind} {xl xh xm : Operand}
theorem Ops.sliceXH (hx : ev n s x = .slice (some ⟨g, o, none⟩) l c) (hh : ev n s xh = .int k2 j) (hj : j = (hi : Int)) (h2 : hi ≤ c) [ht : TSl P t e] [hz : TS P e z 1 bytes]
    (h : Ops P ro n all rest K (upd s d (.slice (some ⟨g, o, none⟩) hi c)) w) : Ops P ro n all (⟨some d, .slice t x none (some xh) none, ty, pos, af, none⟩ :: rest) K s w := by
  subst hj
  refine Ops.ofRun rfl ?_ h
  by_cases hc : c = 0
  · obtain rfl : hi = 0 := by omega
    simp [execOp, Instr.sliceAt, Instr.slice, Instr.sliceBounds, Instr.sliceBound, hx, hh, run_underlying ht.h, asIntOf, run_sizeOf' w hz, hc]
  · simp [execOp, Instr.sliceAt, Instr.slice, Instr.sliceBounds, Instr.sliceBound, hx, hh, run_underlying ht.h, asIntOf, h2, run_sizeOf' w hz, hc, Addr.add_lit]
theorem Ops.sliceXL (hx : ev n s x = .slice (some ⟨g, o, none⟩) l c) (hl : ev n s xl = .int k1 i) (hi' : i = (lo : Int)) (h1 : lo ≤ l) [ht : TSl P t e] [hz : TS P e z 1 bytes]
    (h : Ops P ro n all rest K (upd s d (.slice (some ⟨g, if c = lo then o else o + lo, none⟩) (l - lo) (c - lo))) w) : Ops P ro n all (⟨some d, .slice t x (some xl) none none, ty, pos, af, none⟩ :: rest) K s w := by
  subst hi'
  refine Ops.ofRun rfl ?_ h
  by_cases hc : c = lo
  · simp [execOp, Instr.sliceAt, Instr.slice, Instr.sliceBounds, Instr.sliceBound, hx, hl, run_underlying ht.h, asIntOf, h1, run_sizeOf' w hz, hc]
  · simp [execOp, Instr.sliceAt, Instr.slice, Instr.sliceBounds, Instr.sliceBound, hx, hl, run_underlying ht.h, asIntOf, h1, run_sizeOf' w hz, hc, Addr.add_lit]
theorem Ops.sliceXL2 (hx : ev n s x = .slice (some ⟨g, o, none⟩) l c) (hl : ev n s xl = .int k1 i) (hi' : i = (lo : Int)) (h1 : lo ≤ l) (h2 : lo < c) [ht : TSl P t e] [hz : TS P e z 1 bytes]
    (h : Ops P ro n all rest K (upd s d (.slice (some ⟨g, o + lo, none⟩) (l - lo) (c - lo))) w) : Ops P ro n all (⟨some d, .slice t x (some xl) none none, ty, pos, af, none⟩ :: rest) K s w :=
  Ops.sliceXL (lo := lo) hx hl hi' h1 (by rw [if_neg (by omega)]; exact h)
theorem Ops.sliceXLH (hx : ev n s x = .slice (some ⟨g, o, none⟩) l c) (hl : ev n s xl = .int k1 i) (hh : ev n s xh = .int k2 j) (hi' : i = (lo : Int)) (hj : j = (hi : Int)) (h1 : lo ≤ hi) (h2 : hi ≤ c) (h3 : lo < c) [ht : TSl P t e] [hz : TS P e z 1 bytes]
    (h : Ops P ro n all rest K (upd s d (.slice (some ⟨g, o + lo, none⟩) (hi - lo) (c - lo))) w) : Ops P ro n all (⟨some d, .slice t x (some xl) (some xh) none, ty, pos, af, none⟩ :: rest) K s w := by
  subst hi' hj
  refine Ops.ofRun rfl ?_ h
  have hc : ¬ c = lo := by omega
  simp [execOp, Instr.sliceAt, Instr.slice, Instr.sliceBounds, Instr.sliceBound, hx, hl, hh, run_underlying ht.h, asIntOf, h1, h2, run_sizeOf' w hz, hc, Addr.add_lit]
/-- A slice of three numbers: only that it is there. -/
theorem Ops.slice3 {a : Option Addr} {mx : Nat} {m : Int} (hx : ev n s x = .slice a l c) (hl : ev n s xl = .int k1 i) (hh : ev n s xh = .int k2 j) (hm : ev n s xm = .int k3 m) (hi' : i = (lo : Int)) (hj : j = (hi : Int)) (hm' : m = (mx : Int)) (h1 : lo ≤ hi) (h2 : hi ≤ mx) (h3 : mx ≤ c) [ht : TSl P t e] [hz : TS P e z 1 bytes]
    (h : ∀ v, Ops P ro n all rest K (upd s d v) w) : Ops P ro n all (⟨some d, .slice t x (some xl) (some xh) (some xm), ty, pos, af, none⟩ :: rest) K s w := by
  subst hi' hj hm'
  refine Ops.ofRun (v := .slice (if mx = lo then a else a.map (·.add (lo * 1))) (hi - lo) (mx - lo)) rfl ?_ (h _)
  simp [execOp, Instr.sliceAt, Instr.slice, Instr.sliceBounds, Instr.sliceBound, hx, hl, hh, hm, run_underlying ht.h, asIntOf, h1, h2, h3, run_sizeOf' w hz]

variable {cs us : List Value} {a : Addr} {sl sc dl dc : Nat}
/-- Append where there is room. -/
theorem Ops.appendRoom {m cap : Nat} (hB : Bk w g cs e) (hx : ev n s x = .slice (some ⟨g, 0, none⟩) m cap) (hy : ev n s y = .slice (some a) sl sc) (hl : us.length = sl) (hsrc : ∀ (j : Nat) v, us[j]? = some v → w.cell? (a.add j) = some v) (h1 : ∀ v ∈ us, v.oneCell' = true)
    (hroom : m + sl ≤ cap) (hfit : m + sl ≤ cs.length) [ht : TSl P t e] [hz : TS P e z 1 bytes]
    (h : ∀ w', PutO w w' g (.cells (cs.take m ++ us ++ cs.drop (m + sl)).toArray e (0, 0)) → Ops P ro n all rest K (upd s d (.slice (some ⟨g, 0, none⟩) (m + sl) cap)) w') :
    Ops P ro n all (⟨some d, .call { callee := .builtin .append, args := #[x, y], argTypes := #[t, t] }, ty, pos, af, none⟩ :: rest) K s w := by
  obtain ⟨inf, hi1, _, his, _⟩ := hz.info
  subst hl
  have hr := run_append_room (P := P) w t ty e inf ht.h hi1 g m cap cs.toArray hB.h a us.length sc us (by rw [his, Nat.mul_one]) hsrc h1 hroom (by rw [his]; simpa using hfit)
  rw [his, Nat.mul_one] at hr
  exact Ops.ofRun (w' := w.setRow g (cs.take m ++ us ++ cs.drop (m + us.length)).toArray) rfl (by simp [execOp, resolve, invoke, builtin, hx, hy, hr]) (h _ (putO_setRow hB))
/-- Copy into a block that is known whole. -/
theorem Ops.copyB (hB : Bk w g cs e) (hx : ev n s x = .slice (some ⟨g, o, none⟩) dl dc) (hy : ev n s y = .slice (some a) sl sc) (hn : us.length = min sl dl) (hsrc : ∀ (j : Nat) v, us[j]? = some v → w.cell? (a.add j) = some v) (h1 : ∀ v ∈ us, v.oneCell' = true)
    (hfit : o + us.length ≤ cs.length) [ht : TSl P t e] [hz : TS P e z 1 bytes]
    (h : ∀ w', PutO w w' g (.cells (cs.take o ++ us ++ cs.drop (o + us.length)).toArray e (0, 0)) → Ops P ro n all rest K (upd s d (.int .i64 ((us.length : Nat) : Int))) w') :
    Ops P ro n all (⟨some d, .call { callee := .builtin .copy, args := #[x, y], argTypes := #[t, t'] }, ty, pos, af, none⟩ :: rest) K s w := by
  obtain ⟨inf, hi1, _, his, _⟩ := hz.info
  have hr := run_copy_row (P := P) w t t' ty e g o dl dc a sl sc cs.toArray e us ht.h (by rw [hi1]; simp [his]) hB.h hn hsrc (by simpa using hfit) h1
  exact Ops.ofRun (w' := w.setRow g (cs.take o ++ us ++ cs.drop (o + us.length)).toArray) rfl (by simp [execOp, resolve, invoke, builtin, hx, hy, hr, goInt]) (h _ (putO_setRow hB))
/-- Clear within a block that is known whole. -/
theorem Ops.clearB (hB : Bk w g cs e) (hx : ev n s x = .slice (some ⟨g, o, none⟩) l c) (hl0 : 0 < l) (hfit : o + l ≤ cs.length) [ht : TSl P t e] [hz : TS P e z 1 bytes] (hzc : z.cells = #[z]) (h1 : z.oneCell' = true)
    (h : ∀ w', PutO w w' g (.cells (cs.take o ++ List.replicate l z ++ cs.drop (o + l)).toArray e (0, 0)) → Ops P ro n all rest K s w') :
    Ops P ro n all (⟨none, .call { callee := .builtin .clear, args := #[x], argTypes := #[t] }, ty, pos, af, none⟩ :: rest) K s w := by
  obtain ⟨inf, hi1, hiz, his, _⟩ := hz.info
  have hzv : (zeroValue e).run P w = .ok z w := by simp [zeroValue, typeInfo, hi1, hiz]
  have hzl : (Builtin.zeroCells z.cells l).toList = List.replicate l z := by
    rw [hzc]
    simp [Builtin.zeroCells]
    apply List.ext_getElem
    · simp
    · intro i h1 h2
      simp [Nat.mod_one]
  have hst := run_storeCells_at P g o e (List.replicate l z) 0 cs.toArray w hB.h (by simpa using hfit) (by intro v hv'; rw [List.eq_of_mem_replicate hv']; exact h1)
  simp only [Nat.add_zero, List.length_replicate] at hst
  have hr : (Builtin.clear_ #[t] ty #[.slice (some ⟨g, o, none⟩) l c]).run P w = .ok (.tuple #[]) (w.setRow g (cs.take o ++ List.replicate l z ++ cs.drop (o + l)).toArray) := by
    obtain ⟨m, rfl⟩ : ∃ m, l = m + 1 := ⟨l - 1, by omega⟩
    simp [Builtin.clear_, run_underlying ht.h, hzv, hzl, hst]
  exact Ops.step rfl (OpW.ofRun (v := .tuple #[]) (w' := w.setRow g (cs.take o ++ List.replicate l z ++ cs.drop (o + l)).toArray) rfl (by simp [execOp, resolve, invoke, builtin, hx, hr]) (h _ (putO_setRow hB)))
theorem Ops.buildSlice2 {u v : Value} (hx : ev n s x = u) (hy : ev n s y = v) [ht : TSl P t e] [hz : TS P e z 1 bytes] (hu : u.cells = #[u]) (hv : v.cells = #[v]) (hzz : z.cells.size = 1)
    (h : ∀ b w', b = w.heap.size → w'.heap.size = w.heap.size + 1 → Step w w' → Bk w' b [u, v] e → Ops P ro n all rest K (upd s d (.slice (some ⟨b, 0, none⟩) 2 2)) w') :
    Ops P ro n all (⟨some d, .buildSlice t 2 #[(0, x), (1, y)], ty, pos, af, none⟩ :: rest) K s w := by
  obtain ⟨inf, hi1, hiz, his, _⟩ := hz.info
  have hfill : ∀ (a b : Value), Instr.fill (fun i => some (i, 1)) #[a, b] [(0, u), (1, v)] = some #[u, v] := by
    intro a b
    simp [Instr.fill, hu, hv]
  have hzv : (zeroValue e).run P w = .ok z w := by simp [zeroValue, typeInfo, hi1, hiz]
  have hrange : (Array.range 2).map (fun x => z.cells[x % z.cells.size]!) = #[z.cells[0]!, z.cells[0]!] := by
    rw [hzz, show Array.range 2 = #[0, 1] from by decide]; simp [Nat.mod_one]
  refine Ops.ofRun (w' := w.alloc (.cells #[u, v] e)) rfl ?_ (h w.heap.size _ rfl (by simp) ⟨(Below.refl _ w).alloc (Nat.le_refl _) _⟩ ⟨World.alloc_heap_new w _⟩)
  simp [execOp, Instr.buildSlice, run_underlying ht.h, run_sizeOf' w hz, hx, hy, hzv, hrange, hfill, newRow]
/-- A call of a function without a body: what the model says of it. -/
theorem Ops.callX {args : Array Operand} {at_ : Array Nat} {fv : Operand} {f : Nat} {vs : List Value} {v : Value} (hf : ev n s fv = .func (.func f) #[] #[]) (ha : args.toList.map (ev n s) = vs) (hr : (callFunc f vs.toArray).run P w = .ok (.value v) w)
    (h : Ops P ro n all rest K (upd s d v) w) : Ops P ro n all (⟨some d, .call { callee := .value fv, args := args, argTypes := at_ }, ty, pos, af, none⟩ :: rest) K s w := by
  refine Ops.ofRun rfl ?_ h
  subst ha
  have e : args.map (ev n s) = (args.toList.map (ev n s)).toArray := by apply Array.ext'; simp
  simp [execOp, hf, go_sem, hr, e]
end rules
end Go.Proofs.YtgmgiepdehlinaaDoor

/- The proof engine, part 20: slices of three and four. -/
namespace Go.Proofs.YtgmgiepdehlinaaDoor
open Go.RowKit

section rules
variable {P : Program} {ro : Option Nat} {n : Nat} {all rest : List Oper} {K : Sl → World → Prop} {s : Sl} {w : World} {d : Nat} {ty : Nat} {pos : String} {af : Array Edge} {x1 x2 x3 x4 : Operand} {t e bytes : Nat} {z : Value}
theorem Ops.buildSlice3 {v1 v2 v3 : Value} (h1 : ev n s x1 = v1) (h2 : ev n s x2 = v2) (h3 : ev n s x3 = v3) [ht : TSl P t e] [hz : TS P e z 1 bytes] (c1 : v1.cells = #[v1]) (c2 : v2.cells = #[v2]) (c3 : v3.cells = #[v3]) (hzz : z.cells.size = 1)
    (h : ∀ b w', b = w.heap.size → w'.heap.size = w.heap.size + 1 → Step w w' → Bk w' b [v1, v2, v3] e → Ops P ro n all rest K (upd s d (.slice (some ⟨b, 0, none⟩) 3 3)) w') :
    Ops P ro n all (⟨some d, .buildSlice t 3 #[(0, x1), (1, x2), (2, x3)], ty, pos, af, none⟩ :: rest) K s w := by
  obtain ⟨inf, hi1, hiz, his, _⟩ := hz.info
  have hfill : ∀ (a b c : Value), Instr.fill (fun i => some (i, 1)) #[a, b, c] [(0, v1), (1, v2), (2, v3)] = some #[v1, v2, v3] := by
    intro a b c
    simp [Instr.fill, c1, c2, c3]
  have hzv : (zeroValue e).run P w = .ok z w := by simp [zeroValue, typeInfo, hi1, hiz]
  have hrange : (Array.range 3).map (fun x => z.cells[x % z.cells.size]!) = #[z.cells[0]!, z.cells[0]!, z.cells[0]!] := by
    rw [hzz, show Array.range 3 = #[0, 1, 2] from by decide]; simp [Nat.mod_one]
  refine Ops.ofRun (w' := w.alloc (.cells #[v1, v2, v3] e)) rfl ?_ (h w.heap.size _ rfl (by simp) ⟨(Below.refl _ w).alloc (Nat.le_refl _) _⟩ ⟨World.alloc_heap_new w _⟩)
  simp [execOp, Instr.buildSlice, run_underlying ht.h, run_sizeOf' w hz, h1, h2, h3, hzv, hrange, hfill, newRow]
theorem Ops.buildSlice4 {v1 v2 v3 v4 : Value} (h1 : ev n s x1 = v1) (h2 : ev n s x2 = v2) (h3 : ev n s x3 = v3) (h4 : ev n s x4 = v4) [ht : TSl P t e] [hz : TS P e z 1 bytes] (c1 : v1.cells = #[v1]) (c2 : v2.cells = #[v2]) (c3 : v3.cells = #[v3]) (c4 : v4.cells = #[v4]) (hzz : z.cells.size = 1)
    (h : ∀ b w', b = w.heap.size → w'.heap.size = w.heap.size + 1 → Step w w' → Bk w' b [v1, v2, v3, v4] e → Ops P ro n all rest K (upd s d (.slice (some ⟨b, 0, none⟩) 4 4)) w') :
    Ops P ro n all (⟨some d, .buildSlice t 4 #[(0, x1), (1, x2), (2, x3), (3, x4)], ty, pos, af, none⟩ :: rest) K s w := by
  obtain ⟨inf, hi1, hiz, his, _⟩ := hz.info
  have hfill : ∀ (a b c f : Value), Instr.fill (fun i => some (i, 1)) #[a, b, c, f] [(0, v1), (1, v2), (2, v3), (3, v4)] = some #[v1, v2, v3, v4] := by
    intro a b c f
    simp [Instr.fill, c1, c2, c3, c4]
  have hzv : (zeroValue e).run P w = .ok z w := by simp [zeroValue, typeInfo, hi1, hiz]
  have hrange : (Array.range 4).map (fun x => z.cells[x % z.cells.size]!) = #[z.cells[0]!, z.cells[0]!, z.cells[0]!, z.cells[0]!] := by
    rw [hzz, show Array.range 4 = #[0, 1, 2, 3] from by decide]; simp [Nat.mod_one]
  refine Ops.ofRun (w' := w.alloc (.cells #[v1, v2, v3, v4] e)) rfl ?_ (h w.heap.size _ rfl (by simp) ⟨(Below.refl _ w).alloc (Nat.le_refl _) _⟩ ⟨World.alloc_heap_new w _⟩)
  simp [execOp, Instr.buildSlice, run_underlying ht.h, run_sizeOf' w hz, h1, h2, h3, h4, hzv, hrange, hfill, newRow]
end rules
end Go.Proofs.YtgmgiepdehlinaaDoor

/- What the program's types and functions are, as facts that the rules find by themselves: printed by gen.py off the seat's translation. -/
namespace Go.Proofs.YtgmgiepdehlinaaDoor
open Go.RowKit

instance : Mixed Tryd.prog := ⟨by kernel_rfl⟩
instance tu1 : TU Tryd.prog 1 (.func #[] #[] false) := ⟨Tryd.underlying1⟩
instance ts1 : TS Tryd.prog 1 (.nilFunc) 1 8 := ⟨by kernel_rfl⟩
instance tu2 : TU Tryd.prog 2 (.int .i64) := ⟨Tryd.underlying2⟩
instance ts2 : TS Tryd.prog 2 (.int .i64 0) 1 8 := ⟨by kernel_rfl⟩
instance tu3 : TU Tryd.prog 3 (.int .i64) := ⟨Tryd.underlying3⟩
instance ts3 : TS Tryd.prog 3 (.int .i64 0) 1 8 := ⟨by kernel_rfl⟩
instance tu4 : TU Tryd.prog 4 (.bool) := ⟨Tryd.underlying4⟩
instance ts4 : TS Tryd.prog 4 (.bool false) 1 1 := ⟨by kernel_rfl⟩
instance tu5 : TU Tryd.prog 5 (.int .u8) := ⟨Tryd.underlying5⟩
instance ts5 : TS Tryd.prog 5 (.int .u8 0) 1 1 := ⟨by kernel_rfl⟩
instance tu7 : TU Tryd.prog 7 (.struct #[{ name := "x", type := 2, offset := 0, embedded := false, tag := "", pkgPath := "runtime", byteOffset := 0 }, { name := "y", type := 3, offset := 1, embedded := false, tag := "", pkgPath := "runtime", byteOffset := 8 }, { name := "signed", type := 4, offset := 2, embedded := false, tag := "", pkgPath := "runtime", byteOffset := 16 }, { name := "code", type := 6, offset := 3, embedded := false, tag := "", pkgPath := "runtime", byteOffset := 17 }]) := ⟨Tryd.underlying7⟩
instance ts7 : TS Tryd.prog 7 (.agg #[.int .i64 0, .int .i64 0, .bool false, .int .u8 0]) 4 24 := ⟨by kernel_rfl⟩
instance tu9 : TU Tryd.prog 9 (.string) := ⟨Tryd.underlying9⟩
instance ts9 : TS Tryd.prog 9 (.string ⟨#[]⟩) 1 16 := ⟨by kernel_rfl⟩
instance tu12 : TU Tryd.prog 12 (.int .u64) := ⟨Tryd.underlying12⟩
instance ts12 : TS Tryd.prog 12 (.int .u64 0) 1 8 := ⟨by kernel_rfl⟩
instance tu13 : TU Tryd.prog 13 (.struct #[{ name := "msg", type := 9, offset := 0, embedded := false, tag := "", pkgPath := "runtime", byteOffset := 0 }, { name := "addr", type := 12, offset := 1, embedded := false, tag := "", pkgPath := "runtime", byteOffset := 16 }]) := ⟨Tryd.underlying13⟩
instance ts13 : TS Tryd.prog 13 (.agg #[.string ⟨#[]⟩, .int .u64 0]) 2 24 := ⟨by kernel_rfl⟩
instance tu18 : TU Tryd.prog 18 (.struct #[{ name := "typ", type := 17, offset := 0, embedded := false, tag := "", pkgPath := "internal/runtime/maps", byteOffset := 0 }]) := ⟨Tryd.underlying18⟩
instance ts18 : TS Tryd.prog 18 (.agg #[.pointer none]) 1 8 := ⟨by kernel_rfl⟩
instance tu21 : TU Tryd.prog 21 (.int .i32) := ⟨Tryd.underlying21⟩
instance ts21 : TS Tryd.prog 21 (.int .i32 0) 1 4 := ⟨by kernel_rfl⟩
instance : TSl Tryd.prog 22 68 := ⟨Tryd.underlying22⟩
instance tu22 : TU Tryd.prog 22 (.slice 68) := ⟨Tryd.underlying22⟩
instance ts22 : TS Tryd.prog 22 (.slice none 0 0) 1 24 := ⟨by kernel_rfl⟩
instance tu23 : TU Tryd.prog 23 (.struct #[{ name := "Chapters", type := 22, offset := 0, embedded := false, tag := "", pkgPath := "", byteOffset := 0 }]) := ⟨Tryd.underlying23⟩
instance ts23 : TS Tryd.prog 23 (.agg #[.slice none 0 0]) 1 24 := ⟨by kernel_rfl⟩
instance tu24 : TU Tryd.prog 24 (.struct #[{ name := "Chapters", type := 22, offset := 0, embedded := false, tag := "", pkgPath := "", byteOffset := 0 }]) := ⟨Tryd.underlying24⟩
instance ts24 : TS Tryd.prog 24 (.agg #[.slice none 0 0]) 1 24 := ⟨by kernel_rfl⟩
instance tu25 : TU Tryd.prog 25 (.struct #[{ name := "Width", type := 3, offset := 0, embedded := false, tag := "", pkgPath := "", byteOffset := 0 }, { name := "Side", type := 5, offset := 1, embedded := false, tag := "", pkgPath := "", byteOffset := 8 }]) := ⟨Tryd.underlying25⟩
instance ts25 : TS Tryd.prog 25 (.agg #[.int .i64 0, .int .u8 0]) 2 16 := ⟨by kernel_rfl⟩
instance tu26 : TU Tryd.prog 26 (.struct #[{ name := "Width", type := 3, offset := 0, embedded := false, tag := "", pkgPath := "", byteOffset := 0 }, { name := "Side", type := 5, offset := 1, embedded := false, tag := "", pkgPath := "", byteOffset := 8 }]) := ⟨Tryd.underlying26⟩
instance ts26 : TS Tryd.prog 26 (.agg #[.int .i64 0, .int .u8 0]) 2 16 := ⟨by kernel_rfl⟩
instance tu27 : TU Tryd.prog 27 (.struct #[{ name := "Chapter", type := 3, offset := 0, embedded := false, tag := "", pkgPath := "", byteOffset := 0 }, { name := "Line", type := 3, offset := 1, embedded := false, tag := "", pkgPath := "", byteOffset := 8 }, { name := "Word", type := 3, offset := 2, embedded := false, tag := "", pkgPath := "", byteOffset := 16 }]) := ⟨Tryd.underlying27⟩
instance ts27 : TS Tryd.prog 27 (.agg #[.int .i64 0, .int .i64 0, .int .i64 0]) 3 24 := ⟨by kernel_rfl⟩
instance tu28 : TU Tryd.prog 28 (.struct #[{ name := "Chapter", type := 3, offset := 0, embedded := false, tag := "", pkgPath := "", byteOffset := 0 }, { name := "Line", type := 3, offset := 1, embedded := false, tag := "", pkgPath := "", byteOffset := 8 }, { name := "Word", type := 3, offset := 2, embedded := false, tag := "", pkgPath := "", byteOffset := 16 }]) := ⟨Tryd.underlying28⟩
instance ts28 : TS Tryd.prog 28 (.agg #[.int .i64 0, .int .i64 0, .int .i64 0]) 3 24 := ⟨by kernel_rfl⟩
instance tu29 : TU Tryd.prog 29 (.func #[24] #[4] false) := ⟨Tryd.underlying29⟩
instance ts29 : TS Tryd.prog 29 (.nilFunc) 1 8 := ⟨by kernel_rfl⟩
instance tu30 : TU Tryd.prog 30 (.func #[24] #[24] false) := ⟨Tryd.underlying30⟩
instance ts30 : TS Tryd.prog 30 (.nilFunc) 1 8 := ⟨by kernel_rfl⟩
instance tu31 : TU Tryd.prog 31 (.struct #[{ name := "At", type := 28, offset := 0, embedded := false, tag := "", pkgPath := "", byteOffset := 0 }, { name := "Word", type := 9, offset := 3, embedded := false, tag := "", pkgPath := "", byteOffset := 24 }, { name := "Before", type := 9, offset := 4, embedded := false, tag := "", pkgPath := "", byteOffset := 40 }, { name := "After", type := 9, offset := 5, embedded := false, tag := "", pkgPath := "", byteOffset := 56 }]) := ⟨Tryd.underlying31⟩
instance ts31 : TS Tryd.prog 31 (.agg #[.int .i64 0, .int .i64 0, .int .i64 0, .string ⟨#[]⟩, .string ⟨#[]⟩, .string ⟨#[]⟩]) 6 72 := ⟨by kernel_rfl⟩
instance tu32 : TU Tryd.prog 32 (.struct #[{ name := "At", type := 28, offset := 0, embedded := false, tag := "", pkgPath := "", byteOffset := 0 }, { name := "Word", type := 9, offset := 3, embedded := false, tag := "", pkgPath := "", byteOffset := 24 }, { name := "Before", type := 9, offset := 4, embedded := false, tag := "", pkgPath := "", byteOffset := 40 }, { name := "After", type := 9, offset := 5, embedded := false, tag := "", pkgPath := "", byteOffset := 56 }]) := ⟨Tryd.underlying32⟩
instance ts32 : TS Tryd.prog 32 (.agg #[.int .i64 0, .int .i64 0, .int .i64 0, .string ⟨#[]⟩, .string ⟨#[]⟩, .string ⟨#[]⟩]) 6 72 := ⟨by kernel_rfl⟩
instance tu33 : TU Tryd.prog 33 (.int .i64) := ⟨Tryd.underlying33⟩
instance ts33 : TS Tryd.prog 33 (.int .i64 0) 1 8 := ⟨by kernel_rfl⟩
instance tu35 : TU Tryd.prog 35 (.func #[24, 26, 28] #[32, 33] false) := ⟨Tryd.underlying35⟩
instance ts35 : TS Tryd.prog 35 (.nilFunc) 1 8 := ⟨by kernel_rfl⟩
instance tu37 : TU Tryd.prog 37 (.func #[24, 26, 28] #[32, 3] false) := ⟨Tryd.underlying37⟩
instance ts37 : TS Tryd.prog 37 (.nilFunc) 1 8 := ⟨by kernel_rfl⟩
instance : TSl Tryd.prog 38 32 := ⟨Tryd.underlying38⟩
instance tu38 : TU Tryd.prog 38 (.slice 32) := ⟨Tryd.underlying38⟩
instance ts38 : TS Tryd.prog 38 (.slice none 0 0) 1 24 := ⟨by kernel_rfl⟩
instance tu40 : TU Tryd.prog 40 (.func #[24, 26] #[38, 33] false) := ⟨Tryd.underlying40⟩
instance ts40 : TS Tryd.prog 40 (.nilFunc) 1 8 := ⟨by kernel_rfl⟩
instance tu42 : TU Tryd.prog 42 (.func #[24, 26] #[38, 3] false) := ⟨Tryd.underlying42⟩
instance ts42 : TS Tryd.prog 42 (.nilFunc) 1 8 := ⟨by kernel_rfl⟩
instance tu43 : TU Tryd.prog 43 (.func #[24, 26, 28, 28] #[38, 33] false) := ⟨Tryd.underlying43⟩
instance ts43 : TS Tryd.prog 43 (.nilFunc) 1 8 := ⟨by kernel_rfl⟩
instance tu44 : TU Tryd.prog 44 (.func #[24, 26, 28, 28] #[38, 3] false) := ⟨Tryd.underlying44⟩
instance ts44 : TS Tryd.prog 44 (.nilFunc) 1 8 := ⟨by kernel_rfl⟩
instance tu45 : TU Tryd.prog 45 (.func #[26] #[33] false) := ⟨Tryd.underlying45⟩
instance ts45 : TS Tryd.prog 45 (.nilFunc) 1 8 := ⟨by kernel_rfl⟩
instance tu46 : TU Tryd.prog 46 (.func #[26] #[3] false) := ⟨Tryd.underlying46⟩
instance ts46 : TS Tryd.prog 46 (.nilFunc) 1 8 := ⟨by kernel_rfl⟩
instance tu47 : TU Tryd.prog 47 (.func #[38, 38] #[4] false) := ⟨Tryd.underlying47⟩
instance ts47 : TS Tryd.prog 47 (.nilFunc) 1 8 := ⟨by kernel_rfl⟩
instance tu48 : TU Tryd.prog 48 (.func #[24, 24] #[4] false) := ⟨Tryd.underlying48⟩
instance ts48 : TS Tryd.prog 48 (.nilFunc) 1 8 := ⟨by kernel_rfl⟩
instance tu49 : TU Tryd.prog 49 (.func #[24, 26, 28, 28] #[4] false) := ⟨Tryd.underlying49⟩
instance ts49 : TS Tryd.prog 49 (.nilFunc) 1 8 := ⟨by kernel_rfl⟩
instance : TSl Tryd.prog 50 88 := ⟨Tryd.underlying50⟩
instance tu50 : TU Tryd.prog 50 (.slice 88) := ⟨Tryd.underlying50⟩
instance ts50 : TS Tryd.prog 50 (.slice none 0 0) 1 24 := ⟨by kernel_rfl⟩
instance tu51 : TU Tryd.prog 51 (.struct #[{ name := "Id", type := 3, offset := 0, embedded := false, tag := "", pkgPath := "", byteOffset := 0 }, { name := "Readings", type := 50, offset := 1, embedded := false, tag := "", pkgPath := "", byteOffset := 8 }]) := ⟨Tryd.underlying51⟩
instance ts51 : TS Tryd.prog 51 (.agg #[.int .i64 0, .slice none 0 0]) 2 32 := ⟨by kernel_rfl⟩
instance tu52 : TU Tryd.prog 52 (.struct #[{ name := "Id", type := 3, offset := 0, embedded := false, tag := "", pkgPath := "", byteOffset := 0 }, { name := "Readings", type := 50, offset := 1, embedded := false, tag := "", pkgPath := "", byteOffset := 8 }]) := ⟨Tryd.underlying52⟩
instance ts52 : TS Tryd.prog 52 (.agg #[.int .i64 0, .slice none 0 0]) 2 32 := ⟨by kernel_rfl⟩
instance tu53 : TU Tryd.prog 53 (.func #[52] #[4] false) := ⟨Tryd.underlying53⟩
instance ts53 : TS Tryd.prog 53 (.nilFunc) 1 8 := ⟨by kernel_rfl⟩
instance tu54 : TU Tryd.prog 54 (.func #[32] #[4] false) := ⟨Tryd.underlying54⟩
instance ts54 : TS Tryd.prog 54 (.nilFunc) 1 8 := ⟨by kernel_rfl⟩
instance tu55 : TU Tryd.prog 55 (.func #[52] #[52] false) := ⟨Tryd.underlying55⟩
instance ts55 : TS Tryd.prog 55 (.nilFunc) 1 8 := ⟨by kernel_rfl⟩
instance tu57 : TU Tryd.prog 57 (.func #[32, 32] #[3, 33] false) := ⟨Tryd.underlying57⟩
instance ts57 : TS Tryd.prog 57 (.nilFunc) 1 8 := ⟨by kernel_rfl⟩
instance tu59 : TU Tryd.prog 59 (.func #[32, 32] #[3, 3] false) := ⟨Tryd.underlying59⟩
instance ts59 : TS Tryd.prog 59 (.nilFunc) 1 8 := ⟨by kernel_rfl⟩
instance tu61 : TU Tryd.prog 61 (.func #[24, 52, 28] #[28, 33] false) := ⟨Tryd.underlying61⟩
instance ts61 : TS Tryd.prog 61 (.nilFunc) 1 8 := ⟨by kernel_rfl⟩
instance tu63 : TU Tryd.prog 63 (.func #[24, 52, 28] #[28, 3] false) := ⟨Tryd.underlying63⟩
instance ts63 : TS Tryd.prog 63 (.nilFunc) 1 8 := ⟨by kernel_rfl⟩
instance tu64 : TU Tryd.prog 64 (.func #[52, 52] #[4] false) := ⟨Tryd.underlying64⟩
instance ts64 : TS Tryd.prog 64 (.nilFunc) 1 8 := ⟨by kernel_rfl⟩
instance tu65 : TU Tryd.prog 65 (.func #[24, 52, 28, 32, 32] #[4] false) := ⟨Tryd.underlying65⟩
instance ts65 : TS Tryd.prog 65 (.nilFunc) 1 8 := ⟨by kernel_rfl⟩
instance : TSl Tryd.prog 66 69 := ⟨Tryd.underlying66⟩
instance tu66 : TU Tryd.prog 66 (.slice 69) := ⟨Tryd.underlying66⟩
instance ts66 : TS Tryd.prog 66 (.slice none 0 0) 1 24 := ⟨by kernel_rfl⟩
instance tu67 : TU Tryd.prog 67 (.struct #[{ name := "Id", type := 3, offset := 0, embedded := false, tag := "", pkgPath := "", byteOffset := 0 }, { name := "Lines", type := 66, offset := 1, embedded := false, tag := "", pkgPath := "", byteOffset := 8 }]) := ⟨Tryd.underlying67⟩
instance ts67 : TS Tryd.prog 67 (.agg #[.int .i64 0, .slice none 0 0]) 2 32 := ⟨by kernel_rfl⟩
instance tu68 : TU Tryd.prog 68 (.struct #[{ name := "Id", type := 3, offset := 0, embedded := false, tag := "", pkgPath := "", byteOffset := 0 }, { name := "Lines", type := 66, offset := 1, embedded := false, tag := "", pkgPath := "", byteOffset := 8 }]) := ⟨Tryd.underlying68⟩
instance ts68 : TS Tryd.prog 68 (.agg #[.int .i64 0, .slice none 0 0]) 2 32 := ⟨by kernel_rfl⟩
instance : TSl Tryd.prog 69 9 := ⟨Tryd.underlying69⟩
instance tu69 : TU Tryd.prog 69 (.slice 9) := ⟨Tryd.underlying69⟩
instance ts69 : TS Tryd.prog 69 (.slice none 0 0) 1 24 := ⟨by kernel_rfl⟩
instance tu70 : TU Tryd.prog 70 (.func #[24, 26] #[33] false) := ⟨Tryd.underlying70⟩
instance ts70 : TS Tryd.prog 70 (.nilFunc) 1 8 := ⟨by kernel_rfl⟩
instance tu72 : TU Tryd.prog 72 (.func #[24, 26, 28] #[32, 4] false) := ⟨Tryd.underlying72⟩
instance ts72 : TS Tryd.prog 72 (.nilFunc) 1 8 := ⟨by kernel_rfl⟩
instance tu73 : TU Tryd.prog 73 (.func #[24, 26] #[3] false) := ⟨Tryd.underlying73⟩
instance ts73 : TS Tryd.prog 73 (.nilFunc) 1 8 := ⟨by kernel_rfl⟩
instance tu74 : TU Tryd.prog 74 (.func #[24, 28] #[4] false) := ⟨Tryd.underlying74⟩
instance ts74 : TS Tryd.prog 74 (.nilFunc) 1 8 := ⟨by kernel_rfl⟩
instance tu75 : TU Tryd.prog 75 (.func #[24, 26, 28] #[32] false) := ⟨Tryd.underlying75⟩
instance ts75 : TS Tryd.prog 75 (.nilFunc) 1 8 := ⟨by kernel_rfl⟩
instance tu76 : TU Tryd.prog 76 (.func #[78] #[38] false) := ⟨Tryd.underlying76⟩
instance ts76 : TS Tryd.prog 76 (.nilFunc) 1 8 := ⟨by kernel_rfl⟩
instance tu77 : TU Tryd.prog 77 (.func #[54] #[] false) := ⟨Tryd.underlying77⟩
instance ts77 : TS Tryd.prog 77 (.nilFunc) 1 8 := ⟨by kernel_rfl⟩
instance tu78 : TU Tryd.prog 78 (.func #[54] #[] false) := ⟨Tryd.underlying78⟩
instance ts78 : TS Tryd.prog 78 (.nilFunc) 1 8 := ⟨by kernel_rfl⟩
instance tu79 : TU Tryd.prog 79 (.func #[24, 26] #[78] false) := ⟨Tryd.underlying79⟩
instance ts79 : TS Tryd.prog 79 (.nilFunc) 1 8 := ⟨by kernel_rfl⟩
instance : TSl Tryd.prog 80 28 := ⟨Tryd.underlying80⟩
instance tu80 : TU Tryd.prog 80 (.slice 28) := ⟨Tryd.underlying80⟩
instance ts80 : TS Tryd.prog 80 (.slice none 0 0) 1 24 := ⟨by kernel_rfl⟩
instance tu81 : TU Tryd.prog 81 (.func #[24] #[80] false) := ⟨Tryd.underlying81⟩
instance ts81 : TS Tryd.prog 81 (.nilFunc) 1 8 := ⟨by kernel_rfl⟩
instance tu82 : TU Tryd.prog 82 (.func #[28, 28] #[3] false) := ⟨Tryd.underlying82⟩
instance ts82 : TS Tryd.prog 82 (.nilFunc) 1 8 := ⟨by kernel_rfl⟩
instance tu83 : TU Tryd.prog 83 (.func #[28, 28] #[4] false) := ⟨Tryd.underlying83⟩
instance ts83 : TS Tryd.prog 83 (.nilFunc) 1 8 := ⟨by kernel_rfl⟩
instance tu84 : TU Tryd.prog 84 (.func #[3, 3, 110] #[4] true) := ⟨Tryd.underlying84⟩
instance ts84 : TS Tryd.prog 84 (.nilFunc) 1 8 := ⟨by kernel_rfl⟩
instance tu85 : TU Tryd.prog 85 (.func #[26] #[4] false) := ⟨Tryd.underlying85⟩
instance ts85 : TS Tryd.prog 85 (.nilFunc) 1 8 := ⟨by kernel_rfl⟩
instance tu86 : TU Tryd.prog 86 (.func #[69, 69] #[4] false) := ⟨Tryd.underlying86⟩
instance ts86 : TS Tryd.prog 86 (.nilFunc) 1 8 := ⟨by kernel_rfl⟩
instance tu87 : TU Tryd.prog 87 (.struct #[{ name := "At", type := 28, offset := 0, embedded := false, tag := "", pkgPath := "", byteOffset := 0 }, { name := "Kind", type := 5, offset := 3, embedded := false, tag := "", pkgPath := "", byteOffset := 24 }, { name := "Word", type := 9, offset := 4, embedded := false, tag := "", pkgPath := "", byteOffset := 32 }]) := ⟨Tryd.underlying87⟩
instance ts87 : TS Tryd.prog 87 (.agg #[.int .i64 0, .int .i64 0, .int .i64 0, .int .u8 0, .string ⟨#[]⟩]) 5 48 := ⟨by kernel_rfl⟩
instance tu88 : TU Tryd.prog 88 (.struct #[{ name := "At", type := 28, offset := 0, embedded := false, tag := "", pkgPath := "", byteOffset := 0 }, { name := "Kind", type := 5, offset := 3, embedded := false, tag := "", pkgPath := "", byteOffset := 24 }, { name := "Word", type := 9, offset := 4, embedded := false, tag := "", pkgPath := "", byteOffset := 32 }]) := ⟨Tryd.underlying88⟩
instance ts88 : TS Tryd.prog 88 (.agg #[.int .i64 0, .int .i64 0, .int .i64 0, .int .u8 0, .string ⟨#[]⟩]) 5 48 := ⟨by kernel_rfl⟩
instance tu89 : TU Tryd.prog 89 (.func #[110] #[3] true) := ⟨Tryd.underlying89⟩
instance ts89 : TS Tryd.prog 89 (.nilFunc) 1 8 := ⟨by kernel_rfl⟩
instance tu90 : TU Tryd.prog 90 (.func #[9, 9] #[3] false) := ⟨Tryd.underlying90⟩
instance ts90 : TS Tryd.prog 90 (.nilFunc) 1 8 := ⟨by kernel_rfl⟩
instance tu92 : TU Tryd.prog 92 (.func #[24, 52, 28] #[9, 33] false) := ⟨Tryd.underlying92⟩
instance ts92 : TS Tryd.prog 92 (.nilFunc) 1 8 := ⟨by kernel_rfl⟩
instance tu93 : TU Tryd.prog 93 (.func #[24, 52] #[3] false) := ⟨Tryd.underlying93⟩
instance ts93 : TS Tryd.prog 93 (.nilFunc) 1 8 := ⟨by kernel_rfl⟩
instance tu94 : TU Tryd.prog 94 (.func #[24] #[33] false) := ⟨Tryd.underlying94⟩
instance ts94 : TS Tryd.prog 94 (.nilFunc) 1 8 := ⟨by kernel_rfl⟩
instance tu95 : TU Tryd.prog 95 (.struct #[{ name := "Cut", type := 26, offset := 0, embedded := true, tag := "", pkgPath := "", byteOffset := 0 }, { name := "words", type := 69, offset := 2, embedded := false, tag := "", pkgPath := "postil/slip", byteOffset := 16 }, { name := "at", type := 80, offset := 3, embedded := false, tag := "", pkgPath := "postil/slip", byteOffset := 40 }]) := ⟨Tryd.underlying95⟩
instance ts95 : TS Tryd.prog 95 (.agg #[.int .i64 0, .int .u8 0, .slice none 0 0, .slice none 0 0]) 4 64 := ⟨by kernel_rfl⟩
instance tu96 : TU Tryd.prog 96 (.struct #[{ name := "Cut", type := 26, offset := 0, embedded := true, tag := "", pkgPath := "", byteOffset := 0 }, { name := "words", type := 69, offset := 2, embedded := false, tag := "", pkgPath := "postil/slip", byteOffset := 16 }, { name := "at", type := 80, offset := 3, embedded := false, tag := "", pkgPath := "postil/slip", byteOffset := 40 }]) := ⟨Tryd.underlying96⟩
instance ts96 : TS Tryd.prog 96 (.agg #[.int .i64 0, .int .u8 0, .slice none 0 0, .slice none 0 0]) 4 64 := ⟨by kernel_rfl⟩
instance tu97 : TU Tryd.prog 97 (.func #[24, 26, 3] #[96] false) := ⟨Tryd.underlying97⟩
instance ts97 : TS Tryd.prog 97 (.nilFunc) 1 8 := ⟨by kernel_rfl⟩
instance tu98 : TU Tryd.prog 98 (.func #[80, 28] #[3] false) := ⟨Tryd.underlying98⟩
instance ts98 : TS Tryd.prog 98 (.nilFunc) 1 8 := ⟨by kernel_rfl⟩
instance tu99 : TU Tryd.prog 99 (.func #[3] #[32] false) := ⟨Tryd.underlying99⟩
instance ts99 : TS Tryd.prog 99 (.nilFunc) 1 8 := ⟨by kernel_rfl⟩
instance tu100 : TU Tryd.prog 100 (.func #[24] #[3] false) := ⟨Tryd.underlying100⟩
instance ts100 : TS Tryd.prog 100 (.nilFunc) 1 8 := ⟨by kernel_rfl⟩
instance tu102 : TU Tryd.prog 102 (.func #[24, 28] #[69, 4] false) := ⟨Tryd.underlying102⟩
instance ts102 : TS Tryd.prog 102 (.nilFunc) 1 8 := ⟨by kernel_rfl⟩
instance tu103 : TU Tryd.prog 103 (.func #[3, 3, 3] #[4] false) := ⟨Tryd.underlying103⟩
instance ts103 : TS Tryd.prog 103 (.nilFunc) 1 8 := ⟨by kernel_rfl⟩
instance tu105 : TU Tryd.prog 105 (.func #[24, 3] #[69, 80] false) := ⟨Tryd.underlying105⟩
instance ts105 : TS Tryd.prog 105 (.nilFunc) 1 8 := ⟨by kernel_rfl⟩
instance tu106 : TU Tryd.prog 106 (.func #[69] #[3] false) := ⟨Tryd.underlying106⟩
instance ts106 : TS Tryd.prog 106 (.nilFunc) 1 8 := ⟨by kernel_rfl⟩
instance tu107 : TU Tryd.prog 107 (.func #[69] #[9] false) := ⟨Tryd.underlying107⟩
instance ts107 : TS Tryd.prog 107 (.nilFunc) 1 8 := ⟨by kernel_rfl⟩
instance tu108 : TU Tryd.prog 108 (.func #[38, 78] #[38] false) := ⟨Tryd.underlying108⟩
instance ts108 : TS Tryd.prog 108 (.nilFunc) 1 8 := ⟨by kernel_rfl⟩
instance tu109 : TU Tryd.prog 109 (.func #[3, 3] #[3] false) := ⟨Tryd.underlying109⟩
instance ts109 : TS Tryd.prog 109 (.nilFunc) 1 8 := ⟨by kernel_rfl⟩
instance : TSl Tryd.prog 110 3 := ⟨Tryd.underlying110⟩
instance tu110 : TU Tryd.prog 110 (.slice 3) := ⟨Tryd.underlying110⟩
instance ts110 : TS Tryd.prog 110 (.slice none 0 0) 1 24 := ⟨by kernel_rfl⟩
instance tu111 : TU Tryd.prog 111 (.func #[110, 112] #[4] false) := ⟨Tryd.underlying111⟩
instance ts111 : TS Tryd.prog 111 (.nilFunc) 1 8 := ⟨by kernel_rfl⟩
instance tu112 : TU Tryd.prog 112 (.func #[3] #[4] false) := ⟨Tryd.underlying112⟩
instance ts112 : TS Tryd.prog 112 (.nilFunc) 1 8 := ⟨by kernel_rfl⟩
instance tu113 : TU Tryd.prog 113 (.func #[9] #[69, 4] false) := ⟨Tryd.underlying113⟩
instance ts113 : TS Tryd.prog 113 (.nilFunc) 1 8 := ⟨by kernel_rfl⟩
instance tu114 : TU Tryd.prog 114 (.func #[9] #[4] false) := ⟨Tryd.underlying114⟩
instance ts114 : TS Tryd.prog 114 (.nilFunc) 1 8 := ⟨by kernel_rfl⟩
instance tu115 : TU Tryd.prog 115 (.pointer 156) := ⟨Tryd.underlying115⟩
instance ts115 : TS Tryd.prog 115 (.pointer none) 1 8 := ⟨by kernel_rfl⟩
instance tu117 : TU Tryd.prog 117 (.func #[24, 52] #[115, 33] false) := ⟨Tryd.underlying117⟩
instance ts117 : TS Tryd.prog 117 (.nilFunc) 1 8 := ⟨by kernel_rfl⟩
instance tu118 : TU Tryd.prog 118 (.func #[28] #[4] false) := ⟨Tryd.underlying118⟩
instance ts118 : TS Tryd.prog 118 (.nilFunc) 1 8 := ⟨by kernel_rfl⟩
instance tu119 : TU Tryd.prog 119 (.func #[52, 28] #[9] false) := ⟨Tryd.underlying119⟩
instance ts119 : TS Tryd.prog 119 (.nilFunc) 1 8 := ⟨by kernel_rfl⟩
instance tu120 : TU Tryd.prog 120 (.func #[24, 52] #[4] false) := ⟨Tryd.underlying120⟩
instance ts120 : TS Tryd.prog 120 (.nilFunc) 1 8 := ⟨by kernel_rfl⟩
instance : TMap Tryd.prog 121 3 4 := ⟨Tryd.underlying121⟩
instance tu121 : TU Tryd.prog 121 (.map 3 4) := ⟨Tryd.underlying121⟩
instance ts121 : TS Tryd.prog 121 (.map none) 1 8 := ⟨by kernel_rfl⟩
instance tu122 : TU Tryd.prog 122 (.func #[69, 114] #[4] false) := ⟨Tryd.underlying122⟩
instance ts122 : TS Tryd.prog 122 (.nilFunc) 1 8 := ⟨by kernel_rfl⟩
instance tu123 : TU Tryd.prog 123 (.struct #[{ name := "from", type := 3, offset := 0, embedded := false, tag := "", pkgPath := "postil/slip", byteOffset := 0 }, { name := "word", type := 3, offset := 1, embedded := false, tag := "", pkgPath := "postil/slip", byteOffset := 8 }, { name := "to", type := 3, offset := 2, embedded := false, tag := "", pkgPath := "postil/slip", byteOffset := 16 }, { name := "length", type := 3, offset := 3, embedded := false, tag := "", pkgPath := "postil/slip", byteOffset := 24 }]) := ⟨Tryd.underlying123⟩
instance ts123 : TS Tryd.prog 123 (.agg #[.int .i64 0, .int .i64 0, .int .i64 0, .int .i64 0]) 4 32 := ⟨by kernel_rfl⟩
instance tu124 : TU Tryd.prog 124 (.struct #[{ name := "from", type := 3, offset := 0, embedded := false, tag := "", pkgPath := "postil/slip", byteOffset := 0 }, { name := "word", type := 3, offset := 1, embedded := false, tag := "", pkgPath := "postil/slip", byteOffset := 8 }, { name := "to", type := 3, offset := 2, embedded := false, tag := "", pkgPath := "postil/slip", byteOffset := 16 }, { name := "length", type := 3, offset := 3, embedded := false, tag := "", pkgPath := "postil/slip", byteOffset := 24 }]) := ⟨Tryd.underlying124⟩
instance ts124 : TS Tryd.prog 124 (.agg #[.int .i64 0, .int .i64 0, .int .i64 0, .int .i64 0]) 4 32 := ⟨by kernel_rfl⟩
instance tu125 : TU Tryd.prog 125 (.func #[127, 129] #[124] false) := ⟨Tryd.underlying125⟩
instance ts125 : TS Tryd.prog 125 (.nilFunc) 1 8 := ⟨by kernel_rfl⟩
instance tu126 : TU Tryd.prog 126 (.func #[143] #[] false) := ⟨Tryd.underlying126⟩
instance ts126 : TS Tryd.prog 126 (.nilFunc) 1 8 := ⟨by kernel_rfl⟩
instance tu127 : TU Tryd.prog 127 (.func #[143] #[] false) := ⟨Tryd.underlying127⟩
instance ts127 : TS Tryd.prog 127 (.nilFunc) 1 8 := ⟨by kernel_rfl⟩
instance tu128 : TU Tryd.prog 128 (.func #[3] #[127] false) := ⟨Tryd.underlying128⟩
instance ts128 : TS Tryd.prog 128 (.nilFunc) 1 8 := ⟨by kernel_rfl⟩
instance tu129 : TU Tryd.prog 129 (.func #[124, 124] #[3] false) := ⟨Tryd.underlying129⟩
instance ts129 : TS Tryd.prog 129 (.nilFunc) 1 8 := ⟨by kernel_rfl⟩
instance tu130 : TU Tryd.prog 130 (.struct #[{ name := "order", type := 129, offset := 0, embedded := false, tag := "", pkgPath := "postil/slip", byteOffset := 0 }]) := ⟨Tryd.underlying130⟩
instance ts130 : TS Tryd.prog 130 (.agg #[.nilFunc]) 1 8 := ⟨by kernel_rfl⟩
instance : TArr Tryd.prog 131 4 130 := ⟨Tryd.underlying131⟩
instance tu131 : TU Tryd.prog 131 (.array 4 130) := ⟨Tryd.underlying131⟩
instance ts131 : TS Tryd.prog 131 (.agg #[.nilFunc, .nilFunc, .nilFunc, .nilFunc]) 4 32 := ⟨by kernel_rfl⟩
instance tu132 : TU Tryd.prog 132 (.func #[69, 9] #[9] false) := ⟨Tryd.underlying132⟩
instance ts132 : TS Tryd.prog 132 (.nilFunc) 1 8 := ⟨by kernel_rfl⟩
instance tu133 : TU Tryd.prog 133 (.func #[110, 112] #[3] false) := ⟨Tryd.underlying133⟩
instance ts133 : TS Tryd.prog 133 (.nilFunc) 1 8 := ⟨by kernel_rfl⟩
instance tu134 : TU Tryd.prog 134 (.func #[9, 9] #[69] false) := ⟨Tryd.underlying134⟩
instance ts134 : TS Tryd.prog 134 (.nilFunc) 1 8 := ⟨by kernel_rfl⟩
instance tu135 : TU Tryd.prog 135 (.func #[136, 137] #[4] false) := ⟨Tryd.underlying135⟩
instance ts135 : TS Tryd.prog 135 (.nilFunc) 1 8 := ⟨by kernel_rfl⟩
instance : TSl Tryd.prog 136 5 := ⟨Tryd.underlying136⟩
instance tu136 : TU Tryd.prog 136 (.slice 5) := ⟨Tryd.underlying136⟩
instance ts136 : TS Tryd.prog 136 (.slice none 0 0) 1 24 := ⟨by kernel_rfl⟩
instance tu137 : TU Tryd.prog 137 (.func #[5] #[4] false) := ⟨Tryd.underlying137⟩
instance ts137 : TS Tryd.prog 137 (.nilFunc) 1 8 := ⟨by kernel_rfl⟩
instance tu138 : TU Tryd.prog 138 (.func #[24] #[115, 33] false) := ⟨Tryd.underlying138⟩
instance ts138 : TS Tryd.prog 138 (.nilFunc) 1 8 := ⟨by kernel_rfl⟩
instance tu139 : TU Tryd.prog 139 (.func #[28] #[69] false) := ⟨Tryd.underlying139⟩
instance ts139 : TS Tryd.prog 139 (.nilFunc) 1 8 := ⟨by kernel_rfl⟩
instance tu140 : TU Tryd.prog 140 (.func #[24, 88] #[4] false) := ⟨Tryd.underlying140⟩
instance ts140 : TS Tryd.prog 140 (.nilFunc) 1 8 := ⟨by kernel_rfl⟩
instance tu141 : TU Tryd.prog 141 (.func #[24, 52, 3, 3] #[69] false) := ⟨Tryd.underlying141⟩
instance ts141 : TS Tryd.prog 141 (.nilFunc) 1 8 := ⟨by kernel_rfl⟩
instance tu142 : TU Tryd.prog 142 (.func #[69, 114] #[3] false) := ⟨Tryd.underlying142⟩
instance ts142 : TS Tryd.prog 142 (.nilFunc) 1 8 := ⟨by kernel_rfl⟩
instance tu143 : TU Tryd.prog 143 (.func #[124] #[4] false) := ⟨Tryd.underlying143⟩
instance ts143 : TS Tryd.prog 143 (.nilFunc) 1 8 := ⟨by kernel_rfl⟩
instance tu144 : TU Tryd.prog 144 (.pointer 146) := ⟨Tryd.underlying144⟩
instance ts144 : TS Tryd.prog 144 (.pointer none) 1 8 := ⟨by kernel_rfl⟩
instance tu145 : TU Tryd.prog 145 (.struct #[{ name := "addr", type := 144, offset := 0, embedded := false, tag := "", pkgPath := "strings", byteOffset := 0 }, { name := "buf", type := 136, offset := 1, embedded := false, tag := "", pkgPath := "strings", byteOffset := 8 }]) := ⟨Tryd.underlying145⟩
instance ts145 : TS Tryd.prog 145 (.agg #[.pointer none, .slice none 0 0]) 2 32 := ⟨by kernel_rfl⟩
instance tu146 : TU Tryd.prog 146 (.struct #[{ name := "addr", type := 144, offset := 0, embedded := false, tag := "", pkgPath := "strings", byteOffset := 0 }, { name := "buf", type := 136, offset := 1, embedded := false, tag := "", pkgPath := "strings", byteOffset := 8 }]) := ⟨Tryd.underlying146⟩
instance ts146 : TS Tryd.prog 146 (.agg #[.pointer none, .slice none 0 0]) 2 32 := ⟨by kernel_rfl⟩
instance tu147 : TU Tryd.prog 147 (.func #[3] #[] false) := ⟨Tryd.underlying147⟩
instance ts147 : TS Tryd.prog 147 (.nilFunc) 1 8 := ⟨by kernel_rfl⟩
instance tu151 : TU Tryd.prog 151 (.func #[9] #[3, 149] false) := ⟨Tryd.underlying151⟩
instance ts151 : TS Tryd.prog 151 (.nilFunc) 1 8 := ⟨by kernel_rfl⟩
instance tu152 : TU Tryd.prog 152 (.func #[] #[9] false) := ⟨Tryd.underlying152⟩
instance ts152 : TS Tryd.prog 152 (.nilFunc) 1 8 := ⟨by kernel_rfl⟩
instance tu153 : TU Tryd.prog 153 (.func #[9, 9, 3, 3] #[69] false) := ⟨Tryd.underlying153⟩
instance ts153 : TS Tryd.prog 153 (.nilFunc) 1 8 := ⟨by kernel_rfl⟩
instance tu154 : TU Tryd.prog 154 (.func #[136, 137] #[3] false) := ⟨Tryd.underlying154⟩
instance ts154 : TS Tryd.prog 154 (.nilFunc) 1 8 := ⟨by kernel_rfl⟩
instance tu155 : TU Tryd.prog 155 (.struct #[{ name := "Text", type := 24, offset := 0, embedded := true, tag := "", pkgPath := "", byteOffset := 0 }]) := ⟨Tryd.underlying155⟩
instance ts155 : TS Tryd.prog 155 (.agg #[.slice none 0 0]) 1 24 := ⟨by kernel_rfl⟩
instance tu156 : TU Tryd.prog 156 (.struct #[{ name := "Text", type := 24, offset := 0, embedded := true, tag := "", pkgPath := "", byteOffset := 0 }]) := ⟨Tryd.underlying156⟩
instance ts156 : TS Tryd.prog 156 (.agg #[.slice none 0 0]) 1 24 := ⟨by kernel_rfl⟩
instance tu157 : TU Tryd.prog 157 (.func #[9, 9] #[4] false) := ⟨Tryd.underlying157⟩
instance ts157 : TS Tryd.prog 157 (.nilFunc) 1 8 := ⟨by kernel_rfl⟩
instance tu158 : TU Tryd.prog 158 (.struct #[{ name := "behind", type := 3, offset := 0, embedded := false, tag := "", pkgPath := "postil/leaf", byteOffset := 0 }, { name := "right", type := 157, offset := 1, embedded := false, tag := "", pkgPath := "postil/leaf", byteOffset := 8 }, { name := "makes", type := 134, offset := 2, embedded := false, tag := "", pkgPath := "postil/leaf", byteOffset := 16 }]) := ⟨Tryd.underlying158⟩
instance ts158 : TS Tryd.prog 158 (.agg #[.int .i64 0, .nilFunc, .nilFunc]) 3 24 := ⟨by kernel_rfl⟩
instance tu159 : TU Tryd.prog 159 (.struct #[{ name := "behind", type := 3, offset := 0, embedded := false, tag := "", pkgPath := "postil/leaf", byteOffset := 0 }, { name := "right", type := 157, offset := 1, embedded := false, tag := "", pkgPath := "postil/leaf", byteOffset := 8 }, { name := "makes", type := 134, offset := 2, embedded := false, tag := "", pkgPath := "postil/leaf", byteOffset := 16 }]) := ⟨Tryd.underlying159⟩
instance ts159 : TS Tryd.prog 159 (.agg #[.int .i64 0, .nilFunc, .nilFunc]) 3 24 := ⟨by kernel_rfl⟩
instance : TArr Tryd.prog 160 4 159 := ⟨Tryd.underlying160⟩
instance tu160 : TU Tryd.prog 160 (.array 4 159) := ⟨Tryd.underlying160⟩
instance ts160 : TS Tryd.prog 160 (.agg #[.int .i64 0, .nilFunc, .nilFunc, .int .i64 0, .nilFunc, .nilFunc, .int .i64 0, .nilFunc, .nilFunc, .int .i64 0, .nilFunc, .nilFunc]) 12 96 := ⟨by kernel_rfl⟩
instance tu161 : TU Tryd.prog 161 (.func #[69, 3] #[9] false) := ⟨Tryd.underlying161⟩
instance ts161 : TS Tryd.prog 161 (.nilFunc) 1 8 := ⟨by kernel_rfl⟩
instance tu162 : TU Tryd.prog 162 (.func #[52] #[24] false) := ⟨Tryd.underlying162⟩
instance ts162 : TS Tryd.prog 162 (.nilFunc) 1 8 := ⟨by kernel_rfl⟩
instance tu163 : TU Tryd.prog 163 (.func #[66, 164] #[4] false) := ⟨Tryd.underlying163⟩
instance ts163 : TS Tryd.prog 163 (.nilFunc) 1 8 := ⟨by kernel_rfl⟩
instance tu164 : TU Tryd.prog 164 (.func #[69] #[4] false) := ⟨Tryd.underlying164⟩
instance ts164 : TS Tryd.prog 164 (.nilFunc) 1 8 := ⟨by kernel_rfl⟩
instance tu165 : TU Tryd.prog 165 (.pointer 5) := ⟨Tryd.underlying165⟩
instance ts165 : TS Tryd.prog 165 (.pointer none) 1 8 := ⟨by kernel_rfl⟩
instance tu166 : TU Tryd.prog 166 (.func #[9, 3] #[69] false) := ⟨Tryd.underlying166⟩
instance ts166 : TS Tryd.prog 166 (.nilFunc) 1 8 := ⟨by kernel_rfl⟩
instance : TMap Tryd.prog 167 28 50 := ⟨Tryd.underlying167⟩
instance tu167 : TU Tryd.prog 167 (.map 28 50) := ⟨Tryd.underlying167⟩
instance ts167 : TS Tryd.prog 167 (.map none) 1 8 := ⟨by kernel_rfl⟩
instance tu168 : TU Tryd.prog 168 (.func #[69, 114] #[69] false) := ⟨Tryd.underlying168⟩
instance ts168 : TS Tryd.prog 168 (.nilFunc) 1 8 := ⟨by kernel_rfl⟩
instance tu169 : TU Tryd.prog 169 (.func #[66, 164] #[3] false) := ⟨Tryd.underlying169⟩
instance ts169 : TS Tryd.prog 169 (.nilFunc) 1 8 := ⟨by kernel_rfl⟩
instance tu170 : TU Tryd.prog 170 (.unsafePointer) := ⟨Tryd.underlying170⟩
instance ts170 : TS Tryd.prog 170 (.pointer none) 1 8 := ⟨by kernel_rfl⟩
instance tu171 : TU Tryd.prog 171 (.func #[170] #[170] false) := ⟨Tryd.underlying171⟩
instance ts171 : TS Tryd.prog 171 (.nilFunc) 1 8 := ⟨by kernel_rfl⟩
instance tu172 : TU Tryd.prog 172 (.func #[3] #[136] false) := ⟨Tryd.underlying172⟩
instance ts172 : TS Tryd.prog 172 (.nilFunc) 1 8 := ⟨by kernel_rfl⟩
instance tu173 : TU Tryd.prog 173 (.func #[9] #[3] false) := ⟨Tryd.underlying173⟩
instance ts173 : TS Tryd.prog 173 (.nilFunc) 1 8 := ⟨by kernel_rfl⟩
instance tu175 : TU Tryd.prog 175 (.func #[9] #[21, 3] false) := ⟨Tryd.underlying175⟩
instance ts175 : TS Tryd.prog 175 (.nilFunc) 1 8 := ⟨by kernel_rfl⟩
instance tu176 : TU Tryd.prog 176 (.func #[9, 5] #[3] false) := ⟨Tryd.underlying176⟩
instance ts176 : TS Tryd.prog 176 (.nilFunc) 1 8 := ⟨by kernel_rfl⟩
instance tu177 : TU Tryd.prog 177 (.func #[3] #[3] false) := ⟨Tryd.underlying177⟩
instance ts177 : TS Tryd.prog 177 (.nilFunc) 1 8 := ⟨by kernel_rfl⟩
instance tu178 : TU Tryd.prog 178 (.int .u64) := ⟨Tryd.underlying178⟩
instance ts178 : TS Tryd.prog 178 (.int .u64 0) 1 8 := ⟨by kernel_rfl⟩
instance : TArr Tryd.prog 179 256 5 := ⟨Tryd.underlying179⟩
instance tu179 : TU Tryd.prog 179 (.array 256 5) := ⟨Tryd.underlying179⟩
instance ts179 : TS Tryd.prog 179 (.agg #[.int .u8 0, .int .u8 0, .int .u8 0, .int .u8 0, .int .u8 0, .int .u8 0, .int .u8 0, .int .u8 0, .int .u8 0, .int .u8 0, .int .u8 0, .int .u8 0, .int .u8 0, .int .u8 0, .int .u8 0, .int .u8 0, .int .u8 0, .int .u8 0, .int .u8 0, .int .u8 0, .int .u8 0, .int .u8 0, .int .u8 0, .int .u8 0, .int .u8 0, .int .u8 0, .int .u8 0, .int .u8 0, .int .u8 0, .int .u8 0, .int .u8 0, .int .u8 0, .int .u8 0, .int .u8 0, .int .u8 0, .int .u8 0, .int .u8 0, .int .u8 0, .int .u8 0, .int .u8 0, .int .u8 0, .int .u8 0, .int .u8 0, .int .u8 0, .int .u8 0, .int .u8 0, .int .u8 0, .int .u8 0, .int .u8 0, .int .u8 0, .int .u8 0, .int .u8 0, .int .u8 0, .int .u8 0, .int .u8 0, .int .u8 0, .int .u8 0, .int .u8 0, .int .u8 0, .int .u8 0, .int .u8 0, .int .u8 0, .int .u8 0, .int .u8 0, .int .u8 0, .int .u8 0, .int .u8 0, .int .u8 0, .int .u8 0, .int .u8 0, .int .u8 0, .int .u8 0, .int .u8 0, .int .u8 0, .int .u8 0, .int .u8 0, .int .u8 0, .int .u8 0, .int .u8 0, .int .u8 0, .int .u8 0, .int .u8 0, .int .u8 0, .int .u8 0, .int .u8 0, .int .u8 0, .int .u8 0, .int .u8 0, .int .u8 0, .int .u8 0, .int .u8 0, .int .u8 0, .int .u8 0, .int .u8 0, .int .u8 0, .int .u8 0, .int .u8 0, .int .u8 0, .int .u8 0, .int .u8 0, .int .u8 0, .int .u8 0, .int .u8 0, .int .u8 0, .int .u8 0, .int .u8 0, .int .u8 0, .int .u8 0, .int .u8 0, .int .u8 0, .int .u8 0, .int .u8 0, .int .u8 0, .int .u8 0, .int .u8 0, .int .u8 0, .int .u8 0, .int .u8 0, .int .u8 0, .int .u8 0, .int .u8 0, .int .u8 0, .int .u8 0, .int .u8 0, .int .u8 0, .int .u8 0, .int .u8 0, .int .u8 0, .int .u8 0, .int .u8 0, .int .u8 0, .int .u8 0, .int .u8 0, .int .u8 0, .int .u8 0, .int .u8 0, .int .u8 0, .int .u8 0, .int .u8 0, .int .u8 0, .int .u8 0, .int .u8 0, .int .u8 0, .int .u8 0, .int .u8 0, .int .u8 0, .int .u8 0, .int .u8 0, .int .u8 0, .int .u8 0, .int .u8 0, .int .u8 0, .int .u8 0, .int .u8 0, .int .u8 0, .int .u8 0, .int .u8 0, .int .u8 0, .int .u8 0, .int .u8 0, .int .u8 0, .int .u8 0, .int .u8 0, .int .u8 0, .int .u8 0, .int .u8 0, .int .u8 0, .int .u8 0, .int .u8 0, .int .u8 0, .int .u8 0, .int .u8 0, .int .u8 0, .int .u8 0, .int .u8 0, .int .u8 0, .int .u8 0, .int .u8 0, .int .u8 0, .int .u8 0, .int .u8 0, .int .u8 0, .int .u8 0, .int .u8 0, .int .u8 0, .int .u8 0, .int .u8 0, .int .u8 0, .int .u8 0, .int .u8 0, .int .u8 0, .int .u8 0, .int .u8 0, .int .u8 0, .int .u8 0, .int .u8 0, .int .u8 0, .int .u8 0, .int .u8 0, .int .u8 0, .int .u8 0, .int .u8 0, .int .u8 0, .int .u8 0, .int .u8 0, .int .u8 0, .int .u8 0, .int .u8 0, .int .u8 0, .int .u8 0, .int .u8 0, .int .u8 0, .int .u8 0, .int .u8 0, .int .u8 0, .int .u8 0, .int .u8 0, .int .u8 0, .int .u8 0, .int .u8 0, .int .u8 0, .int .u8 0, .int .u8 0, .int .u8 0, .int .u8 0, .int .u8 0, .int .u8 0, .int .u8 0, .int .u8 0, .int .u8 0, .int .u8 0, .int .u8 0, .int .u8 0, .int .u8 0, .int .u8 0, .int .u8 0, .int .u8 0, .int .u8 0, .int .u8 0, .int .u8 0, .int .u8 0, .int .u8 0, .int .u8 0, .int .u8 0, .int .u8 0, .int .u8 0, .int .u8 0, .int .u8 0, .int .u8 0, .int .u8 0, .int .u8 0, .int .u8 0, .int .u8 0, .int .u8 0, .int .u8 0, .int .u8 0]) 256 256 := ⟨by kernel_rfl⟩
instance tu180 : TU Tryd.prog 180 (.struct #[{ name := "lo", type := 5, offset := 0, embedded := false, tag := "", pkgPath := "unicode/utf8", byteOffset := 0 }, { name := "hi", type := 5, offset := 1, embedded := false, tag := "", pkgPath := "unicode/utf8", byteOffset := 1 }]) := ⟨Tryd.underlying180⟩
instance ts180 : TS Tryd.prog 180 (.agg #[.int .u8 0, .int .u8 0]) 2 2 := ⟨by kernel_rfl⟩
instance tu181 : TU Tryd.prog 181 (.struct #[{ name := "lo", type := 5, offset := 0, embedded := false, tag := "", pkgPath := "unicode/utf8", byteOffset := 0 }, { name := "hi", type := 5, offset := 1, embedded := false, tag := "", pkgPath := "unicode/utf8", byteOffset := 1 }]) := ⟨Tryd.underlying181⟩
instance ts181 : TS Tryd.prog 181 (.agg #[.int .u8 0, .int .u8 0]) 2 2 := ⟨by kernel_rfl⟩
instance : TArr Tryd.prog 182 16 181 := ⟨Tryd.underlying182⟩
instance tu182 : TU Tryd.prog 182 (.array 16 181) := ⟨Tryd.underlying182⟩
instance ts182 : TS Tryd.prog 182 (.agg #[.int .u8 0, .int .u8 0, .int .u8 0, .int .u8 0, .int .u8 0, .int .u8 0, .int .u8 0, .int .u8 0, .int .u8 0, .int .u8 0, .int .u8 0, .int .u8 0, .int .u8 0, .int .u8 0, .int .u8 0, .int .u8 0, .int .u8 0, .int .u8 0, .int .u8 0, .int .u8 0, .int .u8 0, .int .u8 0, .int .u8 0, .int .u8 0, .int .u8 0, .int .u8 0, .int .u8 0, .int .u8 0, .int .u8 0, .int .u8 0, .int .u8 0, .int .u8 0]) 32 32 := ⟨by kernel_rfl⟩
instance tu183 : TU Tryd.prog 183 (.int .u32) := ⟨Tryd.underlying183⟩
instance ts183 : TS Tryd.prog 183 (.int .u32 0) 1 4 := ⟨by kernel_rfl⟩
instance tu185 : TU Tryd.prog 185 (.func #[9] #[183, 183] false) := ⟨Tryd.underlying185⟩
instance ts185 : TS Tryd.prog 185 (.nilFunc) 1 8 := ⟨by kernel_rfl⟩
instance tu186 : TU Tryd.prog 186 (.struct #[{ name := "_interface", type := 17, offset := 0, embedded := false, tag := "", pkgPath := "runtime", byteOffset := 0 }, { name := "concrete", type := 17, offset := 1, embedded := false, tag := "", pkgPath := "runtime", byteOffset := 8 }, { name := "asserted", type := 17, offset := 2, embedded := false, tag := "", pkgPath := "runtime", byteOffset := 16 }, { name := "missingMethod", type := 9, offset := 3, embedded := false, tag := "", pkgPath := "runtime", byteOffset := 24 }]) := ⟨Tryd.underlying186⟩
instance ts186 : TS Tryd.prog 186 (.agg #[.pointer none, .pointer none, .pointer none, .string ⟨#[]⟩]) 4 40 := ⟨by kernel_rfl⟩
instance : TArr Tryd.prog 188 0 16 := ⟨Tryd.underlying188⟩
instance tu188 : TU Tryd.prog 188 (.array 0 16) := ⟨Tryd.underlying188⟩
instance ts188 : TS Tryd.prog 188 (.agg #[]) 0 0 := ⟨by kernel_rfl⟩
instance tu189 : TU Tryd.prog 189 (.struct #[{ name := "_", type := 188, offset := 0, embedded := false, tag := "", pkgPath := "runtime", byteOffset := 0 }]) := ⟨Tryd.underlying189⟩
instance ts189 : TS Tryd.prog 189 (.agg #[]) 0 0 := ⟨by kernel_rfl⟩
instance tu191 : TU Tryd.prog 191 (.func #[] #[3] false) := ⟨Tryd.underlying191⟩
instance ts191 : TS Tryd.prog 191 (.nilFunc) 1 8 := ⟨by kernel_rfl⟩
instance tu194 : TU Tryd.prog 194 (.func #[170, 170] #[4] false) := ⟨Tryd.underlying194⟩
instance ts194 : TS Tryd.prog 194 (.nilFunc) 1 8 := ⟨by kernel_rfl⟩
instance tu197 : TU Tryd.prog 197 (.struct #[{ name := "Size_", type := 12, offset := 0, embedded := false, tag := "", pkgPath := "", byteOffset := 0 }, { name := "PtrBytes", type := 12, offset := 1, embedded := false, tag := "", pkgPath := "", byteOffset := 8 }, { name := "Hash", type := 183, offset := 2, embedded := false, tag := "", pkgPath := "", byteOffset := 16 }, { name := "TFlag", type := 192, offset := 3, embedded := false, tag := "", pkgPath := "", byteOffset := 20 }, { name := "Align_", type := 5, offset := 4, embedded := false, tag := "", pkgPath := "", byteOffset := 21 }, { name := "FieldAlign_", type := 5, offset := 5, embedded := false, tag := "", pkgPath := "", byteOffset := 22 }, { name := "Kind_", type := 193, offset := 6, embedded := false, tag := "", pkgPath := "", byteOffset := 23 }, { name := "Equal", type := 194, offset := 7, embedded := false, tag := "", pkgPath := "", byteOffset := 24 }, { name := "GCData", type := 165, offset := 8, embedded := false, tag := "", pkgPath := "", byteOffset := 32 }, { name := "Str", type := 195, offset := 9, embedded := false, tag := "", pkgPath := "", byteOffset := 40 }, { name := "PtrToThis", type := 196, offset := 10, embedded := false, tag := "", pkgPath := "", byteOffset := 44 }]) := ⟨Tryd.underlying197⟩
instance ts197 : TS Tryd.prog 197 (.agg #[.int .u64 0, .int .u64 0, .int .u32 0, .int .u8 0, .int .u8 0, .int .u8 0, .int .u8 0, .nilFunc, .pointer none, .int .i32 0, .int .i32 0]) 11 48 := ⟨by kernel_rfl⟩
instance tu199 : TU Tryd.prog 199 (.func #[] #[201] false) := ⟨Tryd.underlying199⟩
instance ts199 : TS Tryd.prog 199 (.nilFunc) 1 8 := ⟨by kernel_rfl⟩
instance tu200 : TU Tryd.prog 200 (.func #[202] #[] false) := ⟨Tryd.underlying200⟩
instance ts200 : TS Tryd.prog 200 (.nilFunc) 1 8 := ⟨by kernel_rfl⟩
instance tu201 : TU Tryd.prog 201 (.func #[202] #[] false) := ⟨Tryd.underlying201⟩
instance ts201 : TS Tryd.prog 201 (.nilFunc) 1 8 := ⟨by kernel_rfl⟩
instance tu202 : TU Tryd.prog 202 (.func #[28, 9] #[4] false) := ⟨Tryd.underlying202⟩
instance ts202 : TS Tryd.prog 202 (.nilFunc) 1 8 := ⟨by kernel_rfl⟩
instance : TB Tryd.prog 7 [.int .i64 0, .int .i64 0, .bool false, .int .u8 0] (fun i => ([(0, 1), (1, 1), (2, 1), (3, 1)] : List (Nat × Nat))[i]?) := TB.struct Tryd.underlying7 ts7 (by kernel_rfl)
instance : FA Tryd.prog 7 0 0 := ⟨_, _, _, _, _, Tryd.underlying7, rfl, rfl, ts2⟩
instance : FV Tryd.prog 7 0 0 := ⟨_, _, _, Tryd.underlying7, rfl, rfl, tu2, rfl⟩
instance : FA Tryd.prog 7 1 1 := ⟨_, _, _, _, _, Tryd.underlying7, rfl, rfl, ts3⟩
instance : FV Tryd.prog 7 1 1 := ⟨_, _, _, Tryd.underlying7, rfl, rfl, tu3, rfl⟩
instance : FA Tryd.prog 7 2 2 := ⟨_, _, _, _, _, Tryd.underlying7, rfl, rfl, ts4⟩
instance : FV Tryd.prog 7 2 2 := ⟨_, _, _, Tryd.underlying7, rfl, rfl, tu4, rfl⟩
instance : TB Tryd.prog 13 [.string ⟨#[]⟩, .int .u64 0] (fun i => ([(0, 1), (1, 1)] : List (Nat × Nat))[i]?) := TB.struct Tryd.underlying13 ts13 (by kernel_rfl)
instance : FA Tryd.prog 13 0 0 := ⟨_, _, _, _, _, Tryd.underlying13, rfl, rfl, ts9⟩
instance : FV Tryd.prog 13 0 0 := ⟨_, _, _, Tryd.underlying13, rfl, rfl, tu9, rfl⟩
instance : FA Tryd.prog 13 1 1 := ⟨_, _, _, _, _, Tryd.underlying13, rfl, rfl, ts12⟩
instance : FV Tryd.prog 13 1 1 := ⟨_, _, _, Tryd.underlying13, rfl, rfl, tu12, rfl⟩
instance : TB Tryd.prog 18 [.pointer none] (fun i => ([(0, 1)] : List (Nat × Nat))[i]?) := TB.struct Tryd.underlying18 ts18 (by kernel_rfl)
instance : TB Tryd.prog 23 [.slice none 0 0] (fun i => ([(0, 1)] : List (Nat × Nat))[i]?) := TB.struct Tryd.underlying23 ts23 (by kernel_rfl)
instance : FA Tryd.prog 23 0 0 := ⟨_, _, _, _, _, Tryd.underlying23, rfl, rfl, ts22⟩
instance : FV Tryd.prog 23 0 0 := ⟨_, _, _, Tryd.underlying23, rfl, rfl, tu22, rfl⟩
instance : TB Tryd.prog 24 [.slice none 0 0] (fun i => ([(0, 1)] : List (Nat × Nat))[i]?) := TB.struct Tryd.underlying24 ts24 (by kernel_rfl)
instance : FA Tryd.prog 24 0 0 := ⟨_, _, _, _, _, Tryd.underlying24, rfl, rfl, ts22⟩
instance : FV Tryd.prog 24 0 0 := ⟨_, _, _, Tryd.underlying24, rfl, rfl, tu22, rfl⟩
instance : TB Tryd.prog 25 [.int .i64 0, .int .u8 0] (fun i => ([(0, 1), (1, 1)] : List (Nat × Nat))[i]?) := TB.struct Tryd.underlying25 ts25 (by kernel_rfl)
instance : FA Tryd.prog 25 0 0 := ⟨_, _, _, _, _, Tryd.underlying25, rfl, rfl, ts3⟩
instance : FV Tryd.prog 25 0 0 := ⟨_, _, _, Tryd.underlying25, rfl, rfl, tu3, rfl⟩
instance : FA Tryd.prog 25 1 1 := ⟨_, _, _, _, _, Tryd.underlying25, rfl, rfl, ts5⟩
instance : FV Tryd.prog 25 1 1 := ⟨_, _, _, Tryd.underlying25, rfl, rfl, tu5, rfl⟩
instance : TB Tryd.prog 26 [.int .i64 0, .int .u8 0] (fun i => ([(0, 1), (1, 1)] : List (Nat × Nat))[i]?) := TB.struct Tryd.underlying26 ts26 (by kernel_rfl)
instance : FA Tryd.prog 26 0 0 := ⟨_, _, _, _, _, Tryd.underlying26, rfl, rfl, ts3⟩
instance : FV Tryd.prog 26 0 0 := ⟨_, _, _, Tryd.underlying26, rfl, rfl, tu3, rfl⟩
instance : FA Tryd.prog 26 1 1 := ⟨_, _, _, _, _, Tryd.underlying26, rfl, rfl, ts5⟩
instance : FV Tryd.prog 26 1 1 := ⟨_, _, _, Tryd.underlying26, rfl, rfl, tu5, rfl⟩
instance : TB Tryd.prog 27 [.int .i64 0, .int .i64 0, .int .i64 0] (fun i => ([(0, 1), (1, 1), (2, 1)] : List (Nat × Nat))[i]?) := TB.struct Tryd.underlying27 ts27 (by kernel_rfl)
instance : FA Tryd.prog 27 0 0 := ⟨_, _, _, _, _, Tryd.underlying27, rfl, rfl, ts3⟩
instance : FV Tryd.prog 27 0 0 := ⟨_, _, _, Tryd.underlying27, rfl, rfl, tu3, rfl⟩
instance : FA Tryd.prog 27 1 1 := ⟨_, _, _, _, _, Tryd.underlying27, rfl, rfl, ts3⟩
instance : FV Tryd.prog 27 1 1 := ⟨_, _, _, Tryd.underlying27, rfl, rfl, tu3, rfl⟩
instance : FA Tryd.prog 27 2 2 := ⟨_, _, _, _, _, Tryd.underlying27, rfl, rfl, ts3⟩
instance : FV Tryd.prog 27 2 2 := ⟨_, _, _, Tryd.underlying27, rfl, rfl, tu3, rfl⟩
instance : TB Tryd.prog 28 [.int .i64 0, .int .i64 0, .int .i64 0] (fun i => ([(0, 1), (1, 1), (2, 1)] : List (Nat × Nat))[i]?) := TB.struct Tryd.underlying28 ts28 (by kernel_rfl)
instance : FA Tryd.prog 28 0 0 := ⟨_, _, _, _, _, Tryd.underlying28, rfl, rfl, ts3⟩
instance : FV Tryd.prog 28 0 0 := ⟨_, _, _, Tryd.underlying28, rfl, rfl, tu3, rfl⟩
instance : FA Tryd.prog 28 1 1 := ⟨_, _, _, _, _, Tryd.underlying28, rfl, rfl, ts3⟩
instance : FV Tryd.prog 28 1 1 := ⟨_, _, _, Tryd.underlying28, rfl, rfl, tu3, rfl⟩
instance : FA Tryd.prog 28 2 2 := ⟨_, _, _, _, _, Tryd.underlying28, rfl, rfl, ts3⟩
instance : FV Tryd.prog 28 2 2 := ⟨_, _, _, Tryd.underlying28, rfl, rfl, tu3, rfl⟩
instance : TB Tryd.prog 31 [.int .i64 0, .int .i64 0, .int .i64 0, .string ⟨#[]⟩, .string ⟨#[]⟩, .string ⟨#[]⟩] (fun i => ([(0, 3), (3, 1), (4, 1), (5, 1)] : List (Nat × Nat))[i]?) := TB.struct Tryd.underlying31 ts31 (by kernel_rfl)
instance : FA Tryd.prog 31 0 0 := ⟨_, _, _, _, _, Tryd.underlying31, rfl, rfl, ts28⟩
instance : FA Tryd.prog 31 1 3 := ⟨_, _, _, _, _, Tryd.underlying31, rfl, rfl, ts9⟩
instance : FV Tryd.prog 31 1 3 := ⟨_, _, _, Tryd.underlying31, rfl, rfl, tu9, rfl⟩
instance : FA Tryd.prog 31 2 4 := ⟨_, _, _, _, _, Tryd.underlying31, rfl, rfl, ts9⟩
instance : FV Tryd.prog 31 2 4 := ⟨_, _, _, Tryd.underlying31, rfl, rfl, tu9, rfl⟩
instance : FA Tryd.prog 31 3 5 := ⟨_, _, _, _, _, Tryd.underlying31, rfl, rfl, ts9⟩
instance : FV Tryd.prog 31 3 5 := ⟨_, _, _, Tryd.underlying31, rfl, rfl, tu9, rfl⟩
instance : TB Tryd.prog 32 [.int .i64 0, .int .i64 0, .int .i64 0, .string ⟨#[]⟩, .string ⟨#[]⟩, .string ⟨#[]⟩] (fun i => ([(0, 3), (3, 1), (4, 1), (5, 1)] : List (Nat × Nat))[i]?) := TB.struct Tryd.underlying32 ts32 (by kernel_rfl)
instance : FA Tryd.prog 32 0 0 := ⟨_, _, _, _, _, Tryd.underlying32, rfl, rfl, ts28⟩
instance : FA Tryd.prog 32 1 3 := ⟨_, _, _, _, _, Tryd.underlying32, rfl, rfl, ts9⟩
instance : FV Tryd.prog 32 1 3 := ⟨_, _, _, Tryd.underlying32, rfl, rfl, tu9, rfl⟩
instance : FA Tryd.prog 32 2 4 := ⟨_, _, _, _, _, Tryd.underlying32, rfl, rfl, ts9⟩
instance : FV Tryd.prog 32 2 4 := ⟨_, _, _, Tryd.underlying32, rfl, rfl, tu9, rfl⟩
instance : FA Tryd.prog 32 3 5 := ⟨_, _, _, _, _, Tryd.underlying32, rfl, rfl, ts9⟩
instance : FV Tryd.prog 32 3 5 := ⟨_, _, _, Tryd.underlying32, rfl, rfl, tu9, rfl⟩
instance : TB Tryd.prog 51 [.int .i64 0, .slice none 0 0] (fun i => ([(0, 1), (1, 1)] : List (Nat × Nat))[i]?) := TB.struct Tryd.underlying51 ts51 (by kernel_rfl)
instance : FA Tryd.prog 51 0 0 := ⟨_, _, _, _, _, Tryd.underlying51, rfl, rfl, ts3⟩
instance : FV Tryd.prog 51 0 0 := ⟨_, _, _, Tryd.underlying51, rfl, rfl, tu3, rfl⟩
instance : FA Tryd.prog 51 1 1 := ⟨_, _, _, _, _, Tryd.underlying51, rfl, rfl, ts50⟩
instance : FV Tryd.prog 51 1 1 := ⟨_, _, _, Tryd.underlying51, rfl, rfl, tu50, rfl⟩
instance : TB Tryd.prog 52 [.int .i64 0, .slice none 0 0] (fun i => ([(0, 1), (1, 1)] : List (Nat × Nat))[i]?) := TB.struct Tryd.underlying52 ts52 (by kernel_rfl)
instance : FA Tryd.prog 52 0 0 := ⟨_, _, _, _, _, Tryd.underlying52, rfl, rfl, ts3⟩
instance : FV Tryd.prog 52 0 0 := ⟨_, _, _, Tryd.underlying52, rfl, rfl, tu3, rfl⟩
instance : FA Tryd.prog 52 1 1 := ⟨_, _, _, _, _, Tryd.underlying52, rfl, rfl, ts50⟩
instance : FV Tryd.prog 52 1 1 := ⟨_, _, _, Tryd.underlying52, rfl, rfl, tu50, rfl⟩
instance : TB Tryd.prog 67 [.int .i64 0, .slice none 0 0] (fun i => ([(0, 1), (1, 1)] : List (Nat × Nat))[i]?) := TB.struct Tryd.underlying67 ts67 (by kernel_rfl)
instance : FA Tryd.prog 67 0 0 := ⟨_, _, _, _, _, Tryd.underlying67, rfl, rfl, ts3⟩
instance : FV Tryd.prog 67 0 0 := ⟨_, _, _, Tryd.underlying67, rfl, rfl, tu3, rfl⟩
instance : FA Tryd.prog 67 1 1 := ⟨_, _, _, _, _, Tryd.underlying67, rfl, rfl, ts66⟩
instance : FV Tryd.prog 67 1 1 := ⟨_, _, _, Tryd.underlying67, rfl, rfl, tu66, rfl⟩
instance : TB Tryd.prog 68 [.int .i64 0, .slice none 0 0] (fun i => ([(0, 1), (1, 1)] : List (Nat × Nat))[i]?) := TB.struct Tryd.underlying68 ts68 (by kernel_rfl)
instance : FA Tryd.prog 68 0 0 := ⟨_, _, _, _, _, Tryd.underlying68, rfl, rfl, ts3⟩
instance : FV Tryd.prog 68 0 0 := ⟨_, _, _, Tryd.underlying68, rfl, rfl, tu3, rfl⟩
instance : FA Tryd.prog 68 1 1 := ⟨_, _, _, _, _, Tryd.underlying68, rfl, rfl, ts66⟩
instance : FV Tryd.prog 68 1 1 := ⟨_, _, _, Tryd.underlying68, rfl, rfl, tu66, rfl⟩
instance : TB Tryd.prog 87 [.int .i64 0, .int .i64 0, .int .i64 0, .int .u8 0, .string ⟨#[]⟩] (fun i => ([(0, 3), (3, 1), (4, 1)] : List (Nat × Nat))[i]?) := TB.struct Tryd.underlying87 ts87 (by kernel_rfl)
instance : FA Tryd.prog 87 0 0 := ⟨_, _, _, _, _, Tryd.underlying87, rfl, rfl, ts28⟩
instance : FA Tryd.prog 87 1 3 := ⟨_, _, _, _, _, Tryd.underlying87, rfl, rfl, ts5⟩
instance : FV Tryd.prog 87 1 3 := ⟨_, _, _, Tryd.underlying87, rfl, rfl, tu5, rfl⟩
instance : FA Tryd.prog 87 2 4 := ⟨_, _, _, _, _, Tryd.underlying87, rfl, rfl, ts9⟩
instance : FV Tryd.prog 87 2 4 := ⟨_, _, _, Tryd.underlying87, rfl, rfl, tu9, rfl⟩
instance : TB Tryd.prog 88 [.int .i64 0, .int .i64 0, .int .i64 0, .int .u8 0, .string ⟨#[]⟩] (fun i => ([(0, 3), (3, 1), (4, 1)] : List (Nat × Nat))[i]?) := TB.struct Tryd.underlying88 ts88 (by kernel_rfl)
instance : FA Tryd.prog 88 0 0 := ⟨_, _, _, _, _, Tryd.underlying88, rfl, rfl, ts28⟩
instance : FA Tryd.prog 88 1 3 := ⟨_, _, _, _, _, Tryd.underlying88, rfl, rfl, ts5⟩
instance : FV Tryd.prog 88 1 3 := ⟨_, _, _, Tryd.underlying88, rfl, rfl, tu5, rfl⟩
instance : FA Tryd.prog 88 2 4 := ⟨_, _, _, _, _, Tryd.underlying88, rfl, rfl, ts9⟩
instance : FV Tryd.prog 88 2 4 := ⟨_, _, _, Tryd.underlying88, rfl, rfl, tu9, rfl⟩
instance : TB Tryd.prog 95 [.int .i64 0, .int .u8 0, .slice none 0 0, .slice none 0 0] (fun i => ([(0, 2), (2, 1), (3, 1)] : List (Nat × Nat))[i]?) := TB.struct Tryd.underlying95 ts95 (by kernel_rfl)
instance : FA Tryd.prog 95 0 0 := ⟨_, _, _, _, _, Tryd.underlying95, rfl, rfl, ts26⟩
instance : FA Tryd.prog 95 1 2 := ⟨_, _, _, _, _, Tryd.underlying95, rfl, rfl, ts69⟩
instance : FV Tryd.prog 95 1 2 := ⟨_, _, _, Tryd.underlying95, rfl, rfl, tu69, rfl⟩
instance : FA Tryd.prog 95 2 3 := ⟨_, _, _, _, _, Tryd.underlying95, rfl, rfl, ts80⟩
instance : FV Tryd.prog 95 2 3 := ⟨_, _, _, Tryd.underlying95, rfl, rfl, tu80, rfl⟩
instance : TB Tryd.prog 96 [.int .i64 0, .int .u8 0, .slice none 0 0, .slice none 0 0] (fun i => ([(0, 2), (2, 1), (3, 1)] : List (Nat × Nat))[i]?) := TB.struct Tryd.underlying96 ts96 (by kernel_rfl)
instance : FA Tryd.prog 96 0 0 := ⟨_, _, _, _, _, Tryd.underlying96, rfl, rfl, ts26⟩
instance : FA Tryd.prog 96 1 2 := ⟨_, _, _, _, _, Tryd.underlying96, rfl, rfl, ts69⟩
instance : FV Tryd.prog 96 1 2 := ⟨_, _, _, Tryd.underlying96, rfl, rfl, tu69, rfl⟩
instance : FA Tryd.prog 96 2 3 := ⟨_, _, _, _, _, Tryd.underlying96, rfl, rfl, ts80⟩
instance : FV Tryd.prog 96 2 3 := ⟨_, _, _, Tryd.underlying96, rfl, rfl, tu80, rfl⟩
instance : TB Tryd.prog 123 [.int .i64 0, .int .i64 0, .int .i64 0, .int .i64 0] (fun i => ([(0, 1), (1, 1), (2, 1), (3, 1)] : List (Nat × Nat))[i]?) := TB.struct Tryd.underlying123 ts123 (by kernel_rfl)
instance : FA Tryd.prog 123 0 0 := ⟨_, _, _, _, _, Tryd.underlying123, rfl, rfl, ts3⟩
instance : FV Tryd.prog 123 0 0 := ⟨_, _, _, Tryd.underlying123, rfl, rfl, tu3, rfl⟩
instance : FA Tryd.prog 123 1 1 := ⟨_, _, _, _, _, Tryd.underlying123, rfl, rfl, ts3⟩
instance : FV Tryd.prog 123 1 1 := ⟨_, _, _, Tryd.underlying123, rfl, rfl, tu3, rfl⟩
instance : FA Tryd.prog 123 2 2 := ⟨_, _, _, _, _, Tryd.underlying123, rfl, rfl, ts3⟩
instance : FV Tryd.prog 123 2 2 := ⟨_, _, _, Tryd.underlying123, rfl, rfl, tu3, rfl⟩
instance : FA Tryd.prog 123 3 3 := ⟨_, _, _, _, _, Tryd.underlying123, rfl, rfl, ts3⟩
instance : FV Tryd.prog 123 3 3 := ⟨_, _, _, Tryd.underlying123, rfl, rfl, tu3, rfl⟩
instance : TB Tryd.prog 124 [.int .i64 0, .int .i64 0, .int .i64 0, .int .i64 0] (fun i => ([(0, 1), (1, 1), (2, 1), (3, 1)] : List (Nat × Nat))[i]?) := TB.struct Tryd.underlying124 ts124 (by kernel_rfl)
instance : FA Tryd.prog 124 0 0 := ⟨_, _, _, _, _, Tryd.underlying124, rfl, rfl, ts3⟩
instance : FV Tryd.prog 124 0 0 := ⟨_, _, _, Tryd.underlying124, rfl, rfl, tu3, rfl⟩
instance : FA Tryd.prog 124 1 1 := ⟨_, _, _, _, _, Tryd.underlying124, rfl, rfl, ts3⟩
instance : FV Tryd.prog 124 1 1 := ⟨_, _, _, Tryd.underlying124, rfl, rfl, tu3, rfl⟩
instance : FA Tryd.prog 124 2 2 := ⟨_, _, _, _, _, Tryd.underlying124, rfl, rfl, ts3⟩
instance : FV Tryd.prog 124 2 2 := ⟨_, _, _, Tryd.underlying124, rfl, rfl, tu3, rfl⟩
instance : FA Tryd.prog 124 3 3 := ⟨_, _, _, _, _, Tryd.underlying124, rfl, rfl, ts3⟩
instance : FV Tryd.prog 124 3 3 := ⟨_, _, _, Tryd.underlying124, rfl, rfl, tu3, rfl⟩
instance : TB Tryd.prog 130 [.nilFunc] (fun i => ([(0, 1)] : List (Nat × Nat))[i]?) := TB.struct Tryd.underlying130 ts130 (by kernel_rfl)
instance : FA Tryd.prog 130 0 0 := ⟨_, _, _, _, _, Tryd.underlying130, rfl, rfl, ts129⟩
instance : FV Tryd.prog 130 0 0 := ⟨_, _, _, Tryd.underlying130, rfl, rfl, tu129, rfl⟩
instance : TB Tryd.prog 131 [.nilFunc, .nilFunc, .nilFunc, .nilFunc] (fun i => some (i * 1, 1)) := TB.array Tryd.underlying131 ts131 ts130
instance : TB Tryd.prog 145 [.pointer none, .slice none 0 0] (fun i => ([(0, 1), (1, 1)] : List (Nat × Nat))[i]?) := TB.struct Tryd.underlying145 ts145 (by kernel_rfl)
instance : FA Tryd.prog 145 0 0 := ⟨_, _, _, _, _, Tryd.underlying145, rfl, rfl, ts144⟩
instance : FV Tryd.prog 145 0 0 := ⟨_, _, _, Tryd.underlying145, rfl, rfl, tu144, rfl⟩
instance : FA Tryd.prog 145 1 1 := ⟨_, _, _, _, _, Tryd.underlying145, rfl, rfl, ts136⟩
instance : FV Tryd.prog 145 1 1 := ⟨_, _, _, Tryd.underlying145, rfl, rfl, tu136, rfl⟩
instance : TB Tryd.prog 146 [.pointer none, .slice none 0 0] (fun i => ([(0, 1), (1, 1)] : List (Nat × Nat))[i]?) := TB.struct Tryd.underlying146 ts146 (by kernel_rfl)
instance : FA Tryd.prog 146 0 0 := ⟨_, _, _, _, _, Tryd.underlying146, rfl, rfl, ts144⟩
instance : FV Tryd.prog 146 0 0 := ⟨_, _, _, Tryd.underlying146, rfl, rfl, tu144, rfl⟩
instance : FA Tryd.prog 146 1 1 := ⟨_, _, _, _, _, Tryd.underlying146, rfl, rfl, ts136⟩
instance : FV Tryd.prog 146 1 1 := ⟨_, _, _, Tryd.underlying146, rfl, rfl, tu136, rfl⟩
instance : TB Tryd.prog 155 [.slice none 0 0] (fun i => ([(0, 1)] : List (Nat × Nat))[i]?) := TB.struct Tryd.underlying155 ts155 (by kernel_rfl)
instance : FA Tryd.prog 155 0 0 := ⟨_, _, _, _, _, Tryd.underlying155, rfl, rfl, ts24⟩
instance : TB Tryd.prog 156 [.slice none 0 0] (fun i => ([(0, 1)] : List (Nat × Nat))[i]?) := TB.struct Tryd.underlying156 ts156 (by kernel_rfl)
instance : FA Tryd.prog 156 0 0 := ⟨_, _, _, _, _, Tryd.underlying156, rfl, rfl, ts24⟩
instance : TB Tryd.prog 158 [.int .i64 0, .nilFunc, .nilFunc] (fun i => ([(0, 1), (1, 1), (2, 1)] : List (Nat × Nat))[i]?) := TB.struct Tryd.underlying158 ts158 (by kernel_rfl)
instance : FA Tryd.prog 158 0 0 := ⟨_, _, _, _, _, Tryd.underlying158, rfl, rfl, ts3⟩
instance : FV Tryd.prog 158 0 0 := ⟨_, _, _, Tryd.underlying158, rfl, rfl, tu3, rfl⟩
instance : FA Tryd.prog 158 1 1 := ⟨_, _, _, _, _, Tryd.underlying158, rfl, rfl, ts157⟩
instance : FV Tryd.prog 158 1 1 := ⟨_, _, _, Tryd.underlying158, rfl, rfl, tu157, rfl⟩
instance : FA Tryd.prog 158 2 2 := ⟨_, _, _, _, _, Tryd.underlying158, rfl, rfl, ts134⟩
instance : FV Tryd.prog 158 2 2 := ⟨_, _, _, Tryd.underlying158, rfl, rfl, tu134, rfl⟩
instance : TB Tryd.prog 159 [.int .i64 0, .nilFunc, .nilFunc] (fun i => ([(0, 1), (1, 1), (2, 1)] : List (Nat × Nat))[i]?) := TB.struct Tryd.underlying159 ts159 (by kernel_rfl)
instance : FA Tryd.prog 159 0 0 := ⟨_, _, _, _, _, Tryd.underlying159, rfl, rfl, ts3⟩
instance : FV Tryd.prog 159 0 0 := ⟨_, _, _, Tryd.underlying159, rfl, rfl, tu3, rfl⟩
instance : FA Tryd.prog 159 1 1 := ⟨_, _, _, _, _, Tryd.underlying159, rfl, rfl, ts157⟩
instance : FV Tryd.prog 159 1 1 := ⟨_, _, _, Tryd.underlying159, rfl, rfl, tu157, rfl⟩
instance : FA Tryd.prog 159 2 2 := ⟨_, _, _, _, _, Tryd.underlying159, rfl, rfl, ts134⟩
instance : FV Tryd.prog 159 2 2 := ⟨_, _, _, Tryd.underlying159, rfl, rfl, tu134, rfl⟩
instance : TB Tryd.prog 160 [.int .i64 0, .nilFunc, .nilFunc, .int .i64 0, .nilFunc, .nilFunc, .int .i64 0, .nilFunc, .nilFunc, .int .i64 0, .nilFunc, .nilFunc] (fun i => some (i * 3, 3)) := TB.array Tryd.underlying160 ts160 ts159
instance : TB Tryd.prog 179 [.int .u8 0, .int .u8 0, .int .u8 0, .int .u8 0, .int .u8 0, .int .u8 0, .int .u8 0, .int .u8 0, .int .u8 0, .int .u8 0, .int .u8 0, .int .u8 0, .int .u8 0, .int .u8 0, .int .u8 0, .int .u8 0, .int .u8 0, .int .u8 0, .int .u8 0, .int .u8 0, .int .u8 0, .int .u8 0, .int .u8 0, .int .u8 0, .int .u8 0, .int .u8 0, .int .u8 0, .int .u8 0, .int .u8 0, .int .u8 0, .int .u8 0, .int .u8 0, .int .u8 0, .int .u8 0, .int .u8 0, .int .u8 0, .int .u8 0, .int .u8 0, .int .u8 0, .int .u8 0, .int .u8 0, .int .u8 0, .int .u8 0, .int .u8 0, .int .u8 0, .int .u8 0, .int .u8 0, .int .u8 0, .int .u8 0, .int .u8 0, .int .u8 0, .int .u8 0, .int .u8 0, .int .u8 0, .int .u8 0, .int .u8 0, .int .u8 0, .int .u8 0, .int .u8 0, .int .u8 0, .int .u8 0, .int .u8 0, .int .u8 0, .int .u8 0, .int .u8 0, .int .u8 0, .int .u8 0, .int .u8 0, .int .u8 0, .int .u8 0, .int .u8 0, .int .u8 0, .int .u8 0, .int .u8 0, .int .u8 0, .int .u8 0, .int .u8 0, .int .u8 0, .int .u8 0, .int .u8 0, .int .u8 0, .int .u8 0, .int .u8 0, .int .u8 0, .int .u8 0, .int .u8 0, .int .u8 0, .int .u8 0, .int .u8 0, .int .u8 0, .int .u8 0, .int .u8 0, .int .u8 0, .int .u8 0, .int .u8 0, .int .u8 0, .int .u8 0, .int .u8 0, .int .u8 0, .int .u8 0, .int .u8 0, .int .u8 0, .int .u8 0, .int .u8 0, .int .u8 0, .int .u8 0, .int .u8 0, .int .u8 0, .int .u8 0, .int .u8 0, .int .u8 0, .int .u8 0, .int .u8 0, .int .u8 0, .int .u8 0, .int .u8 0, .int .u8 0, .int .u8 0, .int .u8 0, .int .u8 0, .int .u8 0, .int .u8 0, .int .u8 0, .int .u8 0, .int .u8 0, .int .u8 0, .int .u8 0, .int .u8 0, .int .u8 0, .int .u8 0, .int .u8 0, .int .u8 0, .int .u8 0, .int .u8 0, .int .u8 0, .int .u8 0, .int .u8 0, .int .u8 0, .int .u8 0, .int .u8 0, .int .u8 0, .int .u8 0, .int .u8 0, .int .u8 0, .int .u8 0, .int .u8 0, .int .u8 0, .int .u8 0, .int .u8 0, .int .u8 0, .int .u8 0, .int .u8 0, .int .u8 0, .int .u8 0, .int .u8 0, .int .u8 0, .int .u8 0, .int .u8 0, .int .u8 0, .int .u8 0, .int .u8 0, .int .u8 0, .int .u8 0, .int .u8 0, .int .u8 0, .int .u8 0, .int .u8 0, .int .u8 0, .int .u8 0, .int .u8 0, .int .u8 0, .int .u8 0, .int .u8 0, .int .u8 0, .int .u8 0, .int .u8 0, .int .u8 0, .int .u8 0, .int .u8 0, .int .u8 0, .int .u8 0, .int .u8 0, .int .u8 0, .int .u8 0, .int .u8 0, .int .u8 0, .int .u8 0, .int .u8 0, .int .u8 0, .int .u8 0, .int .u8 0, .int .u8 0, .int .u8 0, .int .u8 0, .int .u8 0, .int .u8 0, .int .u8 0, .int .u8 0, .int .u8 0, .int .u8 0, .int .u8 0, .int .u8 0, .int .u8 0, .int .u8 0, .int .u8 0, .int .u8 0, .int .u8 0, .int .u8 0, .int .u8 0, .int .u8 0, .int .u8 0, .int .u8 0, .int .u8 0, .int .u8 0, .int .u8 0, .int .u8 0, .int .u8 0, .int .u8 0, .int .u8 0, .int .u8 0, .int .u8 0, .int .u8 0, .int .u8 0, .int .u8 0, .int .u8 0, .int .u8 0, .int .u8 0, .int .u8 0, .int .u8 0, .int .u8 0, .int .u8 0, .int .u8 0, .int .u8 0, .int .u8 0, .int .u8 0, .int .u8 0, .int .u8 0, .int .u8 0, .int .u8 0, .int .u8 0, .int .u8 0, .int .u8 0, .int .u8 0, .int .u8 0, .int .u8 0, .int .u8 0, .int .u8 0, .int .u8 0, .int .u8 0, .int .u8 0, .int .u8 0, .int .u8 0, .int .u8 0, .int .u8 0, .int .u8 0, .int .u8 0] (fun i => some (i * 1, 1)) := TB.array Tryd.underlying179 ts179 ts5
instance : TB Tryd.prog 180 [.int .u8 0, .int .u8 0] (fun i => ([(0, 1), (1, 1)] : List (Nat × Nat))[i]?) := TB.struct Tryd.underlying180 ts180 (by kernel_rfl)
instance : FA Tryd.prog 180 0 0 := ⟨_, _, _, _, _, Tryd.underlying180, rfl, rfl, ts5⟩
instance : FV Tryd.prog 180 0 0 := ⟨_, _, _, Tryd.underlying180, rfl, rfl, tu5, rfl⟩
instance : FA Tryd.prog 180 1 1 := ⟨_, _, _, _, _, Tryd.underlying180, rfl, rfl, ts5⟩
instance : FV Tryd.prog 180 1 1 := ⟨_, _, _, Tryd.underlying180, rfl, rfl, tu5, rfl⟩
instance : TB Tryd.prog 181 [.int .u8 0, .int .u8 0] (fun i => ([(0, 1), (1, 1)] : List (Nat × Nat))[i]?) := TB.struct Tryd.underlying181 ts181 (by kernel_rfl)
instance : FA Tryd.prog 181 0 0 := ⟨_, _, _, _, _, Tryd.underlying181, rfl, rfl, ts5⟩
instance : FV Tryd.prog 181 0 0 := ⟨_, _, _, Tryd.underlying181, rfl, rfl, tu5, rfl⟩
instance : FA Tryd.prog 181 1 1 := ⟨_, _, _, _, _, Tryd.underlying181, rfl, rfl, ts5⟩
instance : FV Tryd.prog 181 1 1 := ⟨_, _, _, Tryd.underlying181, rfl, rfl, tu5, rfl⟩
instance : TB Tryd.prog 182 [.int .u8 0, .int .u8 0, .int .u8 0, .int .u8 0, .int .u8 0, .int .u8 0, .int .u8 0, .int .u8 0, .int .u8 0, .int .u8 0, .int .u8 0, .int .u8 0, .int .u8 0, .int .u8 0, .int .u8 0, .int .u8 0, .int .u8 0, .int .u8 0, .int .u8 0, .int .u8 0, .int .u8 0, .int .u8 0, .int .u8 0, .int .u8 0, .int .u8 0, .int .u8 0, .int .u8 0, .int .u8 0, .int .u8 0, .int .u8 0, .int .u8 0, .int .u8 0] (fun i => some (i * 2, 2)) := TB.array Tryd.underlying182 ts182 ts181
instance : TB Tryd.prog 186 [.pointer none, .pointer none, .pointer none, .string ⟨#[]⟩] (fun i => ([(0, 1), (1, 1), (2, 1), (3, 1)] : List (Nat × Nat))[i]?) := TB.struct Tryd.underlying186 ts186 (by kernel_rfl)
instance : FA Tryd.prog 186 3 3 := ⟨_, _, _, _, _, Tryd.underlying186, rfl, rfl, ts9⟩
instance : FV Tryd.prog 186 3 3 := ⟨_, _, _, Tryd.underlying186, rfl, rfl, tu9, rfl⟩
instance : TB Tryd.prog 189 [] (fun i => ([(0, 0)] : List (Nat × Nat))[i]?) := TB.struct Tryd.underlying189 ts189 (by kernel_rfl)
instance : TB Tryd.prog 197 [.int .u64 0, .int .u64 0, .int .u32 0, .int .u8 0, .int .u8 0, .int .u8 0, .int .u8 0, .nilFunc, .pointer none, .int .i32 0, .int .i32 0] (fun i => ([(0, 1), (1, 1), (2, 1), (3, 1), (4, 1), (5, 1), (6, 1), (7, 1), (8, 1), (9, 1), (10, 1)] : List (Nat × Nat))[i]?) := TB.struct Tryd.underlying197 ts197 (by kernel_rfl)
instance : FA Tryd.prog 197 0 0 := ⟨_, _, _, _, _, Tryd.underlying197, rfl, rfl, ts12⟩
instance : FV Tryd.prog 197 0 0 := ⟨_, _, _, Tryd.underlying197, rfl, rfl, tu12, rfl⟩
instance : FA Tryd.prog 197 1 1 := ⟨_, _, _, _, _, Tryd.underlying197, rfl, rfl, ts12⟩
instance : FV Tryd.prog 197 1 1 := ⟨_, _, _, Tryd.underlying197, rfl, rfl, tu12, rfl⟩
instance : FA Tryd.prog 197 2 2 := ⟨_, _, _, _, _, Tryd.underlying197, rfl, rfl, ts183⟩
instance : FV Tryd.prog 197 2 2 := ⟨_, _, _, Tryd.underlying197, rfl, rfl, tu183, rfl⟩
instance : FA Tryd.prog 197 4 4 := ⟨_, _, _, _, _, Tryd.underlying197, rfl, rfl, ts5⟩
instance : FV Tryd.prog 197 4 4 := ⟨_, _, _, Tryd.underlying197, rfl, rfl, tu5, rfl⟩
instance : FA Tryd.prog 197 5 5 := ⟨_, _, _, _, _, Tryd.underlying197, rfl, rfl, ts5⟩
instance : FV Tryd.prog 197 5 5 := ⟨_, _, _, Tryd.underlying197, rfl, rfl, tu5, rfl⟩
instance : FA Tryd.prog 197 7 7 := ⟨_, _, _, _, _, Tryd.underlying197, rfl, rfl, ts194⟩
instance : FV Tryd.prog 197 7 7 := ⟨_, _, _, Tryd.underlying197, rfl, rfl, tu194, rfl⟩
instance : FA Tryd.prog 197 8 8 := ⟨_, _, _, _, _, Tryd.underlying197, rfl, rfl, ts165⟩
instance : FV Tryd.prog 197 8 8 := ⟨_, _, _, Tryd.underlying197, rfl, rfl, tu165, rfl⟩
instance : KeyL Tryd.prog 3 (Value.int .i64) := keyL_int Tryd.underlying3
noncomputable def c3 : Code := Tryd.f3.body.getD .skip
instance : FnI Tryd.prog 3 Tryd.f3 c3 108 := ⟨Tryd.func3, by kernel_rfl, Tryd.ntmps3⟩
instance : Enters Tryd.prog 3 := ⟨Tryd.call3⟩
noncomputable def c4 : Code := Tryd.f4.body.getD .skip
instance : FnI Tryd.prog 4 Tryd.f4 c4 93 := ⟨Tryd.func4, by kernel_rfl, Tryd.ntmps4⟩
instance : Enters Tryd.prog 4 := ⟨Tryd.call4⟩
noncomputable def c5 : Code := Tryd.f5.body.getD .skip
instance : FnI Tryd.prog 5 Tryd.f5 c5 75 := ⟨Tryd.func5, by kernel_rfl, Tryd.ntmps5⟩
instance : Enters Tryd.prog 5 := ⟨Tryd.call5⟩
noncomputable def c6 : Code := Tryd.f6.body.getD .skip
instance : FnI Tryd.prog 6 Tryd.f6 c6 55 := ⟨Tryd.func6, by kernel_rfl, Tryd.ntmps6⟩
instance : Enters Tryd.prog 6 := ⟨Tryd.call6⟩
noncomputable def c7 : Code := Tryd.f7.body.getD .skip
instance : FnI Tryd.prog 7 Tryd.f7 c7 29 := ⟨Tryd.func7, by kernel_rfl, Tryd.ntmps7⟩
instance : Enters Tryd.prog 7 := ⟨Tryd.call7⟩
noncomputable def c8 : Code := Tryd.f8.body.getD .skip
instance : FnI Tryd.prog 8 Tryd.f8 c8 25 := ⟨Tryd.func8, by kernel_rfl, Tryd.ntmps8⟩
instance : Enters Tryd.prog 8 := ⟨Tryd.call8⟩
noncomputable def c9 : Code := Tryd.f9.body.getD .skip
instance : FnI Tryd.prog 9 Tryd.f9 c9 17 := ⟨Tryd.func9, by kernel_rfl, Tryd.ntmps9⟩
instance : Enters Tryd.prog 9 := ⟨Tryd.call9⟩
noncomputable def c10 : Code := Tryd.f10.body.getD .skip
instance : FnI Tryd.prog 10 Tryd.f10 c10 35 := ⟨Tryd.func10, by kernel_rfl, Tryd.ntmps10⟩
instance : Enters Tryd.prog 10 := ⟨Tryd.call10⟩
noncomputable def c11 : Code := Tryd.f11.body.getD .skip
instance : FnI Tryd.prog 11 Tryd.f11 c11 70 := ⟨Tryd.func11, by kernel_rfl, Tryd.ntmps11⟩
instance : Enters Tryd.prog 11 := ⟨Tryd.call11⟩
noncomputable def c12 : Code := Tryd.f12.body.getD .skip
instance : FnI Tryd.prog 12 Tryd.f12 c12 68 := ⟨Tryd.func12, by kernel_rfl, Tryd.ntmps12⟩
instance : Enters Tryd.prog 12 := ⟨Tryd.call12⟩
noncomputable def c13 : Code := Tryd.f13.body.getD .skip
instance : FnI Tryd.prog 13 Tryd.f13 c13 16 := ⟨Tryd.func13, by kernel_rfl, Tryd.ntmps13⟩
instance : Enters Tryd.prog 13 := ⟨Tryd.call13⟩
noncomputable def c14 : Code := Tryd.f14.body.getD .skip
instance : FnI Tryd.prog 14 Tryd.f14 c14 6 := ⟨Tryd.func14, by kernel_rfl, Tryd.ntmps14⟩
instance : Enters Tryd.prog 14 := ⟨Tryd.call14⟩
noncomputable def c15 : Code := Tryd.f15.body.getD .skip
instance : FnI Tryd.prog 15 Tryd.f15 c15 26 := ⟨Tryd.func15, by kernel_rfl, Tryd.ntmps15⟩
instance : Enters Tryd.prog 15 := ⟨Tryd.call15⟩
noncomputable def c16 : Code := Tryd.f16.body.getD .skip
instance : FnI Tryd.prog 16 Tryd.f16 c16 66 := ⟨Tryd.func16, by kernel_rfl, Tryd.ntmps16⟩
instance : Enters Tryd.prog 16 := ⟨Tryd.call16⟩
noncomputable def c17 : Code := Tryd.f17.body.getD .skip
instance : FnI Tryd.prog 17 Tryd.f17 c17 23 := ⟨Tryd.func17, by kernel_rfl, Tryd.ntmps17⟩
instance : Enters Tryd.prog 17 := ⟨Tryd.call17⟩
noncomputable def c18 : Code := Tryd.f18.body.getD .skip
instance : FnI Tryd.prog 18 Tryd.f18 c18 19 := ⟨Tryd.func18, by kernel_rfl, Tryd.ntmps18⟩
instance : Enters Tryd.prog 18 := ⟨Tryd.call18⟩
noncomputable def c19 : Code := Tryd.f19.body.getD .skip
instance : FnI Tryd.prog 19 Tryd.f19 c19 10 := ⟨Tryd.func19, by kernel_rfl, Tryd.ntmps19⟩
instance : Enters Tryd.prog 19 := ⟨Tryd.call19⟩
noncomputable def c20 : Code := Tryd.f20.body.getD .skip
instance : FnI Tryd.prog 20 Tryd.f20 c20 36 := ⟨Tryd.func20, by kernel_rfl, Tryd.ntmps20⟩
instance : Enters Tryd.prog 20 := ⟨Tryd.call20⟩
noncomputable def c21 : Code := Tryd.f21.body.getD .skip
instance : FnI Tryd.prog 21 Tryd.f21 c21 52 := ⟨Tryd.func21, by kernel_rfl, Tryd.ntmps21⟩
instance : Enters Tryd.prog 21 := ⟨Tryd.call21⟩
noncomputable def c22 : Code := Tryd.f22.body.getD .skip
instance : FnI Tryd.prog 22 Tryd.f22 c22 75 := ⟨Tryd.func22, by kernel_rfl, Tryd.ntmps22⟩
instance : Enters Tryd.prog 22 := ⟨Tryd.call22⟩
noncomputable def c23 : Code := Tryd.f23.body.getD .skip
instance : FnI Tryd.prog 23 Tryd.f23 c23 89 := ⟨Tryd.func23, by kernel_rfl, Tryd.ntmps23⟩
instance : Enters Tryd.prog 23 := ⟨Tryd.call23⟩
noncomputable def c24 : Code := Tryd.f24.body.getD .skip
instance : FnI Tryd.prog 24 Tryd.f24 c24 38 := ⟨Tryd.func24, by kernel_rfl, Tryd.ntmps24⟩
instance : Enters Tryd.prog 24 := ⟨Tryd.call24⟩
noncomputable def c25 : Code := Tryd.f25.body.getD .skip
instance : FnI Tryd.prog 25 Tryd.f25 c25 13 := ⟨Tryd.func25, by kernel_rfl, Tryd.ntmps25⟩
instance : Enters Tryd.prog 25 := ⟨Tryd.call25⟩
noncomputable def c26 : Code := Tryd.f26.body.getD .skip
instance : FnI Tryd.prog 26 Tryd.f26 c26 35 := ⟨Tryd.func26, by kernel_rfl, Tryd.ntmps26⟩
instance : Enters Tryd.prog 26 := ⟨Tryd.call26⟩
noncomputable def c27 : Code := Tryd.f27.body.getD .skip
instance : FnI Tryd.prog 27 Tryd.f27 c27 13 := ⟨Tryd.func27, by kernel_rfl, Tryd.ntmps27⟩
instance : Enters Tryd.prog 27 := ⟨Tryd.call27⟩
noncomputable def c28 : Code := Tryd.f28.body.getD .skip
instance : FnI Tryd.prog 28 Tryd.f28 c28 22 := ⟨Tryd.func28, by kernel_rfl, Tryd.ntmps28⟩
instance : Enters Tryd.prog 28 := ⟨Tryd.call28⟩
noncomputable def c29 : Code := Tryd.f29.body.getD .skip
instance : FnI Tryd.prog 29 Tryd.f29 c29 143 := ⟨Tryd.func29, by kernel_rfl, Tryd.ntmps29⟩
instance : Enters Tryd.prog 29 := ⟨Tryd.call29⟩
noncomputable def c30 : Code := Tryd.f30.body.getD .skip
instance : FnI Tryd.prog 30 Tryd.f30 c30 5 := ⟨Tryd.func30, by kernel_rfl, Tryd.ntmps30⟩
instance : Enters Tryd.prog 30 := ⟨Tryd.call30⟩
noncomputable def c31 : Code := Tryd.f31.body.getD .skip
instance : FnI Tryd.prog 31 Tryd.f31 c31 6 := ⟨Tryd.func31, by kernel_rfl, Tryd.ntmps31⟩
instance : Enters Tryd.prog 31 := ⟨Tryd.call31⟩
noncomputable def c32 : Code := Tryd.f32.body.getD .skip
instance : FnI Tryd.prog 32 Tryd.f32 c32 47 := ⟨Tryd.func32, by kernel_rfl, Tryd.ntmps32⟩
instance : Enters Tryd.prog 32 := ⟨Tryd.call32⟩
noncomputable def c33 : Code := Tryd.f33.body.getD .skip
instance : FnI Tryd.prog 33 Tryd.f33 c33 22 := ⟨Tryd.func33, by kernel_rfl, Tryd.ntmps33⟩
instance : Enters Tryd.prog 33 := ⟨Tryd.call33⟩
noncomputable def c34 : Code := Tryd.f34.body.getD .skip
instance : FnI Tryd.prog 34 Tryd.f34 c34 30 := ⟨Tryd.func34, by kernel_rfl, Tryd.ntmps34⟩
instance : Enters Tryd.prog 34 := ⟨Tryd.call34⟩
noncomputable def c35 : Code := Tryd.f35.body.getD .skip
instance : FnI Tryd.prog 35 Tryd.f35 c35 11 := ⟨Tryd.func35, by kernel_rfl, Tryd.ntmps35⟩
instance : Enters Tryd.prog 35 := ⟨Tryd.call35⟩
noncomputable def c36 : Code := Tryd.f36.body.getD .skip
instance : FnI Tryd.prog 36 Tryd.f36 c36 12 := ⟨Tryd.func36, by kernel_rfl, Tryd.ntmps36⟩
instance : Enters Tryd.prog 36 := ⟨Tryd.call36⟩
noncomputable def c37 : Code := Tryd.f37.body.getD .skip
instance : FnI Tryd.prog 37 Tryd.f37 c37 26 := ⟨Tryd.func37, by kernel_rfl, Tryd.ntmps37⟩
instance : Enters Tryd.prog 37 := ⟨Tryd.call37⟩
noncomputable def c38 : Code := Tryd.f38.body.getD .skip
instance : FnI Tryd.prog 38 Tryd.f38 c38 28 := ⟨Tryd.func38, by kernel_rfl, Tryd.ntmps38⟩
instance : Enters Tryd.prog 38 := ⟨Tryd.call38⟩
noncomputable def c39 : Code := Tryd.f39.body.getD .skip
instance : FnI Tryd.prog 39 Tryd.f39 c39 18 := ⟨Tryd.func39, by kernel_rfl, Tryd.ntmps39⟩
instance : Enters Tryd.prog 39 := ⟨Tryd.call39⟩
noncomputable def c40 : Code := Tryd.f40.body.getD .skip
instance : FnI Tryd.prog 40 Tryd.f40 c40 20 := ⟨Tryd.func40, by kernel_rfl, Tryd.ntmps40⟩
instance : Enters Tryd.prog 40 := ⟨Tryd.call40⟩
noncomputable def c41 : Code := Tryd.f41.body.getD .skip
instance : FnI Tryd.prog 41 Tryd.f41 c41 28 := ⟨Tryd.func41, by kernel_rfl, Tryd.ntmps41⟩
instance : Enters Tryd.prog 41 := ⟨Tryd.call41⟩
noncomputable def c42 : Code := Tryd.f42.body.getD .skip
instance : FnI Tryd.prog 42 Tryd.f42 c42 13 := ⟨Tryd.func42, by kernel_rfl, Tryd.ntmps42⟩
instance : Enters Tryd.prog 42 := ⟨Tryd.call42⟩
noncomputable def c43 : Code := Tryd.f43.body.getD .skip
instance : FnI Tryd.prog 43 Tryd.f43 c43 27 := ⟨Tryd.func43, by kernel_rfl, Tryd.ntmps43⟩
instance : Enters Tryd.prog 43 := ⟨Tryd.call43⟩
noncomputable def c44 : Code := Tryd.f44.body.getD .skip
instance : FnI Tryd.prog 44 Tryd.f44 c44 12 := ⟨Tryd.func44, by kernel_rfl, Tryd.ntmps44⟩
instance : Enters Tryd.prog 44 := ⟨Tryd.call44⟩
noncomputable def c45 : Code := Tryd.f45.body.getD .skip
instance : FnI Tryd.prog 45 Tryd.f45 c45 64 := ⟨Tryd.func45, by kernel_rfl, Tryd.ntmps45⟩
instance : Enters Tryd.prog 45 := ⟨Tryd.call45⟩
noncomputable def c46 : Code := Tryd.f46.body.getD .skip
instance : FnI Tryd.prog 46 Tryd.f46 c46 51 := ⟨Tryd.func46, by kernel_rfl, Tryd.ntmps46⟩
instance : Enters Tryd.prog 46 := ⟨Tryd.call46⟩
noncomputable def c47 : Code := Tryd.f47.body.getD .skip
instance : FnI Tryd.prog 47 Tryd.f47 c47 19 := ⟨Tryd.func47, by kernel_rfl, Tryd.ntmps47⟩
instance : Enters Tryd.prog 47 := ⟨Tryd.call47⟩
noncomputable def c48 : Code := Tryd.f48.body.getD .skip
instance : FnI Tryd.prog 48 Tryd.f48 c48 38 := ⟨Tryd.func48, by kernel_rfl, Tryd.ntmps48⟩
instance : Enters Tryd.prog 48 := ⟨Tryd.call48⟩
noncomputable def c49 : Code := Tryd.f49.body.getD .skip
instance : FnI Tryd.prog 49 Tryd.f49 c49 6 := ⟨Tryd.func49, by kernel_rfl, Tryd.ntmps49⟩
instance : Enters Tryd.prog 49 := ⟨Tryd.call49⟩
noncomputable def c50 : Code := Tryd.f50.body.getD .skip
instance : FnI Tryd.prog 50 Tryd.f50 c50 40 := ⟨Tryd.func50, by kernel_rfl, Tryd.ntmps50⟩
instance : Enters Tryd.prog 50 := ⟨Tryd.call50⟩
noncomputable def c51 : Code := Tryd.f51.body.getD .skip
instance : FnI Tryd.prog 51 Tryd.f51 c51 15 := ⟨Tryd.func51, by kernel_rfl, Tryd.ntmps51⟩
instance : Enters Tryd.prog 51 := ⟨Tryd.call51⟩
noncomputable def c52 : Code := Tryd.f52.body.getD .skip
instance : FnI Tryd.prog 52 Tryd.f52 c52 51 := ⟨Tryd.func52, by kernel_rfl, Tryd.ntmps52⟩
instance : Enters Tryd.prog 52 := ⟨Tryd.call52⟩
noncomputable def c53 : Code := Tryd.f53.body.getD .skip
instance : FnI Tryd.prog 53 Tryd.f53 c53 15 := ⟨Tryd.func53, by kernel_rfl, Tryd.ntmps53⟩
instance : Enters Tryd.prog 53 := ⟨Tryd.call53⟩
noncomputable def c54 : Code := Tryd.f54.body.getD .skip
instance : FnI Tryd.prog 54 Tryd.f54 c54 22 := ⟨Tryd.func54, by kernel_rfl, Tryd.ntmps54⟩
instance : Enters Tryd.prog 54 := ⟨Tryd.call54⟩
noncomputable def c55 : Code := Tryd.f55.body.getD .skip
instance : FnI Tryd.prog 55 Tryd.f55 c55 22 := ⟨Tryd.func55, by kernel_rfl, Tryd.ntmps55⟩
instance : Enters Tryd.prog 55 := ⟨Tryd.call55⟩
noncomputable def c56 : Code := Tryd.f56.body.getD .skip
instance : FnI Tryd.prog 56 Tryd.f56 c56 13 := ⟨Tryd.func56, by kernel_rfl, Tryd.ntmps56⟩
instance : Enters Tryd.prog 56 := ⟨Tryd.call56⟩
noncomputable def c57 : Code := Tryd.f57.body.getD .skip
instance : FnI Tryd.prog 57 Tryd.f57 c57 31 := ⟨Tryd.func57, by kernel_rfl, Tryd.ntmps57⟩
instance : Enters Tryd.prog 57 := ⟨Tryd.call57⟩
noncomputable def c58 : Code := Tryd.f58.body.getD .skip
instance : FnI Tryd.prog 58 Tryd.f58 c58 20 := ⟨Tryd.func58, by kernel_rfl, Tryd.ntmps58⟩
instance : Enters Tryd.prog 58 := ⟨Tryd.call58⟩
noncomputable def c59 : Code := Tryd.f59.body.getD .skip
instance : FnI Tryd.prog 59 Tryd.f59 c59 9 := ⟨Tryd.func59, by kernel_rfl, Tryd.ntmps59⟩
instance : Enters Tryd.prog 59 := ⟨Tryd.call59⟩
noncomputable def c60 : Code := Tryd.f60.body.getD .skip
instance : FnI Tryd.prog 60 Tryd.f60 c60 13 := ⟨Tryd.func60, by kernel_rfl, Tryd.ntmps60⟩
instance : Enters Tryd.prog 60 := ⟨Tryd.call60⟩
noncomputable def c61 : Code := Tryd.f61.body.getD .skip
instance : FnI Tryd.prog 61 Tryd.f61 c61 15 := ⟨Tryd.func61, by kernel_rfl, Tryd.ntmps61⟩
instance : Enters Tryd.prog 61 := ⟨Tryd.call61⟩
noncomputable def c62 : Code := Tryd.f62.body.getD .skip
instance : FnI Tryd.prog 62 Tryd.f62 c62 27 := ⟨Tryd.func62, by kernel_rfl, Tryd.ntmps62⟩
instance : Enters Tryd.prog 62 := ⟨Tryd.call62⟩
noncomputable def c63 : Code := Tryd.f63.body.getD .skip
instance : FnI Tryd.prog 63 Tryd.f63 c63 13 := ⟨Tryd.func63, by kernel_rfl, Tryd.ntmps63⟩
instance : Enters Tryd.prog 63 := ⟨Tryd.call63⟩
noncomputable def c64 : Code := Tryd.f64.body.getD .skip
instance : FnI Tryd.prog 64 Tryd.f64 c64 6 := ⟨Tryd.func64, by kernel_rfl, Tryd.ntmps64⟩
instance : Enters Tryd.prog 64 := ⟨Tryd.call64⟩
noncomputable def c65 : Code := Tryd.f65.body.getD .skip
instance : FnI Tryd.prog 65 Tryd.f65 c65 52 := ⟨Tryd.func65, by kernel_rfl, Tryd.ntmps65⟩
instance : Enters Tryd.prog 65 := ⟨Tryd.call65⟩
noncomputable def c66 : Code := Tryd.f66.body.getD .skip
instance : FnI Tryd.prog 66 Tryd.f66 c66 23 := ⟨Tryd.func66, by kernel_rfl, Tryd.ntmps66⟩
instance : Enters Tryd.prog 66 := ⟨Tryd.call66⟩
noncomputable def c67 : Code := Tryd.f67.body.getD .skip
instance : FnI Tryd.prog 67 Tryd.f67 c67 21 := ⟨Tryd.func67, by kernel_rfl, Tryd.ntmps67⟩
instance : Enters Tryd.prog 67 := ⟨Tryd.call67⟩
noncomputable def c68 : Code := Tryd.f68.body.getD .skip
instance : FnI Tryd.prog 68 Tryd.f68 c68 14 := ⟨Tryd.func68, by kernel_rfl, Tryd.ntmps68⟩
instance : Enters Tryd.prog 68 := ⟨Tryd.call68⟩
noncomputable def c69 : Code := Tryd.f69.body.getD .skip
instance : FnI Tryd.prog 69 Tryd.f69 c69 35 := ⟨Tryd.func69, by kernel_rfl, Tryd.ntmps69⟩
instance : Enters Tryd.prog 69 := ⟨Tryd.call69⟩
noncomputable def c70 : Code := Tryd.f70.body.getD .skip
instance : FnI Tryd.prog 70 Tryd.f70 c70 85 := ⟨Tryd.func70, by kernel_rfl, Tryd.ntmps70⟩
instance : Enters Tryd.prog 70 := ⟨Tryd.call70⟩
noncomputable def c71 : Code := Tryd.f71.body.getD .skip
instance : FnI Tryd.prog 71 Tryd.f71 c71 97 := ⟨Tryd.func71, by kernel_rfl, Tryd.ntmps71⟩
instance : Enters Tryd.prog 71 := ⟨Tryd.call71⟩
noncomputable def c72 : Code := Tryd.f72.body.getD .skip
instance : FnI Tryd.prog 72 Tryd.f72 c72 11 := ⟨Tryd.func72, by kernel_rfl, Tryd.ntmps72⟩
instance : Enters Tryd.prog 72 := ⟨Tryd.call72⟩
noncomputable def c73 : Code := Tryd.f73.body.getD .skip
instance : FnI Tryd.prog 73 Tryd.f73 c73 9 := ⟨Tryd.func73, by kernel_rfl, Tryd.ntmps73⟩
instance : Enters Tryd.prog 73 := ⟨Tryd.call73⟩
noncomputable def c74 : Code := Tryd.f74.body.getD .skip
instance : FnI Tryd.prog 74 Tryd.f74 c74 6 := ⟨Tryd.func74, by kernel_rfl, Tryd.ntmps74⟩
instance : Enters Tryd.prog 74 := ⟨Tryd.call74⟩
noncomputable def c75 : Code := Tryd.f75.body.getD .skip
instance : FnI Tryd.prog 75 Tryd.f75 c75 13 := ⟨Tryd.func75, by kernel_rfl, Tryd.ntmps75⟩
instance : Enters Tryd.prog 75 := ⟨Tryd.call75⟩
noncomputable def c76 : Code := Tryd.f76.body.getD .skip
instance : FnI Tryd.prog 76 Tryd.f76 c76 21 := ⟨Tryd.func76, by kernel_rfl, Tryd.ntmps76⟩
instance : Enters Tryd.prog 76 := ⟨Tryd.call76⟩
noncomputable def c77 : Code := Tryd.f77.body.getD .skip
instance : FnI Tryd.prog 77 Tryd.f77 c77 6 := ⟨Tryd.func77, by kernel_rfl, Tryd.ntmps77⟩
instance : Enters Tryd.prog 77 := ⟨Tryd.call77⟩
noncomputable def c78 : Code := Tryd.f78.body.getD .skip
instance : FnI Tryd.prog 78 Tryd.f78 c78 22 := ⟨Tryd.func78, by kernel_rfl, Tryd.ntmps78⟩
instance : Enters Tryd.prog 78 := ⟨Tryd.call78⟩
noncomputable def c79 : Code := Tryd.f79.body.getD .skip
instance : FnI Tryd.prog 79 Tryd.f79 c79 75 := ⟨Tryd.func79, by kernel_rfl, Tryd.ntmps79⟩
instance : Enters Tryd.prog 79 := ⟨Tryd.call79⟩
noncomputable def c80 : Code := Tryd.f80.body.getD .skip
instance : FnI Tryd.prog 80 Tryd.f80 c80 6 := ⟨Tryd.func80, by kernel_rfl, Tryd.ntmps80⟩
instance : Enters Tryd.prog 80 := ⟨Tryd.call80⟩
noncomputable def c81 : Code := Tryd.f81.body.getD .skip
instance : FnI Tryd.prog 81 Tryd.f81 c81 19 := ⟨Tryd.func81, by kernel_rfl, Tryd.ntmps81⟩
instance : Enters Tryd.prog 81 := ⟨Tryd.call81⟩
noncomputable def c82 : Code := Tryd.f82.body.getD .skip
instance : FnI Tryd.prog 82 Tryd.f82 c82 8 := ⟨Tryd.func82, by kernel_rfl, Tryd.ntmps82⟩
instance : Enters Tryd.prog 82 := ⟨Tryd.call82⟩
noncomputable def c83 : Code := Tryd.f83.body.getD .skip
instance : FnI Tryd.prog 83 Tryd.f83 c83 9 := ⟨Tryd.func83, by kernel_rfl, Tryd.ntmps83⟩
instance : Enters Tryd.prog 83 := ⟨Tryd.call83⟩
noncomputable def c84 : Code := Tryd.f84.body.getD .skip
instance : FnI Tryd.prog 84 Tryd.f84 c84 9 := ⟨Tryd.func84, by kernel_rfl, Tryd.ntmps84⟩
instance : Enters Tryd.prog 84 := ⟨Tryd.call84⟩
noncomputable def c85 : Code := Tryd.f85.body.getD .skip
instance : FnI Tryd.prog 85 Tryd.f85 c85 13 := ⟨Tryd.func85, by kernel_rfl, Tryd.ntmps85⟩
instance : Enters Tryd.prog 85 := ⟨Tryd.call85⟩
noncomputable def c86 : Code := Tryd.f86.body.getD .skip
instance : FnI Tryd.prog 86 Tryd.f86 c86 114 := ⟨Tryd.func86, by kernel_rfl, Tryd.ntmps86⟩
instance : Enters Tryd.prog 86 := ⟨Tryd.call86⟩
noncomputable def c87 : Code := Tryd.f87.body.getD .skip
instance : FnI Tryd.prog 87 Tryd.f87 c87 50 := ⟨Tryd.func87, by kernel_rfl, Tryd.ntmps87⟩
instance : Enters Tryd.prog 87 := ⟨Tryd.call87⟩
noncomputable def c88 : Code := Tryd.f88.body.getD .skip
instance : FnI Tryd.prog 88 Tryd.f88 c88 70 := ⟨Tryd.func88, by kernel_rfl, Tryd.ntmps88⟩
instance : Enters Tryd.prog 88 := ⟨Tryd.call88⟩
noncomputable def c89 : Code := Tryd.f89.body.getD .skip
instance : FnI Tryd.prog 89 Tryd.f89 c89 86 := ⟨Tryd.func89, by kernel_rfl, Tryd.ntmps89⟩
instance : Enters Tryd.prog 89 := ⟨Tryd.call89⟩
noncomputable def c90 : Code := Tryd.f90.body.getD .skip
instance : FnI Tryd.prog 90 Tryd.f90 c90 13 := ⟨Tryd.func90, by kernel_rfl, Tryd.ntmps90⟩
instance : Enters Tryd.prog 90 := ⟨Tryd.call90⟩
noncomputable def c91 : Code := Tryd.f91.body.getD .skip
instance : FnI Tryd.prog 91 Tryd.f91 c91 19 := ⟨Tryd.func91, by kernel_rfl, Tryd.ntmps91⟩
instance : Enters Tryd.prog 91 := ⟨Tryd.call91⟩
noncomputable def c92 : Code := Tryd.f92.body.getD .skip
instance : FnI Tryd.prog 92 Tryd.f92 c92 9 := ⟨Tryd.func92, by kernel_rfl, Tryd.ntmps92⟩
instance : Enters Tryd.prog 92 := ⟨Tryd.call92⟩
noncomputable def c93 : Code := Tryd.f93.body.getD .skip
instance : FnI Tryd.prog 93 Tryd.f93 c93 61 := ⟨Tryd.func93, by kernel_rfl, Tryd.ntmps93⟩
instance : Enters Tryd.prog 93 := ⟨Tryd.call93⟩
noncomputable def c94 : Code := Tryd.f94.body.getD .skip
instance : FnI Tryd.prog 94 Tryd.f94 c94 25 := ⟨Tryd.func94, by kernel_rfl, Tryd.ntmps94⟩
instance : Enters Tryd.prog 94 := ⟨Tryd.call94⟩
noncomputable def c95 : Code := Tryd.f95.body.getD .skip
instance : FnI Tryd.prog 95 Tryd.f95 c95 19 := ⟨Tryd.func95, by kernel_rfl, Tryd.ntmps95⟩
instance : Enters Tryd.prog 95 := ⟨Tryd.call95⟩
noncomputable def c96 : Code := Tryd.f96.body.getD .skip
instance : FnI Tryd.prog 96 Tryd.f96 c96 14 := ⟨Tryd.func96, by kernel_rfl, Tryd.ntmps96⟩
instance : Enters Tryd.prog 96 := ⟨Tryd.call96⟩
noncomputable def c97 : Code := Tryd.f97.body.getD .skip
instance : FnI Tryd.prog 97 Tryd.f97 c97 66 := ⟨Tryd.func97, by kernel_rfl, Tryd.ntmps97⟩
instance : Enters Tryd.prog 97 := ⟨Tryd.call97⟩
noncomputable def c98 : Code := Tryd.f98.body.getD .skip
instance : FnI Tryd.prog 98 Tryd.f98 c98 19 := ⟨Tryd.func98, by kernel_rfl, Tryd.ntmps98⟩
instance : Enters Tryd.prog 98 := ⟨Tryd.call98⟩
noncomputable def c99 : Code := Tryd.f99.body.getD .skip
instance : FnI Tryd.prog 99 Tryd.f99 c99 13 := ⟨Tryd.func99, by kernel_rfl, Tryd.ntmps99⟩
instance : Enters Tryd.prog 99 := ⟨Tryd.call99⟩
noncomputable def c100 : Code := Tryd.f100.body.getD .skip
instance : FnI Tryd.prog 100 Tryd.f100 c100 22 := ⟨Tryd.func100, by kernel_rfl, Tryd.ntmps100⟩
instance : Enters Tryd.prog 100 := ⟨Tryd.call100⟩
noncomputable def c101 : Code := Tryd.f101.body.getD .skip
instance : FnI Tryd.prog 101 Tryd.f101 c101 121 := ⟨Tryd.func101, by kernel_rfl, Tryd.ntmps101⟩
instance : Enters Tryd.prog 101 := ⟨Tryd.call101⟩
noncomputable def c102 : Code := Tryd.f102.body.getD .skip
instance : FnI Tryd.prog 102 Tryd.f102 c102 9 := ⟨Tryd.func102, by kernel_rfl, Tryd.ntmps102⟩
instance : Enters Tryd.prog 102 := ⟨Tryd.call102⟩
noncomputable def c103 : Code := Tryd.f103.body.getD .skip
instance : FnI Tryd.prog 103 Tryd.f103 c103 8 := ⟨Tryd.func103, by kernel_rfl, Tryd.ntmps103⟩
instance : Enters Tryd.prog 103 := ⟨Tryd.call103⟩
noncomputable def c104 : Code := Tryd.f104.body.getD .skip
instance : FnI Tryd.prog 104 Tryd.f104 c104 20 := ⟨Tryd.func104, by kernel_rfl, Tryd.ntmps104⟩
instance : Enters Tryd.prog 104 := ⟨Tryd.call104⟩
noncomputable def c105 : Code := Tryd.f105.body.getD .skip
instance : FnI Tryd.prog 105 Tryd.f105 c105 30 := ⟨Tryd.func105, by kernel_rfl, Tryd.ntmps105⟩
instance : Enters Tryd.prog 105 := ⟨Tryd.call105⟩
noncomputable def c106 : Code := Tryd.f106.body.getD .skip
instance : FnI Tryd.prog 106 Tryd.f106 c106 50 := ⟨Tryd.func106, by kernel_rfl, Tryd.ntmps106⟩
instance : Enters Tryd.prog 106 := ⟨Tryd.call106⟩
noncomputable def c107 : Code := Tryd.f107.body.getD .skip
instance : FnI Tryd.prog 107 Tryd.f107 c107 34 := ⟨Tryd.func107, by kernel_rfl, Tryd.ntmps107⟩
instance : Enters Tryd.prog 107 := ⟨Tryd.call107⟩
noncomputable def c108 : Code := Tryd.f108.body.getD .skip
instance : FnI Tryd.prog 108 Tryd.f108 c108 8 := ⟨Tryd.func108, by kernel_rfl, Tryd.ntmps108⟩
instance : Enters Tryd.prog 108 := ⟨Tryd.call108⟩
noncomputable def c109 : Code := Tryd.f109.body.getD .skip
instance : FnI Tryd.prog 109 Tryd.f109 c109 42 := ⟨Tryd.func109, by kernel_rfl, Tryd.ntmps109⟩
instance : Enters Tryd.prog 109 := ⟨Tryd.call109⟩
noncomputable def c110 : Code := Tryd.f110.body.getD .skip
instance : FnI Tryd.prog 110 Tryd.f110 c110 5 := ⟨Tryd.func110, by kernel_rfl, Tryd.ntmps110⟩
instance : Enters Tryd.prog 110 := ⟨Tryd.call110⟩
noncomputable def c111 : Code := Tryd.f111.body.getD .skip
instance : FnI Tryd.prog 111 Tryd.f111 c111 19 := ⟨Tryd.func111, by kernel_rfl, Tryd.ntmps111⟩
instance : Enters Tryd.prog 111 := ⟨Tryd.call111⟩
noncomputable def c114 : Code := Tryd.f114.body.getD .skip
instance : FnI Tryd.prog 114 Tryd.f114 c114 10 := ⟨Tryd.func114, by kernel_rfl, Tryd.ntmps114⟩
instance : Enters Tryd.prog 114 := ⟨Tryd.call114⟩
noncomputable def c115 : Code := Tryd.f115.body.getD .skip
instance : FnI Tryd.prog 115 Tryd.f115 c115 19 := ⟨Tryd.func115, by kernel_rfl, Tryd.ntmps115⟩
instance : Enters Tryd.prog 115 := ⟨Tryd.call115⟩
noncomputable def c117 : Code := Tryd.f117.body.getD .skip
instance : FnI Tryd.prog 117 Tryd.f117 c117 143 := ⟨Tryd.func117, by kernel_rfl, Tryd.ntmps117⟩
instance : Enters Tryd.prog 117 := ⟨Tryd.call117⟩
noncomputable def c118 : Code := Tryd.f118.body.getD .skip
instance : FnI Tryd.prog 118 Tryd.f118 c118 117 := ⟨Tryd.func118, by kernel_rfl, Tryd.ntmps118⟩
instance : Enters Tryd.prog 118 := ⟨Tryd.call118⟩
noncomputable def c119 : Code := Tryd.f119.body.getD .skip
instance : FnI Tryd.prog 119 Tryd.f119 c119 8 := ⟨Tryd.func119, by kernel_rfl, Tryd.ntmps119⟩
instance : Enters Tryd.prog 119 := ⟨Tryd.call119⟩
noncomputable def c121 : Code := Tryd.f121.body.getD .skip
instance : FnI Tryd.prog 121 Tryd.f121 c121 6 := ⟨Tryd.func121, by kernel_rfl, Tryd.ntmps121⟩
instance : Enters Tryd.prog 121 := ⟨Tryd.call121⟩
noncomputable def c122 : Code := Tryd.f122.body.getD .skip
instance : FnI Tryd.prog 122 Tryd.f122 c122 81 := ⟨Tryd.func122, by kernel_rfl, Tryd.ntmps122⟩
instance : Enters Tryd.prog 122 := ⟨Tryd.call122⟩
noncomputable def c124 : Code := Tryd.f124.body.getD .skip
instance : FnI Tryd.prog 124 Tryd.f124 c124 39 := ⟨Tryd.func124, by kernel_rfl, Tryd.ntmps124⟩
instance : Enters Tryd.prog 124 := ⟨Tryd.call124⟩
noncomputable def c142 : Code := Tryd.f142.body.getD .skip
instance : FnI Tryd.prog 142 Tryd.f142 c142 19 := ⟨Tryd.func142, by kernel_rfl, Tryd.ntmps142⟩
instance : Enters Tryd.prog 142 := ⟨Tryd.call142⟩
noncomputable def c145 : Code := Tryd.f145.body.getD .skip
instance : FnI Tryd.prog 145 Tryd.f145 c145 10 := ⟨Tryd.func145, by kernel_rfl, Tryd.ntmps145⟩
instance : Enters Tryd.prog 145 := ⟨Tryd.call145⟩
noncomputable def c146 : Code := Tryd.f146.body.getD .skip
instance : FnI Tryd.prog 146 Tryd.f146 c146 10 := ⟨Tryd.func146, by kernel_rfl, Tryd.ntmps146⟩
instance : Enters Tryd.prog 146 := ⟨Tryd.call146⟩
noncomputable def c147 : Code := Tryd.f147.body.getD .skip
instance : FnI Tryd.prog 147 Tryd.f147 c147 17 := ⟨Tryd.func147, by kernel_rfl, Tryd.ntmps147⟩
instance : Enters Tryd.prog 147 := ⟨Tryd.call147⟩
noncomputable def c148 : Code := Tryd.f148.body.getD .skip
instance : FnI Tryd.prog 148 Tryd.f148 c148 7 := ⟨Tryd.func148, by kernel_rfl, Tryd.ntmps148⟩
instance : Enters Tryd.prog 148 := ⟨Tryd.call148⟩
noncomputable def c149 : Code := Tryd.f149.body.getD .skip
instance : FnI Tryd.prog 149 Tryd.f149 c149 5 := ⟨Tryd.func149, by kernel_rfl, Tryd.ntmps149⟩
instance : Enters Tryd.prog 149 := ⟨Tryd.call149⟩
noncomputable def c150 : Code := Tryd.f150.body.getD .skip
instance : FnI Tryd.prog 150 Tryd.f150 c150 7 := ⟨Tryd.func150, by kernel_rfl, Tryd.ntmps150⟩
instance : Enters Tryd.prog 150 := ⟨Tryd.call150⟩
noncomputable def c151 : Code := Tryd.f151.body.getD .skip
instance : FnI Tryd.prog 151 Tryd.f151 c151 8 := ⟨Tryd.func151, by kernel_rfl, Tryd.ntmps151⟩
instance : Enters Tryd.prog 151 := ⟨Tryd.call151⟩
noncomputable def c152 : Code := Tryd.f152.body.getD .skip
instance : FnI Tryd.prog 152 Tryd.f152 c152 12 := ⟨Tryd.func152, by kernel_rfl, Tryd.ntmps152⟩
instance : Enters Tryd.prog 152 := ⟨Tryd.call152⟩
noncomputable def c153 : Code := Tryd.f153.body.getD .skip
instance : FnI Tryd.prog 153 Tryd.f153 c153 7 := ⟨Tryd.func153, by kernel_rfl, Tryd.ntmps153⟩
instance : Enters Tryd.prog 153 := ⟨Tryd.call153⟩
end Go.Proofs.YtgmgiepdehlinaaDoor

/- cmp.Compare of integers. -/
namespace Go.Proofs.YtgmgiepdehlinaaDoor
open Go.RowKit

/-! ### cmp.Compare -/
theorem isNaN_cmp (x : Int) (w : World) : Ct Tryd.prog 80 [.int .i64 x] w fun v _ => v = .bool false := by
  refine Ct.ofW (by simp) ?_
  (refine jjB ?_; refine jjC ?_; apply jJ; exact eB rfl; refine jz ?_; refine jjB ?_; refine jjC ?_; apply jI; exact eI rfl; apply jI; exact eI rfl; refine jc rfl rfl ?_; apply jJ; exact eB rfl; refine jz ?_; refine jjF ?_; refine jB rfl rfl ⟨inferInstance, ?_⟩)
  exact congrArg Value.bool (by simp)
theorem Compare_int (x y : Int) (w : World) : Ct Tryd.prog 58 [.int .i64 x, .int .i64 y] w fun v _ => v = .int .i64 (if x < y then -1 else if y < x then 1 else 0) := by
  refine Ct.ofW (by simp) ?_
  (refine jjB ?_; refine jjC ?_; apply jJ; exact eI rfl; refine jz ?_; refine jjB ?_; refine jjC ?_; apply jI; exact eI rfl)
  refine jjQ (isNaN_cmp x _) rfl rfl ?_
  rintro _ w2 hS2 rfl
  (apply jJ; exact eB rfl; refine jz ?_; refine jjB ?_; refine jjC ?_; apply jI; exact eI rfl)
  refine jjQ (isNaN_cmp y _) rfl rfl ?_
  rintro _ w3 hS3 rfl
  repeat' (first|((first|apply jI|apply jJ); (first|exact eI rfl|exact eB rfl))|(refine jW ?_; (first|refine jX rfl rfl ?_|refine je rfl rfl ?_))|refine jz ?_|(refine jjA ?_; (first|refine jjB ?_|refine jjC ?_|refine jjF ?_|refine jjG ?_|refine jjK rfl ?_))|(refine jjA ?_; (refine jjN rfl ?_ ?_ <;> intro _))|refine jB rfl rfl ⟨inferInstance, ?_⟩)
  · rw [if_pos ‹_›]; exact rfl
  · rw [if_neg ‹_›, if_pos ‹_›]; exact rfl
  · rw [if_neg ‹_›, if_neg ‹_›]; exact rfl
end Go.Proofs.YtgmgiepdehlinaaDoor

/- The order of places: cmp.Or, slip.places; the reference: Before. -/
namespace Go.Proofs.YtgmgiepdehlinaaDoor
open Go.RowKit

abbrev Pl := Int × Int × Int
abbrev encPl (p : Pl) : Value := .agg #[.int .i64 p.1, .int .i64 p.2.1, .int .i64 p.2.2]
/-- The first number that is not 0. -/
def orF : List Int → Int
  | [] => 0
  | x :: l => if x = 0 then orF l else x
def cmp1 (x y : Int) : Int := if x < y then -1 else if y < x then 1 else 0
def cmpP (a b : Pl) : Int := orF [cmp1 a.1 b.1, cmp1 a.2.1 b.2.1, cmp1 a.2.2 b.2.2]
def befP (a b : Pl) : Bool := if a.1 ≠ b.1 then decide (a.1 < b.1) else if a.2.1 ≠ b.2.1 then decide (a.2.1 < b.2.1) else decide (a.2.2 < b.2.2)
theorem orF_drop {l : List Int} : ∀ {k : Nat}, (∀ (j : Nat) (hj : j < l.length), j < k → l[j] = 0) → orF l = orF (l.drop k) := by
  intro k
  induction k with
  | zero => intro _; rfl
  | succ k ih =>
    intro h
    rw [ih fun j hj hk => h j hj (by omega)]
    by_cases hk : k < l.length
    · rw [List.drop_eq_getElem_cons hk, orF, if_pos (h k hk (by omega))]
    · rw [List.drop_of_length_le (by omega), List.drop_of_length_le (by omega)]
theorem cmp1_neg (x y : Int) : cmp1 x y < 0 ↔ x < y := by unfold cmp1; split <;> (try split) <;> omega
theorem cmpP_neg (a b : Pl) : decide (cmpP a b < 0) = befP a b := by
  unfold cmpP befP orF orF orF orF cmp1
  repeat' split
  all_goals (first | rfl | (simp only [decide_eq_decide]; omega) | (exfalso; omega) | (simp; omega))
theorem cmpP_pos (a b : Pl) : decide (0 < cmpP a b) = befP b a := by
  unfold cmpP befP orF orF orF orF cmp1
  repeat' split
  all_goals (first | rfl | (simp only [decide_eq_decide]; omega) | (exfalso; omega) | (simp; omega))

theorem Or_int (a : Option Addr) (c n : Nat) (l : List Int) (w : World) (hn : l.length = n) (hrow : RowV w false 1 (.slice a n c) (l.map intV)) : Ct Tryd.prog 39 [.slice a n c] w fun v _ => v = .int .i64 (orF l) := by
  subst hn
  have hI : RowI w (.slice a l.length c) false 1 (l.map intV) := ⟨hrow⟩
  have hlen := hrow.len
  rw [List.length_map] at hlen
  refine Ct.ofW (by simp) ?_
  (refine jjB ?_; refine jjC ?_; apply jJ; exact eI rfl; refine jz ?_; refine jjB ?_; refine jjC ?_; apply jJ; exact eI rfl; refine jz ?_; refine jjB ?_; refine jjB ?_; refine jjC ?_; apply jI; exact eS rfl; refine jh rfl ?_; apply jI; exact eI rfl; refine jz ?_; refine jjD ?_)
  refine W.keep0 [(3, .int .i64 (0 : Int)), (6, .slice a l.length c), (7, .int .i64 ((l.length : Nat) : Int)), (8, .int .i64 ((0 : Nat) : Int))] ⟨eI rfl, eS rfl, eI rfl, eI rfl, trivial⟩ fun s0 => ?_
  refine W.loop (9 :: 10 :: 11 :: 5 :: 12 :: 13 :: 14 :: 15 :: 2 :: 16 :: 8 :: []) (fun g s' V => ∃ k : Nat, s' 8 = .int .i64 ((k : Nat) : Int) ∧ g = l.length - k ∧ k ≤ l.length ∧ ∀ (j : Nat) (hj : j < l.length), j < k → l[j] = 0) l.length ⟨0, rfl, rfl, Nat.zero_le _, by intros; omega⟩ ?_
  rintro _ sd w1 hS1 ⟨k, h8, rfl, hk, hpre⟩
  refine W.fix h8 ?_
  clear h8
  by_cases hkl : k < l.length
  · by_cases h0 : l[k] = 0
    · (refine jjB ?_; refine jjC ?_; refine jjZ rfl rfl (by omega) ?_; refine jz ?_; refine jjB ?_; refine jjJ rfl ?_; refine jjG ?_; refine jjB ?_; refine jjD ?_; refine jjB ?_; refine jjC ?_; refine jF rfl rfl rfl (map_get (by omega)) ?_; intro _ _ _; refine jQ rfl rfl ?_; apply jJ; exact eI rfl; refine jz ?_; refine jjB ?_; refine jjC ?_; apply jI; exact eI rfl; apply jI; exact eI rfl; refine jjk rfl rfl (by omega) ?_; refine jz ?_; refine jjK rfl ?_; refine jjG ?_; refine jjC ?_; refine jY rfl rfl (by omega) ?_; apply jI; exact eI rfl; refine jz ?_)
      refine ⟨rfl, by ((refine Same.upd rfl ?_; refine Same.upd rfl ?_; refine Same.upd rfl ?_; refine Same.upd rfl ?_; refine Same.upd rfl ?_; refine Same.upd rfl ?_; refine Same.upd rfl ?_; refine Same.upd rfl ?_; refine Same.upd rfl ?_; refine Same.upd rfl ?_; exact Same.ovN)), l.length - (k + 1), by omega, inferInstance, k + 1, congrArg (Value.int .i64) (by omega), rfl, by omega, fun j hj hjk => ?_⟩
      by_cases e : j = k
      · subst e; exact h0
      · exact hpre j hj (by omega)
    · (refine jjB ?_; refine jjC ?_; refine jjZ rfl rfl (by omega) ?_; refine jz ?_; refine jjB ?_; refine jjJ rfl ?_; refine jjG ?_; refine jjB ?_; refine jjD ?_; refine jjB ?_; refine jjC ?_; refine jF rfl rfl rfl (map_get (by omega)) ?_; intro _ _ _; refine jQ rfl rfl ?_; apply jJ; exact eI rfl; refine jz ?_; refine jjB ?_; refine jjC ?_; apply jI; exact eI rfl; apply jI; exact eI rfl; refine jjj rfl rfl (by omega) ?_; refine jz ?_; refine jjJ rfl ?_; refine jjB ?_; refine jjC ?_; apply jI; exact eI rfl; apply jJ; exact eI rfl; refine jz ?_; refine jjF ?_; refine jB rfl rfl ⟨inferInstance, ?_⟩)
      rw [orF_drop hpre, List.drop_eq_getElem_cons hkl, orF, if_neg h0]; exact rfl
  · (refine jjB ?_; refine jjC ?_; refine jja rfl rfl (by omega) ?_; refine jz ?_; refine jjB ?_; refine jjK rfl ?_; refine jjE ?_; refine jjB ?_; refine jjC ?_; apply jI; exact eI rfl; apply jJ; exact eI rfl; refine jz ?_; refine jjF ?_; refine jB rfl rfl ⟨inferInstance, ?_⟩)
    rw [orF_drop hpre, List.drop_of_length_le (by omega), orF]; exact rfl

theorem Before_ref1 (a b : Pl) (w : World) : Ct Tryd.prog 34 [encPl a, encPl b] w fun v _ => v = .bool (befP a b) := by
  refine Ct.ofW (by simp) ?_
  (refine jjB ?_; refine jjC ?_)
  (refine jy rfl ?_; intro b1 w_b1 hb_b1 hs_b1 hS_b1 hk_b1; have hA_b1 := At.ofBlock hk_b1)
  skip
  (refine jy rfl ?_; intro b2 w_b2 hb_b2 hs_b2 hS_b2 hk_b2; have hA_b2 := At.ofBlock hk_b2)
  by_cases h1 : a.1 = b.1
  rotate_left
  · (apply jJ; exact eB rfl; refine jz ?_; refine jjB ?_; refine jjB ?_; refine jjC ?_; refine jm ?_; refine jn rfl ?_; refine jN rfl rfl rfl ?_; refine jm ?_; refine jn rfl ?_; refine jN rfl rfl rfl ?_; refine jjj rfl rfl (by omega) ?_; refine jz ?_; refine jjJ rfl ?_; refine jjB ?_; refine jjC ?_; refine jm ?_; refine jn rfl ?_; refine jN rfl rfl rfl ?_; refine jm ?_; refine jn rfl ?_; refine jN rfl rfl rfl ?_; refine jX rfl rfl ?_; apply jJ; exact eB rfl; refine jz ?_; refine jjF ?_; refine jB rfl rfl ⟨inferInstance, ?_⟩)
    rw [befP, if_pos h1]; exact rfl
  by_cases h2 : a.2.1 = b.2.1
  · (apply jJ; exact eB rfl; refine jz ?_; refine jjB ?_; refine jjB ?_; refine jjC ?_; refine jm ?_; refine jn rfl ?_; refine jN rfl rfl rfl ?_; refine jm ?_; refine jn rfl ?_; refine jN rfl rfl rfl ?_; refine jjk rfl rfl (by omega) ?_; refine jz ?_; refine jjK rfl ?_; refine jjG ?_; refine jjB ?_; refine jjB ?_; refine jjC ?_; refine jm ?_; refine jn rfl ?_; refine jN rfl rfl rfl ?_; refine jm ?_; refine jn rfl ?_; refine jN rfl rfl rfl ?_; refine jjk rfl rfl (by omega) ?_; refine jz ?_; refine jjK rfl ?_; refine jjG ?_; refine jjB ?_; refine jjC ?_; refine jm ?_; refine jn rfl ?_; refine jN rfl rfl rfl ?_; refine jm ?_; refine jn rfl ?_; refine jN rfl rfl rfl ?_; refine jX rfl rfl ?_; apply jJ; exact eB rfl; refine jz ?_; refine jjF ?_; refine jB rfl rfl ⟨inferInstance, ?_⟩)
    rw [befP, if_neg (by simp [h1]), if_neg (by simp [h2])]; exact rfl
  · (apply jJ; exact eB rfl; refine jz ?_; refine jjB ?_; refine jjB ?_; refine jjC ?_; refine jm ?_; refine jn rfl ?_; refine jN rfl rfl rfl ?_; refine jm ?_; refine jn rfl ?_; refine jN rfl rfl rfl ?_; refine jjk rfl rfl (by omega) ?_; refine jz ?_; refine jjK rfl ?_; refine jjG ?_; refine jjB ?_; refine jjB ?_; refine jjC ?_; refine jm ?_; refine jn rfl ?_; refine jN rfl rfl rfl ?_; refine jm ?_; refine jn rfl ?_; refine jN rfl rfl rfl ?_; refine jjj rfl rfl (by omega) ?_; refine jz ?_; refine jjJ rfl ?_; refine jjB ?_; refine jjC ?_; refine jm ?_; refine jn rfl ?_; refine jN rfl rfl rfl ?_; refine jm ?_; refine jn rfl ?_; refine jN rfl rfl rfl ?_; refine jX rfl rfl ?_; apply jJ; exact eB rfl; refine jz ?_; refine jjF ?_; refine jB rfl rfl ⟨inferInstance, ?_⟩)
    rw [befP, if_neg (by simp [h1]), if_pos h2]; exact rfl

theorem places_slip (a b : Pl) (w : World) : Ct Tryd.prog 33 [encPl a, encPl b] w fun v _ => v = .int .i64 (cmpP a b) := by
  refine Ct.ofW (by simp) ?_
  (refine jjB ?_; refine jjC ?_)
  (refine jy rfl ?_; intro b1 w_b1 hb_b1 hs_b1 hS_b1 hk_b1; have hA_b1 := At.ofBlock hk_b1)
  skip
  (refine jy rfl ?_; intro b2 w_b2 hb_b2 hs_b2 hS_b2 hk_b2; have hA_b2 := At.ofBlock hk_b2)
  (apply jJ; exact eI rfl; refine jz ?_; refine jjB ?_)
  refine W.draw (fun w' => Ext w_b2 w') ?_
  intro w1 hS1
  (refine jjV [0, 1, 2, 3, 5, 6, 7, 8, 10, 11, 12, 13] ?_ ?_ ?_; (decide +kernel); (exact hS1.ext); (((apply jjT; exact rfl; rintro w' hq; have := hq.toStep; refine jm ?_; refine jn rfl ?_; refine jz ?_; exact ⟨rfl, rfl⟩; apply jjT; exact rfl; rintro w' hq; have := hq.toStep; refine jN rfl rfl rfl ?_; refine jz ?_; exact ⟨rfl, rfl⟩; apply jjT; exact rfl; rintro w' hq; have := hq.toStep; refine jm ?_; refine jn rfl ?_; refine jz ?_; exact ⟨rfl, rfl⟩; apply jjT; exact rfl; rintro w' hq; have := hq.toStep; refine jN rfl rfl rfl ?_; refine jz ?_; exact ⟨rfl, rfl⟩; apply jjT; exact rfl; rintro w' hq; have := hq.toStep; refine jm ?_; refine jn rfl ?_; refine jz ?_; exact ⟨rfl, rfl⟩; apply jjT; exact rfl; rintro w' hq; have := hq.toStep; refine jN rfl rfl rfl ?_; refine jz ?_; exact ⟨rfl, rfl⟩; apply jjT; exact rfl; rintro w' hq; have := hq.toStep; refine jm ?_; refine jn rfl ?_; refine jz ?_; exact ⟨rfl, rfl⟩; apply jjT; exact rfl; rintro w' hq; have := hq.toStep; refine jN rfl rfl rfl ?_; refine jz ?_; exact ⟨rfl, rfl⟩; apply jjT; exact rfl; rintro w' hq; have := hq.toStep; refine jm ?_; refine jn rfl ?_; refine jz ?_; exact ⟨rfl, rfl⟩; apply jjT; exact rfl; rintro w' hq; have := hq.toStep; refine jN rfl rfl rfl ?_; refine jz ?_; exact ⟨rfl, rfl⟩; apply jjT; exact rfl; rintro w' hq; have := hq.toStep; refine jm ?_; refine jn rfl ?_; refine jz ?_; exact ⟨rfl, rfl⟩; apply jjT; exact rfl; rintro w' hq; have := hq.toStep; refine jN rfl rfl rfl ?_; refine jz ?_; exact ⟨rfl, rfl⟩; refine jjU ?_))))
  (apply jjW 4; (decide +kernel); exact rfl; (exact hS1.ext))
  refine jjQ (Compare_int _ _ _) rfl rfl ?_
  rintro _ w2 hS2 rfl
  refine jz ?_
  (apply jjW 9; (decide +kernel); exact rfl; (exact hS1.ext.trans hS2.ext))
  refine jjQ (Compare_int _ _ _) rfl rfl ?_
  rintro _ w3 hS3 rfl
  refine jz ?_
  (apply jjW 14; (decide +kernel); exact rfl; (exact (hS1.ext.trans hS2.ext).trans hS3.ext))
  refine jjQ (Compare_int _ _ _) rfl rfl ?_
  rintro _ w4 hS4 rfl
  refine jz ?_
  have hq2 : Ext w_b2 w4 := ((hS1.ext.trans hS2.ext).trans hS3.ext).trans hS4.ext
  (apply jjW 15; (decide +kernel); exact rfl; (exact hq2))
  refine Ops.buildSlice3 (v1 := .int .i64 (cmp1 a.1 b.1)) (v2 := .int .i64 (cmp1 a.2.1 b.2.1)) (v3 := .int .i64 (cmp1 a.2.2 b.2.2)) rfl rfl rfl rfl rfl rfl rfl ?_
  intro b3 w3 hb3 hs3 hS3 hk3
  refine jz ?_
  (apply jjW 16; (decide +kernel); exact rfl; (exact hq2.trans hS3.ext))
  have hr3 : RowV w3 false 1 (.slice (some ⟨b3, 0, none⟩) 3 3) ([cmp1 a.1 b.1, cmp1 a.2.1 b.2.1, cmp1 a.2.2 b.2.2].map intV) := hk3.row (fun x hx => by simp at hx; rcases hx with rfl | rfl | rfl <;> rfl) (by simp)
  refine jjQ (Or_int _ _ _ [cmp1 a.1 b.1, cmp1 a.2.1 b.2.1, cmp1 a.2.2 b.2.2] _ rfl hr3) rfl rfl ?_
  rintro _ w4 hS4 rfl
  refine jz ?_
  (apply jjW 17; (decide +kernel); exact rfl; (exact (hq2.trans hS3.ext).trans hS4.ext))
  (apply jJ; exact eI rfl; refine jz ?_)
  refine jjX (by decide +kernel) ((hq2.trans hS3.ext).trans hS4.ext) ?_
  (refine jjF ?_; refine jB rfl rfl ⟨inferInstance, ?_⟩)
  exact rfl
end Go.Proofs.YtgmgiepdehlinaaDoor

/- slices.IndexFunc, slices.ContainsFunc, at each element type that occurs. -/
namespace Go.Proofs.YtgmgiepdehlinaaDoor
open Go.RowKit

theorem IndexFunc_int {α : Type} (w : World) (v fv : Value) (enc : α → Value) (xs : List α) (p : α → Bool) (hrow : RowV w false 1 v (xs.map enc)) (hp : PredE Tryd.prog w fv enc xs p) :
    Ct Tryd.prog 81 [v, fv] w fun r _ => r = .int .i64 (idxV p xs) := by
  obtain ⟨a, c, rfl⟩ := hrow.slice
  obtain ⟨g, cap, rfl, hg, hp⟩ := hp.h
  have hlen := hrow.len
  rw [List.length_map] at hlen hrow ⊢
  refine Ct.ofW (by simp) ?_
  (refine jjB ?_; refine jjC ?_; apply jJ; exact eI rfl; refine jz ?_; refine jjB ?_; refine jjB ?_; refine jjC ?_; apply jI; exact eS rfl; refine jh rfl ?_; apply jI; exact eI rfl; refine jz ?_; refine jjD ?_)
  refine W.loop (9 :: 10 :: 5 :: 11 :: 12 :: 13 :: 14 :: 15 :: 16 :: 17 :: 4 :: 18 :: 8 :: []) (fun g s' _ => ∃ k : Nat, s' 8 = .int .i64 k ∧ g = xs.length - k ∧ k ≤ xs.length ∧ ∀ (j : Nat) (hj : j < xs.length), j < k → p xs[j] = false) xs.length ?_ ?_
  · exact ⟨0, rfl, by omega, by omega, by intros; omega⟩
  · rintro _ d w' hS ⟨k, h8, rfl, hk, hpre⟩
    refine W.fix h8 ?_
    repeat' (first|((first|apply jI|apply jJ); (first|exact eI rfl|exact eS rfl|exact eF rfl))|(refine jW ?_; refine jX rfl rfl ?_)|refine jz ?_|(refine jjA ?_; (first|refine jjB ?_|refine jjC ?_|refine jjD ?_|refine jjE ?_|refine jjF ?_|refine jjG ?_))|(refine jjA ?_; (refine jjN rfl ?_ ?_ <;> intro _))|refine jB rfl rfl ⟨inferInstance, ?_⟩)
    · have hk' : k < xs.length := by omega
      refine Ops.indexRow rfl rfl (hrow.ext inferInstance) rfl (map_get hk') ?_
      intro b o hA
      refine Ops.loadV rfl hA (by exact hrow.get (List.getElem_mem hk')) ?_
      refine jjQ (hp _ _ (List.getElem_mem hk') inferInstance) rfl rfl ?_
      rintro v w2 hS2 rfl
      repeat' (first|((first|apply jI|apply jJ); exact eI rfl)|(refine jW ?_; refine jY rfl rfl (by omega) ?_)|refine jz ?_|(refine jjA ?_; (first|refine jjB ?_|refine jjC ?_|refine jjF ?_|refine jjG ?_))|(refine jjA ?_; (refine jjO rfl ?_ ?_ <;> intro _))|refine jB rfl rfl ⟨inferInstance, ?_⟩)
      · exact congrArg _ (idxV_hit hk' ‹_› hpre).symm
      · refine ⟨rfl, by ((refine Same.upd rfl ?_; refine Same.upd rfl ?_; refine Same.upd rfl ?_; refine Same.upd rfl ?_; refine Same.upd rfl ?_; refine Same.upd rfl ?_; refine Same.upd rfl ?_; refine Same.upd rfl ?_; refine Same.upd rfl ?_; refine Same.upd rfl ?_; refine Same.upd rfl ?_; refine Same.upd rfl ?_; exact Same.ovN)), xs.length - (k + 1), by omega, inferInstance, k + 1, rfl, rfl, by omega, fun j hj hjk => ?_⟩
        by_cases e : j = k
        · subst e; assumption
        · exact hpre j hj (by omega)
    · exact congrArg _ (idxV_miss fun j hj => hpre j hj (by omega)).symm


theorem IndexFunc_string {α : Type} (w : World) (v fv : Value) (enc : α → Value) (xs : List α) (p : α → Bool) (hrow : RowV w false 1 v (xs.map enc)) (hp : PredE Tryd.prog w fv enc xs p) :
    Ct Tryd.prog 91 [v, fv] w fun r _ => r = .int .i64 (idxV p xs) := by
  obtain ⟨a, c, rfl⟩ := hrow.slice
  obtain ⟨g, cap, rfl, hg, hp⟩ := hp.h
  have hlen := hrow.len
  rw [List.length_map] at hlen hrow ⊢
  refine Ct.ofW (by simp) ?_
  (refine jjB ?_; refine jjC ?_; apply jJ; exact eI rfl; refine jz ?_; refine jjB ?_; refine jjB ?_; refine jjC ?_; apply jI; exact eS rfl; refine jh rfl ?_; apply jI; exact eI rfl; refine jz ?_; refine jjD ?_)
  refine W.loop (9 :: 10 :: 5 :: 11 :: 12 :: 13 :: 14 :: 15 :: 16 :: 17 :: 4 :: 18 :: 8 :: []) (fun g s' _ => ∃ k : Nat, s' 8 = .int .i64 k ∧ g = xs.length - k ∧ k ≤ xs.length ∧ ∀ (j : Nat) (hj : j < xs.length), j < k → p xs[j] = false) xs.length ?_ ?_
  · exact ⟨0, rfl, by omega, by omega, by intros; omega⟩
  · rintro _ d w' hS ⟨k, h8, rfl, hk, hpre⟩
    refine W.fix h8 ?_
    repeat' (first|((first|apply jI|apply jJ); (first|exact eI rfl|exact eS rfl|exact eF rfl))|(refine jW ?_; refine jX rfl rfl ?_)|refine jz ?_|(refine jjA ?_; (first|refine jjB ?_|refine jjC ?_|refine jjD ?_|refine jjE ?_|refine jjF ?_|refine jjG ?_))|(refine jjA ?_; (refine jjN rfl ?_ ?_ <;> intro _))|refine jB rfl rfl ⟨inferInstance, ?_⟩)
    · have hk' : k < xs.length := by omega
      refine Ops.indexRow rfl rfl (hrow.ext inferInstance) rfl (map_get hk') ?_
      intro b o hA
      refine Ops.loadV rfl hA (by exact hrow.get (List.getElem_mem hk')) ?_
      refine jjQ (hp _ _ (List.getElem_mem hk') inferInstance) rfl rfl ?_
      rintro v w2 hS2 rfl
      repeat' (first|((first|apply jI|apply jJ); exact eI rfl)|(refine jW ?_; refine jY rfl rfl (by omega) ?_)|refine jz ?_|(refine jjA ?_; (first|refine jjB ?_|refine jjC ?_|refine jjF ?_|refine jjG ?_))|(refine jjA ?_; (refine jjO rfl ?_ ?_ <;> intro _))|refine jB rfl rfl ⟨inferInstance, ?_⟩)
      · exact congrArg _ (idxV_hit hk' ‹_› hpre).symm
      · refine ⟨rfl, by ((refine Same.upd rfl ?_; refine Same.upd rfl ?_; refine Same.upd rfl ?_; refine Same.upd rfl ?_; refine Same.upd rfl ?_; refine Same.upd rfl ?_; refine Same.upd rfl ?_; refine Same.upd rfl ?_; refine Same.upd rfl ?_; refine Same.upd rfl ?_; refine Same.upd rfl ?_; refine Same.upd rfl ?_; exact Same.ovN)), xs.length - (k + 1), by omega, inferInstance, k + 1, rfl, rfl, by omega, fun j hj hjk => ?_⟩
        by_cases e : j = k
        · subst e; assumption
        · exact hpre j hj (by omega)
    · exact congrArg _ (idxV_miss fun j hj => hpre j hj (by omega)).symm


theorem IndexFunc_byte {α : Type} (w : World) (v fv : Value) (enc : α → Value) (xs : List α) (p : α → Bool) (hrow : RowV w false 1 v (xs.map enc)) (hp : PredE Tryd.prog w fv enc xs p) :
    Ct Tryd.prog 98 [v, fv] w fun r _ => r = .int .i64 (idxV p xs) := by
  obtain ⟨a, c, rfl⟩ := hrow.slice
  obtain ⟨g, cap, rfl, hg, hp⟩ := hp.h
  have hlen := hrow.len
  rw [List.length_map] at hlen hrow ⊢
  refine Ct.ofW (by simp) ?_
  (refine jjB ?_; refine jjC ?_; apply jJ; exact eI rfl; refine jz ?_; refine jjB ?_; refine jjB ?_; refine jjC ?_; apply jI; exact eS rfl; refine jh rfl ?_; apply jI; exact eI rfl; refine jz ?_; refine jjD ?_)
  refine W.loop (9 :: 10 :: 5 :: 11 :: 12 :: 13 :: 14 :: 15 :: 16 :: 17 :: 4 :: 18 :: 8 :: []) (fun g s' _ => ∃ k : Nat, s' 8 = .int .i64 k ∧ g = xs.length - k ∧ k ≤ xs.length ∧ ∀ (j : Nat) (hj : j < xs.length), j < k → p xs[j] = false) xs.length ?_ ?_
  · exact ⟨0, rfl, by omega, by omega, by intros; omega⟩
  · rintro _ d w' hS ⟨k, h8, rfl, hk, hpre⟩
    refine W.fix h8 ?_
    repeat' (first|((first|apply jI|apply jJ); (first|exact eI rfl|exact eS rfl|exact eF rfl))|(refine jW ?_; refine jX rfl rfl ?_)|refine jz ?_|(refine jjA ?_; (first|refine jjB ?_|refine jjC ?_|refine jjD ?_|refine jjE ?_|refine jjF ?_|refine jjG ?_))|(refine jjA ?_; (refine jjN rfl ?_ ?_ <;> intro _))|refine jB rfl rfl ⟨inferInstance, ?_⟩)
    · have hk' : k < xs.length := by omega
      refine Ops.indexRow rfl rfl (hrow.ext inferInstance) rfl (map_get hk') ?_
      intro b o hA
      refine Ops.loadV rfl hA (by exact hrow.get (List.getElem_mem hk')) ?_
      refine jjQ (hp _ _ (List.getElem_mem hk') inferInstance) rfl rfl ?_
      rintro v w2 hS2 rfl
      repeat' (first|((first|apply jI|apply jJ); exact eI rfl)|(refine jW ?_; refine jY rfl rfl (by omega) ?_)|refine jz ?_|(refine jjA ?_; (first|refine jjB ?_|refine jjC ?_|refine jjF ?_|refine jjG ?_))|(refine jjA ?_; (refine jjO rfl ?_ ?_ <;> intro _))|refine jB rfl rfl ⟨inferInstance, ?_⟩)
      · exact congrArg _ (idxV_hit hk' ‹_› hpre).symm
      · refine ⟨rfl, by ((refine Same.upd rfl ?_; refine Same.upd rfl ?_; refine Same.upd rfl ?_; refine Same.upd rfl ?_; refine Same.upd rfl ?_; refine Same.upd rfl ?_; refine Same.upd rfl ?_; refine Same.upd rfl ?_; refine Same.upd rfl ?_; refine Same.upd rfl ?_; refine Same.upd rfl ?_; refine Same.upd rfl ?_; exact Same.ovN)), xs.length - (k + 1), by omega, inferInstance, k + 1, rfl, rfl, by omega, fun j hj hjk => ?_⟩
        by_cases e : j = k
        · subst e; assumption
        · exact hpre j hj (by omega)
    · exact congrArg _ (idxV_miss fun j hj => hpre j hj (by omega)).symm


theorem IndexFunc_Slstring {α : Type} (w : World) (v fv : Value) (enc : α → Value) (xs : List α) (p : α → Bool) (hrow : RowV w false 1 v (xs.map enc)) (hp : PredE Tryd.prog w fv enc xs p) :
    Ct Tryd.prog 111 [v, fv] w fun r _ => r = .int .i64 (idxV p xs) := by
  obtain ⟨a, c, rfl⟩ := hrow.slice
  obtain ⟨g, cap, rfl, hg, hp⟩ := hp.h
  have hlen := hrow.len
  rw [List.length_map] at hlen hrow ⊢
  refine Ct.ofW (by simp) ?_
  (refine jjB ?_; refine jjC ?_; apply jJ; exact eI rfl; refine jz ?_; refine jjB ?_; refine jjB ?_; refine jjC ?_; apply jI; exact eS rfl; refine jh rfl ?_; apply jI; exact eI rfl; refine jz ?_; refine jjD ?_)
  refine W.loop (9 :: 10 :: 5 :: 11 :: 12 :: 13 :: 14 :: 15 :: 16 :: 17 :: 4 :: 18 :: 8 :: []) (fun g s' _ => ∃ k : Nat, s' 8 = .int .i64 k ∧ g = xs.length - k ∧ k ≤ xs.length ∧ ∀ (j : Nat) (hj : j < xs.length), j < k → p xs[j] = false) xs.length ?_ ?_
  · exact ⟨0, rfl, by omega, by omega, by intros; omega⟩
  · rintro _ d w' hS ⟨k, h8, rfl, hk, hpre⟩
    refine W.fix h8 ?_
    repeat' (first|((first|apply jI|apply jJ); (first|exact eI rfl|exact eS rfl|exact eF rfl))|(refine jW ?_; refine jX rfl rfl ?_)|refine jz ?_|(refine jjA ?_; (first|refine jjB ?_|refine jjC ?_|refine jjD ?_|refine jjE ?_|refine jjF ?_|refine jjG ?_))|(refine jjA ?_; (refine jjN rfl ?_ ?_ <;> intro _))|refine jB rfl rfl ⟨inferInstance, ?_⟩)
    · have hk' : k < xs.length := by omega
      refine Ops.indexRow rfl rfl (hrow.ext inferInstance) rfl (map_get hk') ?_
      intro b o hA
      refine Ops.loadV rfl hA (by exact hrow.get (List.getElem_mem hk')) ?_
      refine jjQ (hp _ _ (List.getElem_mem hk') inferInstance) rfl rfl ?_
      rintro v w2 hS2 rfl
      repeat' (first|((first|apply jI|apply jJ); exact eI rfl)|(refine jW ?_; refine jY rfl rfl (by omega) ?_)|refine jz ?_|(refine jjA ?_; (first|refine jjB ?_|refine jjC ?_|refine jjF ?_|refine jjG ?_))|(refine jjA ?_; (refine jjO rfl ?_ ?_ <;> intro _))|refine jB rfl rfl ⟨inferInstance, ?_⟩)
      · exact congrArg _ (idxV_hit hk' ‹_› hpre).symm
      · refine ⟨rfl, by ((refine Same.upd rfl ?_; refine Same.upd rfl ?_; refine Same.upd rfl ?_; refine Same.upd rfl ?_; refine Same.upd rfl ?_; refine Same.upd rfl ?_; refine Same.upd rfl ?_; refine Same.upd rfl ?_; refine Same.upd rfl ?_; refine Same.upd rfl ?_; refine Same.upd rfl ?_; refine Same.upd rfl ?_; exact Same.ovN)), xs.length - (k + 1), by omega, inferInstance, k + 1, rfl, rfl, by omega, fun j hj hjk => ?_⟩
        by_cases e : j = k
        · subst e; assumption
        · exact hpre j hj (by omega)
    · exact congrArg _ (idxV_miss fun j hj => hpre j hj (by omega)).symm


theorem ContainsFunc_int {α : Type} (w : World) (v fv : Value) (enc : α → Value) (xs : List α) (p : α → Bool) (hrow : RowV w false 1 v (xs.map enc)) (hp : PredE Tryd.prog w fv enc xs p) :
    Ct Tryd.prog 59 [v, fv] w fun r _ => r = .bool (xs.any p) := by
  refine Ct.ofW (by simp) ?_
  (refine jjB ?_; refine jjC ?_; apply jJ; exact eB rfl; refine jz ?_; refine jjB ?_; refine jjC ?_; apply jI; exact rfl; apply jI; exact rfl)
  refine jjQ (IndexFunc_int _ _ _ enc _ _ (hrow.ext inferInstance) (hp.ext inferInstance)) rfl rfl ?_
  rintro _ w2 hS2 rfl
  (refine jf rfl rfl ?_; apply jJ; exact eB rfl; refine jz ?_; refine jjF ?_; refine jB rfl rfl ⟨inferInstance, ?_⟩)
  exact congrArg Value.bool (idxV_nonneg p xs)


theorem ContainsFunc_string {α : Type} (w : World) (v fv : Value) (enc : α → Value) (xs : List α) (p : α → Bool) (hrow : RowV w false 1 v (xs.map enc)) (hp : PredE Tryd.prog w fv enc xs p) :
    Ct Tryd.prog 73 [v, fv] w fun r _ => r = .bool (xs.any p) := by
  refine Ct.ofW (by simp) ?_
  (refine jjB ?_; refine jjC ?_; apply jJ; exact eB rfl; refine jz ?_; refine jjB ?_; refine jjC ?_; apply jI; exact rfl; apply jI; exact rfl)
  refine jjQ (IndexFunc_string _ _ _ enc _ _ (hrow.ext inferInstance) (hp.ext inferInstance)) rfl rfl ?_
  rintro _ w2 hS2 rfl
  (refine jf rfl rfl ?_; apply jJ; exact eB rfl; refine jz ?_; refine jjF ?_; refine jB rfl rfl ⟨inferInstance, ?_⟩)
  exact congrArg Value.bool (idxV_nonneg p xs)


theorem ContainsFunc_byte {α : Type} (w : World) (v fv : Value) (enc : α → Value) (xs : List α) (p : α → Bool) (hrow : RowV w false 1 v (xs.map enc)) (hp : PredE Tryd.prog w fv enc xs p) :
    Ct Tryd.prog 83 [v, fv] w fun r _ => r = .bool (xs.any p) := by
  refine Ct.ofW (by simp) ?_
  (refine jjB ?_; refine jjC ?_; apply jJ; exact eB rfl; refine jz ?_; refine jjB ?_; refine jjC ?_; apply jI; exact rfl; apply jI; exact rfl)
  refine jjQ (IndexFunc_byte _ _ _ enc _ _ (hrow.ext inferInstance) (hp.ext inferInstance)) rfl rfl ?_
  rintro _ w2 hS2 rfl
  (refine jf rfl rfl ?_; apply jJ; exact eB rfl; refine jz ?_; refine jjF ?_; refine jB rfl rfl ⟨inferInstance, ?_⟩)
  exact congrArg Value.bool (idxV_nonneg p xs)


theorem ContainsFunc_Slstring {α : Type} (w : World) (v fv : Value) (enc : α → Value) (xs : List α) (p : α → Bool) (hrow : RowV w false 1 v (xs.map enc)) (hp : PredE Tryd.prog w fv enc xs p) :
    Ct Tryd.prog 102 [v, fv] w fun r _ => r = .bool (xs.any p) := by
  refine Ct.ofW (by simp) ?_
  (refine jjB ?_; refine jjC ?_; apply jJ; exact eB rfl; refine jz ?_; refine jjB ?_; refine jjC ?_; apply jI; exact rfl; apply jI; exact rfl)
  refine jjQ (IndexFunc_Slstring _ _ _ enc _ _ (hrow.ext inferInstance) (hp.ext inferInstance)) rfl rfl ?_
  rintro _ w2 hS2 rfl
  (refine jf rfl rfl ?_; apply jJ; exact eB rfl; refine jz ?_; refine jjF ?_; refine jB rfl rfl ⟨inferInstance, ?_⟩)
  exact congrArg Value.bool (idxV_nonneg p xs)

end Go.Proofs.YtgmgiepdehlinaaDoor

/- in and word, of each package. -/
namespace Go.Proofs.YtgmgiepdehlinaaDoor
open Go.RowKit

theorem in1_leaf (n lo hi : Int) (b c : Nat) (w : World) [At w b 0 [.int .i64 lo]] [At w c 0 [.int .i64 hi]] :
    Ct Tryd.prog 90 [.int .i64 n, .pointer (some ⟨b, 0, none⟩), .pointer (some ⟨c, 0, none⟩)] w fun v _ => v = .bool (!inB lo hi n) := by
  refine Ct.ofW (by simp) ?_
  repeat' (first|((first|apply jI|apply jJ|apply jK rfl|apply jL rfl); (first|exact eI rfl|exact eB rfl))|(refine jM ?_; refine jN rfl rfl rfl ?_)|(refine jS ?_; (first|refine jT rfl rfl rfl ?_|refine jU rfl rfl rfl rfl ?_))|(refine jW ?_; (first|refine jX rfl rfl ?_|refine je rfl rfl ?_))|refine jz ?_|(refine jjA ?_; (first|refine jjB ?_|refine jjC ?_|refine jjF ?_))|(refine jS ?_; (refine jjL rfl rfl ?_ ?_ <;> intro _))|refine jB rfl rfl ⟨inferInstance, ?_⟩)
  · exact congrArg Value.bool (by simp only [inB, Bool.true_eq, Bool.not_eq_true', decide_eq_false_iff_not]; omega)
  · exact congrArg Value.bool (by rw [inB, ← decide_not, decide_eq_decide]; omega)

theorem in_leaf (lo hi : Int) (v : Value) (xs : List Int) (w : World) (hrow : RowV w false 1 v (xs.map (.int .i64))) :
    Ct Tryd.prog 72 [.int .i64 lo, .int .i64 hi, v] w fun r _ => r = .bool (xs.all (inB lo hi)) := by
  refine Ct.ofW (by simp) ?_
  (refine jjB ?_; refine jjC ?_)
  (refine jy rfl ?_; intro b1 w_b1 hb_b1 hs_b1 hS_b1 hk_b1; have hA_b1 := At.ofBlock hk_b1)
  (refine jy rfl ?_; intro b2 w_b2 hb_b2 hs_b2 hS_b2 hk_b2; have hA_b2 := At.ofBlock hk_b2)
  (apply jJ; exact eB rfl; refine jz ?_; refine jjB ?_; refine jjC ?_; apply jI; exact rfl; refine jv ?_)
  refine jjQ (ContainsFunc_int _ _ (.func (.func 90) #[] [.pointer (some ⟨b1, 0, none⟩), .pointer (some ⟨b2, 0, none⟩)].toArray) (.int .i64) xs (fun n => !inB lo hi n) (hrow.ext inferInstance) ?hp) rfl rfl ?_
  case hp =>
    refine ⟨_, _, rfl, inferInstance, fun w' y _ hs => ?_⟩
    have := hA_b2.ext hs
    have := (inferInstance : At w_b2 b1 0 _).ext hs
    exact in1_leaf y lo hi b1 b2 w'
  rintro _ w2 hS2 rfl
  (refine js rfl ?_; apply jJ; exact eB rfl; refine jz ?_; refine jjF ?_; refine jB rfl rfl ⟨inferInstance, ?_⟩)
  exact congrArg Value.bool (not_any_not _ xs)


theorem word1_leaf (n : Int) (w : World) : Ct Tryd.prog 92 [.int .u8 n] w fun v _ => v = .bool (decide (n < 97 ∨ 122 < n)) := by
  refine Ct.ofW (by simp) ?_
  repeat' (first|((first|apply jI|apply jJ|apply jK rfl|apply jL rfl); (first|exact eI rfl|exact eB rfl))|(refine jS ?_; (first|refine jT rfl rfl rfl ?_|refine jU rfl rfl rfl rfl ?_))|(refine jW ?_; (first|refine jX rfl rfl ?_|refine je rfl rfl ?_))|refine jz ?_|(refine jjA ?_; (first|refine jjB ?_|refine jjC ?_|refine jjF ?_))|(refine jS ?_; (refine jjL rfl rfl ?_ ?_ <;> intro _))|refine jB rfl rfl ⟨inferInstance, ?_⟩)
  · exact congrArg Value.bool (by simp only [Bool.true_eq, decide_eq_true_eq]; omega)
  · exact congrArg Value.bool (by rw [decide_eq_decide]; omega)

theorem word_leaf (s : ByteArray) (w : World) (hs : s.size ≤ 140737488351232) : Ct Tryd.prog 75 [.string s] w fun r _ => r = .bool (wordB s) := by
  refine Ct.ofW (by simp) ?_
  (refine jjB ?_; refine jjC ?_; apply jJ; exact eB rfl; refine jz ?_; refine jjB ?_; refine jjC ?_; apply jI; exact eT rfl; refine ji rfl ?_)
  (refine jjP (v := .int _ _) rfl (by exact rfl) (by exact rfl) (by exact rfl) (by exact rfl) ?_; intro b1 w_b1 hb_b1 hs_b1 hS_b1 hk_b1; have hR_b1 := RowV.one (agg := false) (k := 1) rfl hk_b1)
  refine jjQ (in_leaf 1 12 _ [(s.size : Int)] _ hR_b1) rfl rfl ?_
  rintro _ w2 hS2 rfl
  repeat' (first|((first|apply jI|apply jJ|apply jL rfl); (first|exact eB rfl|exact eT rfl))|(refine jS ?_; (first|refine jT rfl rfl rfl ?_|refine jU rfl rfl rfl rfl ?_))|refine jz ?_|(refine jjA ?_; refine jjF ?_)|(refine jS ?_; (refine jjM rfl rfl ?_ ?_ <;> intro _))|refine jB rfl rfl ⟨inferInstance, ?_⟩)
  · refine Ops.bytesOf rfl (by omega) ?_
    intro v w3 hS3 hR3
    (refine jT rfl rfl rfl ?_)
    refine jjQ (ContainsFunc_byte _ _ (.func (.func 92) #[] ([] : List Value).toArray) byteV s.data.toList (fun c => decide ((c.toNat : Int) < 97 ∨ 122 < (c.toNat : Int))) hR3 ?hp) rfl rfl ?_
    case hp =>
      exact ⟨_, _, rfl, inferInstance, fun w' y _ hs => word1_leaf _ w'⟩
    rintro _ w4 hS4 rfl
    (refine jT rfl rfl rfl ?_; refine js rfl ?_; apply jK rfl; exact eB rfl; apply jJ; exact eB rfl; refine jz ?_; refine jjF ?_; refine jB rfl rfl ⟨inferInstance, ?_⟩)
    exact congrArg Value.bool (word_yes s ‹_›)
  · exact congrArg Value.bool (word_no s ‹_›)


theorem in1_slip (n lo hi : Int) (b c : Nat) (w : World) [At w b 0 [.int .i64 lo]] [At w c 0 [.int .i64 hi]] :
    Ct Tryd.prog 60 [.int .i64 n, .pointer (some ⟨b, 0, none⟩), .pointer (some ⟨c, 0, none⟩)] w fun v _ => v = .bool (!inB lo hi n) := by
  refine Ct.ofW (by simp) ?_
  repeat' (first|((first|apply jI|apply jJ|apply jK rfl|apply jL rfl); (first|exact eI rfl|exact eB rfl))|(refine jM ?_; refine jN rfl rfl rfl ?_)|(refine jS ?_; (first|refine jT rfl rfl rfl ?_|refine jU rfl rfl rfl rfl ?_))|(refine jW ?_; (first|refine jX rfl rfl ?_|refine je rfl rfl ?_))|refine jz ?_|(refine jjA ?_; (first|refine jjB ?_|refine jjC ?_|refine jjF ?_))|(refine jS ?_; (refine jjL rfl rfl ?_ ?_ <;> intro _))|refine jB rfl rfl ⟨inferInstance, ?_⟩)
  · exact congrArg Value.bool (by simp only [inB, Bool.true_eq, Bool.not_eq_true', decide_eq_false_iff_not]; omega)
  · exact congrArg Value.bool (by rw [inB, ← decide_not, decide_eq_decide]; omega)

theorem in_slip (lo hi : Int) (v : Value) (xs : List Int) (w : World) (hrow : RowV w false 1 v (xs.map (.int .i64))) :
    Ct Tryd.prog 35 [.int .i64 lo, .int .i64 hi, v] w fun r _ => r = .bool (xs.all (inB lo hi)) := by
  refine Ct.ofW (by simp) ?_
  (refine jjB ?_; refine jjC ?_)
  (refine jy rfl ?_; intro b1 w_b1 hb_b1 hs_b1 hS_b1 hk_b1; have hA_b1 := At.ofBlock hk_b1)
  (refine jy rfl ?_; intro b2 w_b2 hb_b2 hs_b2 hS_b2 hk_b2; have hA_b2 := At.ofBlock hk_b2)
  (apply jJ; exact eB rfl; refine jz ?_; refine jjB ?_; refine jjC ?_; apply jI; exact rfl; refine jv ?_)
  refine jjQ (ContainsFunc_int _ _ (.func (.func 60) #[] [.pointer (some ⟨b1, 0, none⟩), .pointer (some ⟨b2, 0, none⟩)].toArray) (.int .i64) xs (fun n => !inB lo hi n) (hrow.ext inferInstance) ?hp) rfl rfl ?_
  case hp =>
    refine ⟨_, _, rfl, inferInstance, fun w' y _ hs => ?_⟩
    have := hA_b2.ext hs
    have := (inferInstance : At w_b2 b1 0 _).ext hs
    exact in1_slip y lo hi b1 b2 w'
  rintro _ w2 hS2 rfl
  (refine js rfl ?_; apply jJ; exact eB rfl; refine jz ?_; refine jjF ?_; refine jB rfl rfl ⟨inferInstance, ?_⟩)
  exact congrArg Value.bool (not_any_not _ xs)


theorem word1_slip (n : Int) (w : World) : Ct Tryd.prog 84 [.int .u8 n] w fun v _ => v = .bool (decide (n < 97 ∨ 122 < n)) := by
  refine Ct.ofW (by simp) ?_
  repeat' (first|((first|apply jI|apply jJ|apply jK rfl|apply jL rfl); (first|exact eI rfl|exact eB rfl))|(refine jS ?_; (first|refine jT rfl rfl rfl ?_|refine jU rfl rfl rfl rfl ?_))|(refine jW ?_; (first|refine jX rfl rfl ?_|refine je rfl rfl ?_))|refine jz ?_|(refine jjA ?_; (first|refine jjB ?_|refine jjC ?_|refine jjF ?_))|(refine jS ?_; (refine jjL rfl rfl ?_ ?_ <;> intro _))|refine jB rfl rfl ⟨inferInstance, ?_⟩)
  · exact congrArg Value.bool (by simp only [Bool.true_eq, decide_eq_true_eq]; omega)
  · exact congrArg Value.bool (by rw [decide_eq_decide]; omega)

theorem word_slip (s : ByteArray) (w : World) (hs : s.size ≤ 140737488351232) : Ct Tryd.prog 63 [.string s] w fun r _ => r = .bool (wordB s) := by
  refine Ct.ofW (by simp) ?_
  (refine jjB ?_; refine jjC ?_; apply jJ; exact eB rfl; refine jz ?_; refine jjB ?_; refine jjC ?_; apply jI; exact eT rfl; refine ji rfl ?_)
  (refine jjP (v := .int _ _) rfl (by exact rfl) (by exact rfl) (by exact rfl) (by exact rfl) ?_; intro b1 w_b1 hb_b1 hs_b1 hS_b1 hk_b1; have hR_b1 := RowV.one (agg := false) (k := 1) rfl hk_b1)
  refine jjQ (in_slip 1 12 _ [(s.size : Int)] _ hR_b1) rfl rfl ?_
  rintro _ w2 hS2 rfl
  repeat' (first|((first|apply jI|apply jJ|apply jL rfl); (first|exact eB rfl|exact eT rfl))|(refine jS ?_; (first|refine jT rfl rfl rfl ?_|refine jU rfl rfl rfl rfl ?_))|refine jz ?_|(refine jjA ?_; refine jjF ?_)|(refine jS ?_; (refine jjM rfl rfl ?_ ?_ <;> intro _))|refine jB rfl rfl ⟨inferInstance, ?_⟩)
  · refine Ops.bytesOf rfl (by omega) ?_
    intro v w3 hS3 hR3
    (refine jT rfl rfl rfl ?_)
    refine jjQ (ContainsFunc_byte _ _ (.func (.func 84) #[] ([] : List Value).toArray) byteV s.data.toList (fun c => decide ((c.toNat : Int) < 97 ∨ 122 < (c.toNat : Int))) hR3 ?hp) rfl rfl ?_
    case hp =>
      exact ⟨_, _, rfl, inferInstance, fun w' y _ hs => word1_slip _ w'⟩
    rintro _ w4 hS4 rfl
    (refine jT rfl rfl rfl ?_; refine js rfl ?_; apply jK rfl; exact eB rfl; apply jJ; exact eB rfl; refine jz ?_; refine jjF ?_; refine jB rfl rfl ⟨inferInstance, ?_⟩)
    exact congrArg Value.bool (word_yes s ‹_›)
  · exact congrArg Value.bool (word_no s ‹_›)

end Go.Proofs.YtgmgiepdehlinaaDoor

/- leaf: Check. -/
namespace Go.Proofs.YtgmgiepdehlinaaDoor
open Go.RowKit

theorem inOne_leaf (lo hi n : Int) (b : Nat) (B : Bool) (w : World) (hB : inB lo hi n = B) (hR : RowV w false 1 (.slice (some ⟨b, 0, none⟩) 1 1) [.int .i64 n]) : Ct Tryd.prog 72 [.int .i64 lo, .int .i64 hi, .slice (some ⟨b, 0, none⟩) 1 1] w fun v _ => v = .bool B :=
  (in_leaf lo hi _ [n] w hR).mono fun v _ _ e => e.trans (by rw [all_1, hB])
theorem Check1_leaf (s : ByteArray) (w : World) (hs : s.size ≤ 1000) : Ct Tryd.prog 74 [.string s] w fun v _ => v = .bool (!wordB s) := by
  refine Ct.ofW (by simp) ?_
  (refine jjB ?_; refine jjC ?_; apply jJ; exact eB rfl; refine jz ?_; refine jjB ?_; refine jjC ?_; apply jI; exact eT rfl)
  refine jjQ (word_leaf s _ (by omega)) rfl rfl ?_
  rintro _ w2 hS2 rfl
  (refine js rfl ?_; apply jJ; exact eB rfl; refine jz ?_; refine jjF ?_; refine jB rfl rfl ⟨inferInstance, ?_⟩)
  exact rfl
theorem not_words (l : List ByteArray) : l.any (fun s => !wordB s) = !l.all wordB := by
  rw [any_not]

section
variable (a : Option Addr) (c : Nat) (cs : List Ch) (w : World) [hrow : RowI w (.slice a cs.length c) true 2 (cs.map encCh)] [hT : TextI w cs]
set_option maxHeartbeats 4000000 in
theorem Check_leaf (hs : SmallT cs) : Ct Tryd.prog 45 [.agg #[.slice a cs.length c]] w fun v _ => v = .int .i64 (if textB (txF cs) then 0 else 10) := by
  have hs1 := hs.1
  refine Ct.ofW (by simp) ?_
  (refine jjB ?_; refine jjC ?_)
  (refine jy rfl ?_; intro b1 w_b1 hb_b1 hs_b1 hS_b1 hk_b1; have hA_b1 := At.ofBlock hk_b1)
  (apply jJ; exact eI rfl; refine jz ?_; refine jjH ?_; refine jjB ?_; refine jjB ?_; refine jjC ?_; refine jm ?_; refine jn rfl ?_; refine jN rfl rfl rfl ?_; refine jh rfl ?_)
  (refine jjP (v := .int _ _) rfl (by exact rfl) (by exact rfl) (by exact rfl) (by exact rfl) ?_; intro b2 w_b2 hb_b2 hs_b2 hS_b2 hk_b2; have hR_b2 := RowV.one (agg := false) (k := 1) rfl hk_b2)
  obtain ⟨B6, h6⟩ : ∃ B, inB 1 6 (cs.length : Int) = B := ⟨_, rfl⟩
  skip
  refine jjQ (inOne_leaf 1 6 (cs.length : Int) b2 B6 _ h6 hR_b2) rfl rfl ?_
  rintro _ w2 hS2 rfl
  cases B6
  · (refine jq rfl ?_; refine jz ?_; refine jjJ rfl ?_; refine jjB ?_; refine jjC ?_; apply jJ; exact eI rfl; refine jz ?_; refine jjF ?_; refine jB rfl rfl ⟨inferInstance, ?_⟩)
    rw [textB_len h6]; exact rfl
  (refine jp rfl ?_; refine jz ?_; refine jjK rfl ?_; refine jjG ?_; refine jjB ?_; refine jjC ?_; apply jJ; exact eI rfl; refine jz ?_; refine jjB ?_; refine jjC ?_)
  refine Ops.makeMap (Value.int .i64) ?_
  intro mb w3 hmb hs3 hS3 hM3
  (apply jJ; exact eM rfl; refine jz ?_; refine jjB ?_; refine jjI ?_; refine jjB ?_; refine jjB ?_; refine jjC ?_; refine jm ?_; refine jn rfl ?_; refine jN rfl rfl rfl ?_; refine jh rfl ?_; apply jI; exact eI rfl; refine jz ?_; refine jjD ?_)
  have hE3 : Ext w w3 := inferInstance
  have hT3 : TextI w3 cs := hT.ext hE3
  have hrow3 : RowV w3 true 2 (.slice a cs.length c) (cs.map encCh) := hrow.h.ext hE3
  have zmb : w.heap.size ≤ mb := by have := (inferInstance : Ext w w2).size; omega
  refine W.keep0 [(3, .int .i64 (0 : Int)), (4, .map (some mb)), (17, .slice a cs.length c), (18, .int .i64 ((cs.length : Nat) : Int)), (19, .int .i64 ((0 : Nat) : Int))] ⟨eI rfl, eM rfl, eS rfl, eI rfl, eI rfl, trivial⟩ fun s0 => ?_
  refine W.loopG (20 :: 21 :: 22 :: 6 :: 23 :: 24 :: 25 :: 26 :: 27 :: 28 :: 29 :: 30 :: 31 :: 32 :: 33 :: 34 :: 35 :: 36 :: 37 :: 38 :: 39 :: 40 :: 41 :: 2 :: 42 :: 43 :: 44 :: 45 :: 46 :: 47 :: 48 :: 49 :: 50 :: 51 :: 8 :: 52 :: 53 :: 54 :: 55 :: 56 :: 57 :: 58 :: 59 :: 60 :: 3 :: 61 :: 62 :: 19 :: []) (fun g s' V => ∃ (k : Nat) (m : List (Int × Value)), s' 19 = .int .i64 ((k : Nat) : Int) ∧ s' 3 = .int .i64 (0 : Int) ∧ g = cs.length - k ∧ k ≤ cs.length ∧ Only mb w3 V ∧ MapE (Value.int .i64) V mb m ∧ (∀ x : Int, mget m x = if x ∈ (cs.take k).map (·.1) then some (.bool true) else none) ∧ (∀ (j : Nat) (hj : j < cs.length), j < k → chapB (txC cs[j]) = true) ∧ ∀ (i j : Nat) (hij : i < j) (hj : j < cs.length), j < k → (cs[i]'(by omega)).1 ≠ cs[j].1) cs.length ⟨0, [], rfl, rfl, rfl, Nat.zero_le _, .ofExt (.refl _), hM3, fun x => by simp [mget], by intros; omega, by intros; omega⟩ ?_
  rintro _ sd V ⟨k, m, h19, h3, rfl, hk, hOn, hM, hmg, hpre, hid⟩
  refine W.fix h19 (W.fix (d := 3) h3 ?_)
  clear h19 h3
  have hEV : Ext w V := hOn.ext hE3 zmb
  by_cases hkc : k < cs.length
  rotate_left
  · obtain rfl : k = cs.length := by omega
    (refine jjB ?_; refine jjC ?_; refine jja rfl rfl (by omega) ?_; refine jz ?_; refine jjB ?_; refine jjK rfl ?_; refine jjE ?_; refine jjB ?_; refine jjC ?_; apply jI; exact eI rfl; apply jJ; exact eI rfl; refine jz ?_; refine jjF ?_; refine jB rfl rfl ⟨inferInstance, ?_⟩)
    rw [textB_yes h6 (fun j hj => hpre j hj hj) (fun i j hij hj => hid i j hij hj hj)]; exact rfl
  have hgk := List.getElem?_eq_getElem hkc
  have hsk := hs.2 _ (List.getElem_mem hkc)
  have hno : chapB (txC cs[k]) = false → textB (txF cs) = false := textB_chap hkc
  have hrV : RowI V (.slice a cs.length c) true 2 (cs.map encCh) := ⟨hrow.h.ext hEV⟩
  (refine jjB ?_; refine jjC ?_; refine jjZ rfl rfl (by omega) ?_; refine jz ?_; refine jjB ?_; refine jjJ rfl ?_; refine jjG ?_; refine jjB ?_; refine jjD ?_; refine jjB ?_; refine jjC ?_; refine jF rfl rfl rfl (map_get (by omega)) ?_; intro _ _ _; refine jQ rfl rfl ?_)
  (apply jjR rfl; (intro _; first|exact eI rfl|exact eB rfl|exact eP rfl|exact eS rfl|exact eT rfl|exact eA rfl|exact eU rfl|exact eF rfl|exact eM rfl|exact eN rfl|exact rfl); exact rfl; exact rfl; exact rfl; exact rfl; intro b6 w_b6 hb_b6 hs_b6 hS_b6 hk_b6; have hA_b6 := Bk.of hk_b6)
  (refine jz ?_; refine jjB ?_; refine jjB ?_; refine jjC ?_; refine jm ?_; refine jn rfl ?_; refine jN rfl rfl rfl ?_)
  (refine jjP (v := .int _ _) rfl (by exact rfl) (by exact rfl) (by exact rfl) (by exact rfl) ?_; intro b7 w_b7 hb_b7 hs_b7 hS_b7 hk_b7; have hR_b7 := RowV.one (agg := false) (k := 1) rfl hk_b7)
  obtain ⟨Bi, hi⟩ : ∃ B, inB 0 9999 cs[k].1 = B := ⟨_, rfl⟩
  skip
  refine jjQ (inOne_leaf 0 9999 cs[k].1 b7 Bi _ hi hR_b7) rfl rfl ?_
  rintro _ w8 hS8 rfl
  cases Bi
  · (refine jq rfl ?_; apply jI; exact eB rfl; refine jU rfl rfl rfl rfl ?_; refine jU rfl rfl rfl rfl ?_; refine jU rfl rfl rfl rfl ?_; refine jU rfl rfl rfl rfl ?_; apply jK rfl; exact eB rfl; apply jI; exact eB rfl; refine jU rfl rfl rfl rfl ?_; refine jU rfl rfl rfl rfl ?_; refine jU rfl rfl rfl rfl ?_; refine jU rfl rfl rfl rfl ?_; refine jU rfl rfl rfl rfl ?_; refine jU rfl rfl rfl rfl ?_; apply jK rfl; exact eB rfl; refine jz ?_; refine jjJ rfl ?_; refine jjB ?_; refine jjC ?_; apply jJ; exact eI rfl; refine jz ?_; refine jjF ?_; refine jB rfl rfl ⟨inferInstance, ?_⟩)
    rw [hno (chapB_id hi)]; exact rfl
  have hE8 : Ext V w8 := (hS_b6.ext.trans hS_b7.ext).trans hS8.ext
  have hM8 := hM.ext hE8
  (refine jp rfl ?_; apply jI; exact eB rfl; refine jT rfl rfl rfl ?_; apply jI; exact eM rfl; refine jT rfl rfl rfl ?_; refine jm ?_; refine jn rfl ?_; refine jT rfl rfl rfl ?_; refine jN rfl rfl rfl ?_; refine jT rfl rfl rfl ?_)
  refine Ops.lookup (k := cs[k].1) hM8 rfl rfl ?_
  by_cases hdup : cs[k].1 ∈ (cs.take k).map (·.1)
  · rw [hmg, if_pos hdup]
    have htb : textB (txF cs) = false := by
      obtain ⟨x, hx, hx2⟩ := List.mem_map.1 hdup
      obtain ⟨j, hj, rfl⟩ := List.mem_iff_getElem.1 hx
      rw [List.length_take] at hj
      rw [List.getElem_take] at hx2
      exact textB_dup (i := j) (by omega) hkc hx2
    (apply jL rfl; exact eB rfl; apply jI; exact eB rfl; refine jU rfl rfl rfl rfl ?_; refine jU rfl rfl rfl rfl ?_; refine jU rfl rfl rfl rfl ?_; refine jU rfl rfl rfl rfl ?_; refine jU rfl rfl rfl rfl ?_; refine jU rfl rfl rfl rfl ?_; apply jK rfl; exact eB rfl; refine jz ?_; refine jjJ rfl ?_; refine jjB ?_; refine jjC ?_; apply jJ; exact eI rfl; refine jz ?_; refine jjF ?_; refine jB rfl rfl ⟨inferInstance, ?_⟩)
    rw [htb]; exact rfl
  rw [hmg, if_neg hdup]
  (apply jL rfl; exact eB rfl; apply jI; exact eB rfl; refine jT rfl rfl rfl ?_; refine jm ?_; refine jn rfl ?_; refine jT rfl rfl rfl ?_; refine jN rfl rfl rfl ?_; refine jT rfl rfl rfl ?_; refine jh rfl ?_; refine jT rfl rfl rfl ?_)
  (refine jjP (v := .int _ _) rfl (by exact rfl) (by exact rfl) (by exact rfl) (by exact rfl) ?_; intro b9 w_b9 hb_b9 hs_b9 hS_b9 hk_b9; have hR_b9 := RowV.one (agg := false) (k := 1) rfl hk_b9)
  obtain ⟨Bl, hl⟩ : ∃ B, inB 1 10 (cs[k].2.2.2.length : Int) = B := ⟨_, rfl⟩
  (refine jT rfl rfl rfl ?_)
  refine jjQ (inOne_leaf 1 10 (cs[k].2.2.2.length : Int) b9 Bl _ hl hR_b9) rfl rfl ?_
  rintro _ w10 hS10 rfl
  cases Bl
  · (refine jT rfl rfl rfl ?_; refine jq rfl ?_; apply jL rfl; exact eB rfl; refine jz ?_; refine jjJ rfl ?_; refine jjB ?_; refine jjC ?_; apply jJ; exact eI rfl; refine jz ?_; refine jjF ?_; refine jB rfl rfl ⟨inferInstance, ?_⟩)
    rw [hno (chapB_len hl)]; exact rfl
  have hE10 : Ext V w10 := hE8.trans (hS_b9.ext.trans hS10.ext)
  (refine jT rfl rfl rfl ?_; refine jp rfl ?_; apply jL rfl; exact eB rfl; refine jz ?_; refine jjK rfl ?_; refine jjG ?_; refine jjB ?_; refine jjC ?_; apply jI; exact eM rfl; refine jm ?_; refine jn rfl ?_; refine jN rfl rfl rfl ?_)
  refine Ops.mapUpdate (k := cs[k].1) (hM.ext hE10) rfl rfl rfl ?_
  intro w11 o11 hp11 hM11
  have hOn11 : Only mb w3 w11 := (hOn.trans (.ofExt hE10)).trans (.ofPut hp11)
  have hE11 : Ext w w11 := hOn11.ext hE3 zmb
  have hne6 : b6 ≠ mb := by have := hM.lt; omega
  have hb6 : Bk w11 b6 [.int .i64 cs[k].1, .slice cs[k].2.1 cs[k].2.2.2.length cs[k].2.2.1] 68 := hp11.bk (((hA_b6.ext hS_b7.ext).ext hS8.ext).ext (hS_b9.ext.trans hS10.ext)) hne6
  have hmg11 : ∀ x : Int, mget (mset m cs[k].1 (.bool true)) x = if x ∈ (cs.take (k + 1)).map (·.1) then some (.bool true) else none := fun x => by
    rw [take_snoc_get hgk, List.map_append]
    by_cases e : x = cs[k].1
    · subst e; rw [mget_set_same, if_pos (by simp)]
    · rw [mget_set_other _ _ e, hmg]
      congr 1
      simp [e]
  have hidk : ∀ (j : Nat) (hj : j < k), (cs[j]'(by omega)).1 ≠ cs[k].1 := fun j hj he => hdup (List.mem_map.2 ⟨cs[j]'(by omega), List.mem_iff_getElem.2 ⟨j, by rw [List.length_take]; omega, by rw [List.getElem_take]⟩, he⟩)
  have hT11 : TextI w11 cs := hT.ext hE11
  clear hmg hdup hM8
  (refine jz ?_; refine jjB ?_; refine jjC ?_; refine jm ?_; refine jn rfl ?_; refine jN rfl rfl rfl ?_; refine jh rfl ?_; apply jI; exact eI rfl; refine jz ?_; refine jjD ?_)
  refine W.keep [(3, .int .i64 (0 : Int)), (4, .map (some mb)), (17, .slice a cs.length c), (18, .int .i64 ((cs.length : Nat) : Int)), (19, .int .i64 ((k : Nat) : Int)), (46, .slice cs[k].2.1 cs[k].2.2.2.length cs[k].2.2.1), (47, .int .i64 ((cs[k].2.2.2.length : Nat) : Int)), (48, .int .i64 ((0 : Nat) : Int))] (D := (20 :: 21 :: 22 :: 6 :: 23 :: 24 :: 25 :: 26 :: 27 :: 28 :: 29 :: 30 :: 31 :: 32 :: 33 :: 34 :: 35 :: 36 :: 37 :: 38 :: 39 :: 40 :: 41 :: 2 :: 42 :: 43 :: 44 :: 45 :: 46 :: 47 :: 48 :: 49 :: 50 :: 51 :: 8 :: 52 :: 53 :: 54 :: 55 :: 56 :: 57 :: 58 :: 59 :: 60 :: 3 :: 61 :: 62 :: 19 :: [])) (sO := upds s0 _) (by ((refine Same.upd rfl ?_; refine Same.upd rfl ?_; refine Same.upd rfl ?_; refine Same.upd rfl ?_; refine Same.upd rfl ?_; refine Same.upd rfl ?_; refine Same.upd rfl ?_; refine Same.upd rfl ?_; refine Same.upd rfl ?_; refine Same.upd rfl ?_; refine Same.upd rfl ?_; refine Same.upd rfl ?_; refine Same.upd rfl ?_; refine Same.upd rfl ?_; refine Same.upd rfl ?_; refine Same.upd rfl ?_; refine Same.upd rfl ?_; refine Same.upd rfl ?_; refine Same.upd rfl ?_; refine Same.upd rfl ?_; refine Same.upd rfl ?_; refine Same.upd rfl ?_; refine Same.upd rfl ?_; refine Same.upd rfl ?_; refine Same.upd rfl ?_; refine Same.upd rfl ?_; refine Same.upd rfl ?_; refine Same.upd rfl ?_; refine Same.upd rfl ?_; refine Same.upd rfl ?_; refine Same.upd rfl ?_; refine Same.upd rfl ?_; exact Same.ovN))) ⟨eI rfl, eM rfl, eS rfl, eI rfl, eI rfl, eS rfl, eI rfl, eI rfl, trivial⟩ fun s1 hs1' => ?_
  refine W.loop (49 :: 50 :: 51 :: 8 :: 52 :: 53 :: 54 :: 55 :: 56 :: 57 :: 58 :: 59 :: 60 :: 3 :: 61 :: 48 :: []) (fun g s' V => ∃ n : Nat, s' 48 = .int .i64 ((n : Nat) : Int) ∧ s' 3 = .int .i64 (0 : Int) ∧ g = cs[k].2.2.2.length - n ∧ n ≤ cs[k].2.2.2.length ∧ ∀ (j : Nat) (hj : j < cs[k].2.2.2.length), j < n → lineB cs[k].2.2.2[j].2.2 = true) cs[k].2.2.2.length ⟨0, rfl, rfl, rfl, Nat.zero_le _, by intros; omega⟩ ?_
  rintro _ sd2 w12 hS12 ⟨n, h48, h3', rfl, hn, hpre2⟩
  refine W.fix h48 (W.fix (d := 3) h3' ?_)
  clear h48 h3'
  by_cases hnl : n < cs[k].2.2.2.length
  rotate_left
  · have hyes := chapB_yes hi hl (fun j hj => hpre2 j hj (by omega))
    (refine jjB ?_; refine jjC ?_; refine jja rfl rfl (by omega) ?_; refine jz ?_; refine jjB ?_; refine jjK rfl ?_; refine jjE ?_; refine jjC ?_; refine jY rfl rfl (by omega) ?_; apply jI; exact eI rfl; refine jz ?_)
    refine ⟨rfl, by ((refine Same.upd rfl ?_; refine Same.upd rfl ?_; refine Same.upd rfl ?_; refine Same.upd rfl ?_; refine Same.upd rfl ?_; refine Same.ovN' rfl ?_; assumption)), cs.length - (k + 1), by omega, k + 1, _, congrArg (Value.int .i64) (by omega), rfl, rfl, by omega, hOn11.trans (.ofExt hS12.ext), hM11.ext hS12.ext, hmg11, fun j hj hjk => ?_, fun i' j hij hj hjk => ?_⟩
    · by_cases e : j = k
      · subst e; exact hyes
      · exact hpre j hj (by omega)
    · by_cases e : j = k
      · subst e; exact hidk i' hij
      · exact hid i' j hij hj (by omega)
  have hsn := hsk.2 _ (List.getElem_mem hnl)
  have hnoL : lineB cs[k].2.2.2[n].2.2 = false → textB (txF cs) = false := fun h => hno (chapB_line hnl h)
  have hT12 : TextI w12 cs := hT11.ext hS12.ext
  have hE12 : Ext w w12 := hE11.trans hS12.ext
  have i2 := hT12.line hkc
  have hLR := (hT12.word hkc hnl).h
  obtain ⟨Bn, hln⟩ : ∃ B, inB 1 10 (cs[k].2.2.2[n].2.2.length : Int) = B := ⟨_, rfl⟩
  (refine jjB ?_; refine jjC ?_; refine jjZ rfl rfl (by omega) ?_; refine jz ?_; refine jjB ?_; refine jjJ rfl ?_; refine jjG ?_; refine jjB ?_; refine jjD ?_; refine jjB ?_; refine jjC ?_; refine jF rfl rfl rfl (map_get (by omega)) ?_; intro _ _ _; refine jQ rfl rfl ?_; apply jJ; exact eS rfl; refine jz ?_; refine jjB ?_; refine jjC ?_; apply jI; exact eS rfl; refine jh rfl ?_)
  (refine jjP (v := .int _ _) rfl (by exact rfl) (by exact rfl) (by exact rfl) (by exact rfl) ?_; intro b13 w_b13 hb_b13 hs_b13 hS_b13 hk_b13; have hR_b13 := RowV.one (agg := false) (k := 1) rfl hk_b13)
  refine jjQ (inOne_leaf 1 10 (cs[k].2.2.2[n].2.2.length : Int) b13 Bn _ hln hR_b13) rfl rfl ?_
  rintro _ w14 hS14 rfl
  cases Bn
  · (refine jq rfl ?_; apply jI; exact eB rfl; refine jU rfl rfl rfl rfl ?_; refine jU rfl rfl rfl rfl ?_; apply jK rfl; exact eB rfl; refine jz ?_; refine jjJ rfl ?_; refine jjB ?_; refine jjC ?_; apply jJ; exact eI rfl; refine jz ?_; refine jjE ?_; refine jjB ?_; refine jjC ?_; apply jI; exact eI rfl; apply jJ; exact eI rfl; refine jz ?_; refine jjF ?_; refine jB rfl rfl ⟨inferInstance, ?_⟩)
    rw [hnoL (lineB_len hln)]; exact rfl
  have hE14 : Ext w12 w14 := hS_b13.ext.trans hS14.ext
  obtain ⟨Bw, hw⟩ : ∃ B, (cs[k].2.2.2[n].2.2).any (fun s => !wordB s) = B := ⟨_, rfl⟩
  (refine jp rfl ?_; apply jI; exact eB rfl; refine jT rfl rfl rfl ?_; apply jI; exact eS rfl; refine jT rfl rfl rfl ?_)
  refine jjQ ((ContainsFunc_string _ _ (.func (.func 74) #[] #[]) strV cs[k].2.2.2[n].2.2 (fun s => !wordB s) (hLR.ext hE14) ⟨_, [], rfl, inferInstance, fun w' x hx hs' => Check1_leaf x w' (hsn.2 x hx)⟩).mono fun v _ _ e => e.trans (by rw [hw])) rfl rfl ?_
  rintro _ w15 hS15 rfl
  rw [not_words] at hw
  cases Bw
  · have hyes : lineB cs[k].2.2.2[n].2.2 = true := by
      have : (cs[k].2.2.2[n].2.2).all wordB = true := by simpa using hw
      rw [lineB, hln, this]; rfl
    (apply jL rfl; exact eB rfl; refine jz ?_; refine jjK rfl ?_; refine jjG ?_; refine jjC ?_; refine jY rfl rfl (by omega) ?_; apply jI; exact eI rfl; refine jz ?_)
    refine ⟨rfl, by ((refine Same.upd rfl ?_; refine Same.upd rfl ?_; refine Same.upd rfl ?_; refine Same.upd rfl ?_; refine Same.upd rfl ?_; refine Same.upd rfl ?_; refine Same.upd rfl ?_; refine Same.upd rfl ?_; refine Same.upd rfl ?_; refine Same.upd rfl ?_; refine Same.upd rfl ?_; refine Same.upd rfl ?_; refine Same.upd rfl ?_; refine Same.upd rfl ?_; refine Same.upd rfl ?_; refine Same.upd rfl ?_; refine Same.upd rfl ?_; exact Same.ovN)), cs[k].2.2.2.length - (n + 1), by omega, inferInstance, n + 1, congrArg (Value.int .i64) (by omega), rfl, rfl, by omega, fun j hj hjk => ?_⟩
    by_cases e : j = n
    · subst e; exact hyes
    · exact hpre2 j hj (by omega)
  · have hbad : lineB cs[k].2.2.2[n].2.2 = false := by
      have : (cs[k].2.2.2[n].2.2).all wordB = false := by simpa using hw
      rw [lineB, this, Bool.and_false]
    (apply jL rfl; exact eB rfl; refine jz ?_; refine jjJ rfl ?_; refine jjB ?_; refine jjC ?_; apply jJ; exact eI rfl; refine jz ?_; refine jjE ?_; refine jjB ?_; refine jjC ?_; apply jI; exact eI rfl; apply jJ; exact eI rfl; refine jz ?_; refine jjF ?_; refine jB rfl rfl ⟨inferInstance, ?_⟩)
    rw [hnoL hbad]; exact rfl
end
end Go.Proofs.YtgmgiepdehlinaaDoor

/- The reference of leaf: Great. -/
namespace Go.Proofs.YtgmgiepdehlinaaDoor
open Go.RowKit

section
variable (a : Option Addr) (c : Nat) (cs : List Ch) (w : World) [hrow : RowI w (.slice a cs.length c) true 2 (cs.map encCh)] [hT : TextI w cs]
set_option maxHeartbeats 2000000 in
theorem Great_ref1 : Ct Tryd.prog 5 [.agg #[.slice a cs.length c]] w fun v _ => v = .bool (greatT (txF cs)) := by
  have hlen : (txF cs).length = cs.length := by simp [txF]
  refine Ct.ofW (by simp) ?_
  (refine jjB ?_; refine jjC ?_)
  (refine jy rfl ?_; intro b1 w_b1 hb_b1 hs_b1 hS_b1 hk_b1; have hA_b1 := At.ofBlock hk_b1)
  by_cases h10 : 10 < cs.length
  · (apply jJ; exact eB rfl; refine jz ?_; refine jjB ?_; refine jjB ?_; refine jjC ?_; refine jm ?_; refine jn rfl ?_; refine jN rfl rfl rfl ?_; refine jh rfl ?_; refine jjd rfl rfl (by omega) ?_; refine jz ?_; refine jjJ rfl ?_; refine jjB ?_; refine jjC ?_; apply jJ; exact eB rfl; refine jz ?_; refine jjF ?_; refine jB rfl rfl ⟨inferInstance, ?_⟩)
    have : greatT (txF cs) = true := by rw [greatT, hlen, decide_eq_true h10, Bool.true_or]
    rw [this]; exact rfl
  (apply jJ; exact eB rfl; refine jz ?_; refine jjB ?_; refine jjB ?_; refine jjC ?_; refine jm ?_; refine jn rfl ?_; refine jN rfl rfl rfl ?_; refine jh rfl ?_; refine jje rfl rfl (by omega) ?_; refine jz ?_; refine jjK rfl ?_; refine jjG ?_; refine jjB ?_; refine jjB ?_; refine jjC ?_; apply jJ; exact eI rfl; refine jz ?_; refine jjD ?_)
  have hC : ∀ (k : Nat) (hk : k < cs.length), greatC (cs[k].1, cs[k].2.2.2.map (·.2.2)) = true → greatT (txF cs) = true := fun k hk h => by
    have : (txF cs).any greatC = true := any_hit (k := k) (by rw [hlen]; exact hk) (by simpa [txF] using h)
    rw [greatT, this, Bool.or_true]
  refine W.keep0 [(1, .pointer (some ⟨b1, 0, none⟩)), (3, .int .i64 ((0 : Nat) : Int))] ⟨eP rfl, eI rfl, trivial⟩ fun s0 => ?_
  refine W.loop (10 :: 11 :: 12 :: 13 :: 14 :: 17 :: 18 :: 19 :: 20 :: 21 :: 22 :: 23 :: 24 :: 2 :: 4 :: 25 :: 26 :: 27 :: 28 :: 29 :: 30 :: 31 :: 32 :: 33 :: 36 :: 37 :: 38 :: 39 :: 40 :: 41 :: 42 :: 43 :: 44 :: 45 :: 46 :: 5 :: 47 :: 48 :: 49 :: 50 :: 51 :: 52 :: 53 :: 54 :: 55 :: 56 :: 57 :: 58 :: 61 :: 62 :: 63 :: 64 :: 65 :: 66 :: 67 :: 68 :: 69 :: 70 :: 71 :: 72 :: 73 :: 74 :: 59 :: 60 :: 34 :: 35 :: 15 :: 16 :: 3 :: []) (fun g s' V => ∃ k : Nat, s' 3 = .int .i64 ((k : Nat) : Int) ∧ g = cs.length - k ∧ k ≤ cs.length ∧ ∀ (j : Nat) (hj : j < cs.length), j < k → greatC (cs[j].1, cs[j].2.2.2.map (·.2.2)) = false) cs.length ⟨0, rfl, rfl, Nat.zero_le _, by intros; omega⟩ ?_
  rintro _ sd w1 hS1 ⟨k, h3, rfl, hk, hpre⟩
  refine W.fix h3 ?_
  clear h3
  by_cases hkc : k < cs.length
  rotate_left
  · obtain rfl : k = cs.length := by omega
    have : greatT (txF cs) = false := by
      have h1 : (txF cs).any greatC = false := any_miss fun j hj => by
        have hj' : j < cs.length := by rw [← hlen]; exact hj
        simpa [txF] using hpre j hj' hj'
      rw [greatT, h1, hlen, decide_eq_false h10]; rfl
    (refine jjB ?_; refine jjB ?_; refine jjC ?_; apply jI; exact eI rfl; refine jm ?_; refine jn rfl ?_; refine jN rfl rfl rfl ?_; refine jh rfl ?_; refine jja rfl rfl (by omega) ?_; refine jz ?_; refine jjK rfl ?_; refine jjE ?_; refine jjB ?_; refine jjC ?_; apply jJ; exact eB rfl; refine jz ?_; refine jjF ?_; refine jB rfl rfl ⟨inferInstance, ?_⟩)
    rw [this]; exact rfl
  have hTk : TextI w1 cs := inferInstance
  have i1 := hTk.line hkc
  have hCk := hC k hkc
  by_cases h15 : 15 < cs[k].2.2.2.length
  · (refine jjB ?_; refine jjB ?_; refine jjC ?_; apply jI; exact eI rfl; refine jm ?_; refine jn rfl ?_; refine jN rfl rfl rfl ?_; refine jh rfl ?_; refine jjZ rfl rfl (by omega) ?_; refine jz ?_; refine jjJ rfl ?_; refine jjG ?_; refine jjB ?_; refine jjD ?_; refine jjB ?_; refine jjB ?_; refine jjC ?_; refine jm ?_; refine jn rfl ?_; refine jN rfl rfl rfl ?_; apply jI; exact eI rfl; refine jF rfl rfl rfl (map_get (by omega)) ?_; intro _ _ _; refine jm ?_; refine jn rfl ?_; refine jP rfl rfl rfl ?_; refine jh rfl ?_; refine jjd rfl rfl (by omega) ?_; refine jz ?_; refine jjJ rfl ?_; refine jjB ?_; refine jjC ?_; apply jJ; exact eB rfl; refine jz ?_; refine jjF ?_; refine jB rfl rfl ⟨inferInstance, ?_⟩)
    rw [hCk (by rw [greatC, List.length_map, decide_eq_true h15, Bool.true_or])]; exact rfl
  (refine jjB ?_; refine jjB ?_; refine jjC ?_; apply jI; exact eI rfl; refine jm ?_; refine jn rfl ?_; refine jN rfl rfl rfl ?_; refine jh rfl ?_; refine jjZ rfl rfl (by omega) ?_; refine jz ?_; refine jjJ rfl ?_; refine jjG ?_; refine jjB ?_; refine jjD ?_; refine jjB ?_; refine jjB ?_; refine jjC ?_; refine jm ?_; refine jn rfl ?_; refine jN rfl rfl rfl ?_; apply jI; exact eI rfl; refine jF rfl rfl rfl (map_get (by omega)) ?_; intro _ _ _; refine jm ?_; refine jn rfl ?_; refine jP rfl rfl rfl ?_; refine jh rfl ?_; refine jje rfl rfl (by omega) ?_; refine jz ?_; refine jjK rfl ?_; refine jjG ?_; refine jjB ?_; refine jjC ?_; apply jJ; exact eI rfl; refine jz ?_; refine jjD ?_)
  refine W.keep [(1, .pointer (some ⟨b1, 0, none⟩)), (3, .int .i64 ((k : Nat) : Int)), (4, .int .i64 ((0 : Nat) : Int))] (D := (10 :: 11 :: 12 :: 13 :: 14 :: 17 :: 18 :: 19 :: 20 :: 21 :: 22 :: 23 :: 24 :: 2 :: 4 :: 25 :: 26 :: 27 :: 28 :: 29 :: 30 :: 31 :: 32 :: 33 :: 36 :: 37 :: 38 :: 39 :: 40 :: 41 :: 42 :: 43 :: 44 :: 45 :: 46 :: 5 :: 47 :: 48 :: 49 :: 50 :: 51 :: 52 :: 53 :: 54 :: 55 :: 56 :: 57 :: 58 :: 61 :: 62 :: 63 :: 64 :: 65 :: 66 :: 67 :: 68 :: 69 :: 70 :: 71 :: 72 :: 73 :: 74 :: 59 :: 60 :: 34 :: 35 :: 15 :: 16 :: 3 :: [])) (sO := upds s0 _) (by ((refine Same.upd rfl ?_; refine Same.upd rfl ?_; refine Same.upd rfl ?_; refine Same.upd rfl ?_; refine Same.upd rfl ?_; refine Same.upd rfl ?_; refine Same.upd rfl ?_; refine Same.upd rfl ?_; refine Same.upd rfl ?_; refine Same.upd rfl ?_; refine Same.upd rfl ?_; refine Same.upd rfl ?_; refine Same.upd rfl ?_; refine Same.upd rfl ?_; refine Same.upd rfl ?_; exact Same.ovN))) ⟨eP rfl, eI rfl, eI rfl, trivial⟩ fun s1 hs1 => ?_
  refine W.loop (25 :: 26 :: 27 :: 28 :: 29 :: 30 :: 31 :: 32 :: 33 :: 36 :: 37 :: 38 :: 39 :: 40 :: 41 :: 42 :: 43 :: 44 :: 45 :: 46 :: 2 :: 5 :: 47 :: 48 :: 49 :: 50 :: 51 :: 52 :: 53 :: 54 :: 55 :: 56 :: 57 :: 58 :: 61 :: 62 :: 63 :: 64 :: 65 :: 66 :: 67 :: 68 :: 69 :: 70 :: 71 :: 72 :: 73 :: 74 :: 59 :: 60 :: 34 :: 35 :: 4 :: []) (fun g s' V => ∃ n : Nat, s' 4 = .int .i64 ((n : Nat) : Int) ∧ g = cs[k].2.2.2.length - n ∧ n ≤ cs[k].2.2.2.length ∧ ∀ (j : Nat) (hj : j < cs[k].2.2.2.length), j < n → greatL cs[k].2.2.2[j].2.2 = false) cs[k].2.2.2.length ⟨0, rfl, rfl, Nat.zero_le _, by intros; omega⟩ ?_
  rintro _ sd2 w2 hS2 ⟨n, h4, rfl, hn, hpre2⟩
  refine W.fix h4 ?_
  clear h4
  by_cases hnl : n < cs[k].2.2.2.length
  rotate_left
  · have hne : n = cs[k].2.2.2.length := by omega
    have hCf : greatC (cs[k].1, cs[k].2.2.2.map (·.2.2)) = false := by
      have h1 : (cs[k].2.2.2.map (·.2.2)).any greatL = false := any_miss fun j hj => by
        rw [List.length_map] at hj
        rw [List.getElem_map]
        exact hpre2 j hj (by omega)
      rw [greatC, h1, List.length_map, decide_eq_false h15]; rfl
    (refine jjB ?_; refine jjB ?_; refine jjC ?_; apply jI; exact eI rfl; refine jm ?_; refine jn rfl ?_; refine jN rfl rfl rfl ?_; apply jI; exact eI rfl; refine jF rfl rfl rfl (map_get (by omega)) ?_; intro _ _ _; refine jm ?_; refine jn rfl ?_; refine jP rfl rfl rfl ?_; refine jh rfl ?_; refine jja rfl rfl (by omega) ?_; refine jz ?_; refine jjK rfl ?_; refine jjE ?_; refine jjC ?_; apply jI; exact eI rfl; refine jY rfl rfl (by omega) ?_; apply jJ; exact eI rfl; refine jz ?_)
    refine ⟨rfl, by ((refine Same.upd rfl ?_; refine Same.upd rfl ?_; refine Same.upd rfl ?_; refine Same.upd rfl ?_; refine Same.upd rfl ?_; refine Same.upd rfl ?_; refine Same.upd rfl ?_; refine Same.upd rfl ?_; refine Same.upd rfl ?_; refine Same.upd rfl ?_; refine Same.upd rfl ?_; refine Same.upd rfl ?_; refine Same.upd rfl ?_; refine Same.ovN' rfl ?_; assumption)), cs.length - (k + 1), by omega, inferInstance, k + 1, congrArg (Value.int .i64) (by omega), rfl, by omega, fun j hj hjk => ?_⟩
    by_cases e : j = k
    · subst e; exact hCf
    · exact hpre j hj (by omega)
  have hTk2 : TextI w2 cs := inferInstance
  have i2 := hTk2.line hkc
  have i3 := hTk2.word hkc hnl
  have hLk : greatL cs[k].2.2.2[n].2.2 = true → greatT (txF cs) = true := fun h => hCk (by
    have : (cs[k].2.2.2.map (·.2.2)).any greatL = true := any_hit (k := n) (by rw [List.length_map]; exact hnl) (by rw [List.getElem_map]; exact h)
    rw [greatC, this, Bool.or_true])
  by_cases h15' : 15 < cs[k].2.2.2[n].2.2.length
  · (refine jjB ?_; refine jjB ?_; refine jjC ?_; apply jI; exact eI rfl; refine jm ?_; refine jn rfl ?_; refine jN rfl rfl rfl ?_; apply jI; exact eI rfl; refine jF rfl rfl rfl (map_get (by omega)) ?_; intro _ _ _; refine jm ?_; refine jn rfl ?_; refine jP rfl rfl rfl ?_; refine jh rfl ?_; refine jjZ rfl rfl (by omega) ?_; refine jz ?_; refine jjJ rfl ?_; refine jjG ?_; refine jjB ?_; refine jjD ?_; refine jjB ?_; refine jjB ?_; refine jjC ?_; refine jm ?_; refine jn rfl ?_; refine jN rfl rfl rfl ?_; apply jI; exact eI rfl; refine jF rfl rfl rfl (map_get (by omega)) ?_; intro _ _ _; refine jm ?_; refine jn rfl ?_; refine jP rfl rfl rfl ?_; apply jI; exact eI rfl; refine jF rfl rfl rfl (map_get (by omega)) ?_; intro _ _ _; refine jQ rfl rfl ?_; refine jh rfl ?_; refine jjd rfl rfl (by omega) ?_; refine jz ?_; refine jjJ rfl ?_; refine jjB ?_; refine jjC ?_; apply jJ; exact eB rfl; refine jz ?_; refine jjF ?_; refine jB rfl rfl ⟨inferInstance, ?_⟩)
    rw [hLk (by rw [greatL, decide_eq_true h15', Bool.true_or])]; exact rfl
  (refine jjB ?_; refine jjB ?_; refine jjC ?_; apply jI; exact eI rfl; refine jm ?_; refine jn rfl ?_; refine jN rfl rfl rfl ?_; apply jI; exact eI rfl; refine jF rfl rfl rfl (map_get (by omega)) ?_; intro _ _ _; refine jm ?_; refine jn rfl ?_; refine jP rfl rfl rfl ?_; refine jh rfl ?_; refine jjZ rfl rfl (by omega) ?_; refine jz ?_; refine jjJ rfl ?_; refine jjG ?_; refine jjB ?_; refine jjD ?_; refine jjB ?_; refine jjB ?_; refine jjC ?_; refine jm ?_; refine jn rfl ?_; refine jN rfl rfl rfl ?_; apply jI; exact eI rfl; refine jF rfl rfl rfl (map_get (by omega)) ?_; intro _ _ _; refine jm ?_; refine jn rfl ?_; refine jP rfl rfl rfl ?_; apply jI; exact eI rfl; refine jF rfl rfl rfl (map_get (by omega)) ?_; intro _ _ _; refine jQ rfl rfl ?_; refine jh rfl ?_; refine jje rfl rfl (by omega) ?_; refine jz ?_; refine jjK rfl ?_; refine jjG ?_; refine jjB ?_; refine jjC ?_; apply jJ; exact eI rfl; refine jz ?_; refine jjD ?_)
  refine W.keep [(1, .pointer (some ⟨b1, 0, none⟩)), (3, .int .i64 ((k : Nat) : Int)), (4, .int .i64 ((n : Nat) : Int)), (5, .int .i64 ((0 : Nat) : Int))] (D := (25 :: 26 :: 27 :: 28 :: 29 :: 30 :: 31 :: 32 :: 33 :: 36 :: 37 :: 38 :: 39 :: 40 :: 41 :: 42 :: 43 :: 44 :: 45 :: 46 :: 2 :: 5 :: 47 :: 48 :: 49 :: 50 :: 51 :: 52 :: 53 :: 54 :: 55 :: 56 :: 57 :: 58 :: 61 :: 62 :: 63 :: 64 :: 65 :: 66 :: 67 :: 68 :: 69 :: 70 :: 71 :: 72 :: 73 :: 74 :: 59 :: 60 :: 34 :: 35 :: 4 :: [])) (sO := upds s1 _) (by ((refine Same.upd rfl ?_; refine Same.upd rfl ?_; refine Same.upd rfl ?_; refine Same.upd rfl ?_; refine Same.upd rfl ?_; refine Same.upd rfl ?_; refine Same.upd rfl ?_; refine Same.upd rfl ?_; refine Same.upd rfl ?_; refine Same.upd rfl ?_; refine Same.upd rfl ?_; refine Same.upd rfl ?_; refine Same.upd rfl ?_; refine Same.upd rfl ?_; refine Same.upd rfl ?_; refine Same.upd rfl ?_; refine Same.upd rfl ?_; refine Same.upd rfl ?_; refine Same.upd rfl ?_; refine Same.upd rfl ?_; refine Same.upd rfl ?_; refine Same.upd rfl ?_; exact Same.ovN))) ⟨eP rfl, eI rfl, eI rfl, eI rfl, trivial⟩ fun s2 hs2 => ?_
  refine W.loop (47 :: 48 :: 49 :: 50 :: 51 :: 52 :: 53 :: 54 :: 55 :: 56 :: 57 :: 58 :: 61 :: 62 :: 63 :: 64 :: 65 :: 66 :: 67 :: 68 :: 69 :: 70 :: 71 :: 72 :: 73 :: 74 :: 2 :: 59 :: 60 :: 5 :: []) (fun g s' V => ∃ q : Nat, s' 5 = .int .i64 ((q : Nat) : Int) ∧ g = cs[k].2.2.2[n].2.2.length - q ∧ q ≤ cs[k].2.2.2[n].2.2.length ∧ ∀ (j : Nat) (hj : j < cs[k].2.2.2[n].2.2.length), j < q → ¬ 40 < cs[k].2.2.2[n].2.2[j].size) cs[k].2.2.2[n].2.2.length ⟨0, rfl, rfl, Nat.zero_le _, by intros; omega⟩ ?_
  rintro _ sd3 w3 hS3 ⟨q, h5, rfl, hq, hpre3⟩
  refine W.fix h5 ?_
  clear h5
  have hTk3 : TextI w3 cs := inferInstance
  have i4 := hTk3.line hkc
  have i5 := hTk3.word hkc hnl
  by_cases hql : q < cs[k].2.2.2[n].2.2.length
  · by_cases h40 : 40 < cs[k].2.2.2[n].2.2[q].size
    · (refine jjB ?_; refine jjB ?_; refine jjC ?_; apply jI; exact eI rfl; refine jm ?_; refine jn rfl ?_; refine jN rfl rfl rfl ?_; apply jI; exact eI rfl; refine jF rfl rfl rfl (map_get (by omega)) ?_; intro _ _ _; refine jm ?_; refine jn rfl ?_; refine jP rfl rfl rfl ?_; apply jI; exact eI rfl; refine jF rfl rfl rfl (map_get (by omega)) ?_; intro _ _ _; refine jQ rfl rfl ?_; refine jh rfl ?_; refine jjZ rfl rfl (by omega) ?_; refine jz ?_; refine jjJ rfl ?_; refine jjG ?_; refine jjB ?_; refine jjD ?_; refine jjB ?_; refine jjC ?_; refine jm ?_; refine jn rfl ?_; refine jN rfl rfl rfl ?_; apply jI; exact eI rfl; refine jF rfl rfl rfl (map_get (by omega)) ?_; intro _ _ _; refine jm ?_; refine jn rfl ?_; refine jP rfl rfl rfl ?_; apply jI; exact eI rfl; refine jF rfl rfl rfl (map_get (by omega)) ?_; intro _ _ _; refine jQ rfl rfl ?_; apply jI; exact eI rfl; refine jF rfl rfl rfl (map_get (by omega)) ?_; intro _ _ _; refine jQ rfl rfl ?_; refine ji rfl ?_; refine jjd rfl rfl (by omega) ?_; refine jz ?_; refine jjJ rfl ?_; refine jjB ?_; refine jjC ?_; apply jJ; exact eB rfl; refine jz ?_; refine jjF ?_; refine jB rfl rfl ⟨inferInstance, ?_⟩)
      rw [hLk (by
        have : (cs[k].2.2.2[n].2.2).any (fun s => decide (40 < s.size)) = true := any_hit hql (decide_eq_true h40)
        rw [greatL, this, Bool.or_true])]; exact rfl
    · (refine jjB ?_; refine jjB ?_; refine jjC ?_; apply jI; exact eI rfl; refine jm ?_; refine jn rfl ?_; refine jN rfl rfl rfl ?_; apply jI; exact eI rfl; refine jF rfl rfl rfl (map_get (by omega)) ?_; intro _ _ _; refine jm ?_; refine jn rfl ?_; refine jP rfl rfl rfl ?_; apply jI; exact eI rfl; refine jF rfl rfl rfl (map_get (by omega)) ?_; intro _ _ _; refine jQ rfl rfl ?_; refine jh rfl ?_; refine jjZ rfl rfl (by omega) ?_; refine jz ?_; refine jjJ rfl ?_; refine jjG ?_; refine jjB ?_; refine jjD ?_; refine jjB ?_; refine jjC ?_; refine jm ?_; refine jn rfl ?_; refine jN rfl rfl rfl ?_; apply jI; exact eI rfl; refine jF rfl rfl rfl (map_get (by omega)) ?_; intro _ _ _; refine jm ?_; refine jn rfl ?_; refine jP rfl rfl rfl ?_; apply jI; exact eI rfl; refine jF rfl rfl rfl (map_get (by omega)) ?_; intro _ _ _; refine jQ rfl rfl ?_; apply jI; exact eI rfl; refine jF rfl rfl rfl (map_get (by omega)) ?_; intro _ _ _; refine jQ rfl rfl ?_; refine ji rfl ?_; refine jje rfl rfl (by omega) ?_; refine jz ?_; refine jjK rfl ?_; refine jjG ?_; refine jjC ?_; apply jI; exact eI rfl; refine jY rfl rfl (by omega) ?_; apply jJ; exact eI rfl; refine jz ?_)
      refine ⟨rfl, by ((refine Same.upd rfl ?_; refine Same.upd rfl ?_; refine Same.upd rfl ?_; refine Same.upd rfl ?_; refine Same.upd rfl ?_; refine Same.upd rfl ?_; refine Same.upd rfl ?_; refine Same.upd rfl ?_; refine Same.upd rfl ?_; refine Same.upd rfl ?_; refine Same.upd rfl ?_; refine Same.upd rfl ?_; refine Same.upd rfl ?_; refine Same.upd rfl ?_; refine Same.upd rfl ?_; refine Same.upd rfl ?_; refine Same.upd rfl ?_; refine Same.upd rfl ?_; refine Same.upd rfl ?_; refine Same.upd rfl ?_; refine Same.upd rfl ?_; refine Same.upd rfl ?_; refine Same.upd rfl ?_; refine Same.upd rfl ?_; refine Same.upd rfl ?_; refine Same.upd rfl ?_; refine Same.upd rfl ?_; refine Same.upd rfl ?_; refine Same.upd rfl ?_; refine Same.upd rfl ?_; exact Same.ovN)), cs[k].2.2.2[n].2.2.length - (q + 1), by omega, inferInstance, q + 1, congrArg (Value.int .i64) (by omega), rfl, by omega, fun j hj hjk => ?_⟩
      by_cases e : j = q
      · subst e; exact h40
      · exact hpre3 j hj (by omega)
  · have hLf : greatL cs[k].2.2.2[n].2.2 = false := by
      have h1 : (cs[k].2.2.2[n].2.2).any (fun s => decide (40 < s.size)) = false := any_miss fun j hj => decide_eq_false (hpre3 j hj (by omega))
      rw [greatL, h1, decide_eq_false h15']; rfl
    (refine jjB ?_; refine jjB ?_; refine jjC ?_; apply jI; exact eI rfl; refine jm ?_; refine jn rfl ?_; refine jN rfl rfl rfl ?_; apply jI; exact eI rfl; refine jF rfl rfl rfl (map_get (by omega)) ?_; intro _ _ _; refine jm ?_; refine jn rfl ?_; refine jP rfl rfl rfl ?_; apply jI; exact eI rfl; refine jF rfl rfl rfl (map_get (by omega)) ?_; intro _ _ _; refine jQ rfl rfl ?_; refine jh rfl ?_; refine jja rfl rfl (by omega) ?_; refine jz ?_; refine jjK rfl ?_; refine jjE ?_; refine jjC ?_; apply jI; exact eI rfl; refine jY rfl rfl (by omega) ?_; apply jJ; exact eI rfl; refine jz ?_)
    refine ⟨rfl, by ((refine Same.upd rfl ?_; refine Same.upd rfl ?_; refine Same.upd rfl ?_; refine Same.upd rfl ?_; refine Same.upd rfl ?_; refine Same.upd rfl ?_; refine Same.upd rfl ?_; refine Same.upd rfl ?_; refine Same.upd rfl ?_; refine Same.upd rfl ?_; refine Same.upd rfl ?_; refine Same.upd rfl ?_; refine Same.upd rfl ?_; refine Same.upd rfl ?_; refine Same.upd rfl ?_; refine Same.upd rfl ?_; refine Same.ovN' rfl ?_; assumption)), cs[k].2.2.2.length - (n + 1), by omega, inferInstance, n + 1, congrArg (Value.int .i64) (by omega), rfl, by omega, fun j hj hjk => ?_⟩
    by_cases e : j = n
    · subst e; exact hLf
    · exact hpre2 j hj (by omega)
end
end Go.Proofs.YtgmgiepdehlinaaDoor

/- within and Word of the reference. -/
namespace Go.Proofs.YtgmgiepdehlinaaDoor
open Go.RowKit

theorem within_postilref01 (n lo hi : Int) (w : World) : Ct Tryd.prog 51 [.int .i64 n, .int .i64 lo, .int .i64 hi] w fun v _ => v = .bool (inB lo hi n) := by
  refine Ct.ofW (by simp) ?_
  repeat' (first|((first|apply jI|apply jJ|apply jK rfl|apply jL rfl); (first|exact eI rfl|exact eB rfl))|(refine jS ?_; (first|refine jT rfl rfl rfl ?_|refine jU rfl rfl rfl rfl ?_))|(refine jW ?_; (first|refine jd rfl rfl ?_|refine jf rfl rfl ?_))|refine jz ?_|(refine jjA ?_; (first|refine jjB ?_|refine jjC ?_|refine jjF ?_))|(refine jS ?_; (refine jjL rfl rfl ?_ ?_ <;> intro _))|refine jB rfl rfl ⟨inferInstance, ?_⟩)
  · exact congrArg Value.bool (by simp only [inB, decide_eq_decide]; omega)
  · exact congrArg Value.bool (by simp only [inB, Bool.false_eq, decide_eq_false_iff_not]; omega)


theorem within_postilref03 (n lo hi : Int) (w : World) : Ct Tryd.prog 61 [.int .i64 n, .int .i64 lo, .int .i64 hi] w fun v _ => v = .bool (inB lo hi n) := by
  refine Ct.ofW (by simp) ?_
  repeat' (first|((first|apply jI|apply jJ|apply jK rfl|apply jL rfl); (first|exact eI rfl|exact eB rfl))|(refine jS ?_; (first|refine jT rfl rfl rfl ?_|refine jU rfl rfl rfl rfl ?_))|(refine jW ?_; (first|refine jd rfl rfl ?_|refine jf rfl rfl ?_))|refine jz ?_|(refine jjA ?_; (first|refine jjB ?_|refine jjC ?_|refine jjF ?_))|(refine jS ?_; (refine jjL rfl rfl ?_ ?_ <;> intro _))|refine jB rfl rfl ⟨inferInstance, ?_⟩)
  · exact congrArg Value.bool (by simp only [inB, decide_eq_decide]; omega)
  · exact congrArg Value.bool (by simp only [inB, Bool.false_eq, decide_eq_false_iff_not]; omega)


theorem word_low {s : ByteArray} (h : ∀ j (hj : j < s.size), lowB s[j] = true) : s.data.toList.all lowB = true := by
  rw [List.all_eq_true]
  intro c hc
  obtain ⟨j, hj, rfl⟩ := List.getElem_of_mem hc
  exact h j (by simpa using hj)
theorem word_bad {s : ByteArray} {j : Nat} (hj : j < s.size) (h : lowB s[j] = false) : false = wordB s := by
  have : s.data.toList.all lowB = false := by
    rw [List.all_eq_false]
    exact ⟨s[j], by simp [ByteArray.getElem_eq_getElem_data], by simp [h]⟩
  simp [wordB, this]
theorem lowB_no {c : UInt8} (h : (c.toNat : Int) < 97 ∨ 122 < (c.toNat : Int)) : lowB c = false := by simp only [lowB, decide_eq_false_iff_not]; omega
theorem lowB_yes {c : UInt8} (h1 : ¬ (c.toNat : Int) < 97) (h2 : ¬ 122 < (c.toNat : Int)) : lowB c = true := by simp only [lowB, decide_eq_true_eq]; omega

theorem Word_ref (s : ByteArray) (w : World) (hs : s.size ≤ 140737488355328) : Ct Tryd.prog 66 [.string s] w fun v _ => v = .bool (wordB s) := by
  refine Ct.ofW (by simp) ?_
  (refine jjB ?_; refine jjC ?_; apply jJ; exact eB rfl; refine jz ?_; refine jjB ?_; refine jjB ?_; refine jjC ?_; apply jJ; exact eI rfl; refine jz ?_; refine jjD ?_)
  refine W.loop (4 :: 5 :: 6 :: 7 :: 10 :: 11 :: 12 :: 13 :: 14 :: 15 :: 16 :: 17 :: 18 :: 19 :: 2 :: 8 :: 9 :: 3 :: []) (fun g s' _ => ∃ k : Nat, s' 3 = .int .i64 k ∧ g = s.size - k ∧ k ≤ s.size ∧ ∀ (j : Nat) (hj : j < s.size), j < k → lowB s[j] = true) s.size ⟨0, rfl, by omega, by omega, by intros; omega⟩ ?_
  rintro _ d w' hS ⟨k, h3, rfl, hk, hpre⟩
  refine W.fix h3 ?_
  repeat' (first|((first|apply jI|apply jJ|apply jK rfl|apply jL rfl); (first|exact eI rfl|exact eB rfl|exact eT rfl))|(refine jS ?_; (first|refine jT rfl rfl rfl ?_|refine jU rfl rfl rfl rfl ?_))|(refine jW ?_; (first|refine jX rfl rfl ?_|refine jY rfl rfl (by omega) ?_|refine je rfl rfl ?_))|(refine jg ?_; refine ji rfl ?_)|refine jt rfl rfl rfl (by omega) ?_|refine jz ?_|(refine jjA ?_; (first|refine jjB ?_|refine jjC ?_|refine jjD ?_|refine jjE ?_|refine jjF ?_|refine jjG ?_|refine jjJ rfl ?_))|(refine jS ?_; (refine jjL rfl rfl ?_ ?_ <;> intro _))|(refine jjA ?_; (refine jjN rfl ?_ ?_ <;> intro _))|refine jB rfl rfl ⟨inferInstance, ?_⟩)
  · exact congrArg Value.bool (word_bad (j := k) (by omega) (lowB_no (.inl ‹_›)))
  · exact congrArg Value.bool (word_bad (j := k) (by omega) (lowB_no (.inr ‹_›)))
  · refine ⟨rfl, by ((refine Same.upd rfl ?_; refine Same.upd rfl ?_; refine Same.upd rfl ?_; refine Same.upd rfl ?_; refine Same.upd rfl ?_; refine Same.upd rfl ?_; refine Same.upd rfl ?_; refine Same.upd rfl ?_; refine Same.upd rfl ?_; refine Same.upd rfl ?_; refine Same.upd rfl ?_; refine Same.upd rfl ?_; refine Same.upd rfl ?_; refine Same.upd rfl ?_; refine Same.upd rfl ?_; refine Same.upd rfl ?_; refine Same.upd rfl ?_; refine Same.upd rfl ?_; refine Same.upd rfl ?_; exact Same.ovN)), s.size - (k + 1), by omega, inferInstance, k + 1, rfl, rfl, by omega, fun j hj hjk => ?_⟩
    by_cases e : j = k
    · subst e; exact lowB_yes ‹_› ‹_›
    · exact hpre j hj (by omega)
  · refine jjQ (within_postilref01 _ 1 12 _) rfl rfl ?_
    rintro _ w2 hS2 rfl
    (apply jJ; exact eB rfl; refine jz ?_; refine jjF ?_; refine jB rfl rfl ⟨inferInstance, ?_⟩)
    have := word_low (s := s) fun j hj => hpre j hj (by omega)
    exact congrArg Value.bool (by simp only [wordB, this, inB, Bool.and_true, decide_eq_decide]; omega)

end Go.Proofs.YtgmgiepdehlinaaDoor
