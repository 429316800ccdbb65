/- The proof engine, part 16: all but one block stays; a row of numbers that is sorted in its place. -/
import Derived.Test.YtcelhpbcdpefnaaEng10
import Derived.Test.YtcelhpbcdpefnaaEng15
namespace Go.Proofs.Ytcelhpbcdpefnaa
open Go.RowKit

abbrev intV (x : Int) : Value := .int .i64 x
def encI (x : Int) : List Value := [.int .i64 x]
theorem one_int (x : Int) : [intV x].all (fun v => v.cells.toList.all (·.oneCell')) = true := rfl
theorem all_ints' (xs : List Int) : (xs.map intV).all (fun v => v.cells.toList.all (·.oneCell')) = true := by
  rw [List.all_eq_true]; intro q hq; obtain ⟨y, _, rfl⟩ := List.mem_map.1 hq; rfl
theorem OwnL.app {w w' : World} {B B' e : Nat} {agg : Bool} {k : Nat} {v v' : Value} {xs : List Value} (h : OwnL w B e agg k v xs) (a : App B' w w' v') (hne : ∀ g, v.ownBlock = some g → v'.ownBlock ≠ some g) : OwnL w' B e agg k v xs :=
  h.kept fun g hg => a.g.block g (h.block g hg).2 fun e => hne g hg e.symm
theorem row_none {w : World} {agg : Bool} {k l c : Nat} {xs : List Value} (h : RowV w agg k (.slice none l c) xs) : xs = [] := by
  rcases h.at_ with ⟨e, _⟩ | ⟨b, o, c', hv, _⟩
  · exact e
  · simp at hv

/-- All is as it was but block kb, and new blocks. -/
structure Only (kb : Nat) (w w' : World) : Prop where
  os : w'.os = w.os
  tape : w'.tape = w.tape
  output : w'.output = w.output
  size : w.heap.size ≤ w'.heap.size
  other : ∀ k, k < w.heap.size → k ≠ kb → w'.heap[k]? = w.heap[k]?
theorem Only.ofExt {kb : Nat} {w w' : World} (e : Ext w w') : Only kb w w' := ⟨e.b.os, e.b.tape, e.b.output, e.size, fun _ hk _ => e.block hk⟩
theorem Only.ofPut {kb : Nat} {w w' : World} {o : Obj} (p : PutO w w' kb o) : Only kb w w' := ⟨p.os, p.tape, p.output, by rw [p.size]; exact Nat.le_refl _, fun k _ hk => p.other k hk⟩
theorem Only.trans {kb : Nat} {a b c : World} (h : Only kb a b) (k : Only kb b c) : Only kb a c :=
  ⟨k.os.trans h.os, k.tape.trans h.tape, k.output.trans h.output, Nat.le_trans h.size k.size, fun i hi hne => (k.other i (by have := h.size; omega) hne).trans (h.other i hi hne)⟩
theorem Only.ext {kb : Nat} {w0 w w' : World} (h : Only kb w w') (e : Ext w0 w) (hk : w0.heap.size ≤ kb) : Ext w0 w' :=
  ⟨⟨h.os.trans e.b.os, h.tape.trans e.b.tape, h.output.trans e.b.output, Nat.le_trans e.size h.size, fun k hk' => (h.other k (by have := e.size; omega) (by omega)).trans (e.block hk')⟩⟩
theorem Only.at_ {kb : Nat} {w w' : World} {b o : Nat} {cs : List Value} (h : Only kb w w') (ha : At w b o cs) (hne : b ≠ kb) : At w' b o cs := ⟨fun i v hv => by
  have h1 := ha.h i v hv
  rw [← h1]
  exact World.cell?_of_block (a := ⟨b, o + i, none⟩) (h.other b (lt_of_cell h1) hne)⟩
theorem Only.bk {kb : Nat} {w w' : World} {b e : Nat} {cs : List Value} (h : Only kb w w') (ha : Bk w b cs e) (hne : b ≠ kb) : Bk w' b cs e := ⟨(h.other b ha.lt hne).trans ha.h⟩
theorem Only.map {kb : Nat} {κ : Type} {encK : κ → Value} {w w' : World} {b : Nat} {m : List (κ × Value)} (h : Only kb w w') (ha : MapE encK w b m) (hne : b ≠ kb) : MapE encK w' b m := by
  have hl := ha.lt
  obtain ⟨es, c, h1, h2⟩ := ha.h
  exact ⟨es, c, (h.other b hl hne).trans h1, h2⟩
theorem Only.own {kb : Nat} {w w' : World} {B e : Nat} {agg : Bool} {k : Nat} {v : Value} {xs : List Value} (h : Only kb w w') (ho : OwnL w B e agg k v xs) (hB : kb < B) : OwnL w' B e agg k v xs :=
  ho.kept fun g hg => h.other g (ho.block g hg).2 (by have := (ho.block g hg).1; omega)

theorem Only.own' {kb : Nat} {w w' : World} {B e : Nat} {agg : Bool} {k : Nat} {v : Value} {xs : List Value} (h : Only kb w w') (ho : OwnL w B e agg k v xs) (hn : v.ownBlock ≠ some kb) : OwnL w' B e agg k v xs :=
  ho.kept fun g hg => h.other g (ho.block g hg).2 (fun e => hn (by rw [hg, e]))

theorem App.at_ {B : Nat} {w w' : World} {v : Value} {b o : Nat} {cs : List Value} (a : App B w w' v) (h : At w b o cs) (hne : v.ownBlock ≠ some b) : At w' b o cs := ⟨fun i u hv => by
  have h1 := h.h i u hv
  obtain ⟨ob, hb, _⟩ := cell_block h1
  rw [← h1]
  exact World.cell?_of_block (a := ⟨b, o + i, none⟩) ((a.other hb hne).trans hb.symm)⟩
theorem Only.app {kb B : Nat} {w0 w w' : World} {v : Value} (h : Only kb w0 w) (a : App B w w' v) (hB : w0.heap.size ≤ B) : Only kb w0 w' :=
  ⟨a.g.os.trans h.os, a.g.tape.trans h.tape, a.g.output.trans h.output, Nat.le_trans h.size a.g.size, fun k hk hne => (a.g.block k (by have := h.size; omega) (fun e => by have := (a.from_ k e.symm).1; omega)).trans (h.other k hk hne)⟩


/-! ### A slice of numbers in a block of the call's own, written in its place -/
abbrev SD (e : Nat) (w : World) (b n c : Nat) (l : List Int) : Prop := l.length = n ∧ OwnL w b e false 1 (.slice (some ⟨b, 0, none⟩) n c) (l.map intV)
theorem SD.ext {e b n c : Nat} {w w' : World} {l : List Int} (h : SD e w b n c l) (x : Ext w w') : SD e w' b n c l := ⟨h.1, h.2.ext x⟩
theorem SD.lt {e b n c : Nat} {w : World} {l : List Int} (h : SD e w b n c l) : b < w.heap.size := (h.2.block b rfl).2
theorem SD.get {e b n c i : Nat} {w : World} {l : List Int} {x : Int} (h : SD e w b n c l) (hx : l[i]? = some x) : w.cell? ⟨b, 0 + i, none⟩ = some (intV x) := by
  have := h.2.row
  obtain ⟨b', o, he, hA⟩ := RowV.place' (j := i) (x := intV x) this (by simp [hx])
  cases he
  have h0 := hA.h 0 (intV x) rfl
  simpa using h0
theorem get_mid {α : Type} {L R : List α} {x : α} {i : Nat} (h : i = L.length) : (L ++ x :: R)[i]? = some x := by subst h; simp
theorem set_mid {α : Type} {L R : List α} {x y : α} {i : Nat} (h : i = L.length) : (L ++ x :: R).set i y = L ++ y :: R := by subst h; simp

theorem wrap64 {i : Int} (h0 : 0 ≤ i) (h1 : i ≤ 9223372036854775807) : IntKind.wrap .u64 i = i := by
  rw [IntKind.wrap_u64]; omega
theorem wrapi {i : Int} (h0 : 0 ≤ i) (h1 : i ≤ 9223372036854775807) : IntKind.wrap .i64 i = i := by
  rw [IntKind.wrap_i64]; omega

theorem OwnL.fr {M : World → Nat → Prop} {w w' : World} {B e : Nat} {agg : Bool} {k : Nat} {v : Value} {xs : List Value} (h : OwnL w B e agg k v xs) (f : Fr M w w') (hm : ∀ g, v.ownBlock = some g → ¬ M w g) : OwnL w' B e agg k v xs := by
  rcases h.own.2 with hn | ⟨g, cap, cur, rfl, hB, hg, rest⟩
  · exact ⟨⟨h.own.1, .inl hn⟩, h.fit, h.len⟩
  · exact h.kept fun g' e => by cases e; exact (f.keep g _ hg rfl (hm g rfl)).trans hg.symm
theorem OwnL.self {w : World} {B e l c k : Nat} {agg : Bool} {a : Option Addr} {xs : List Value} (h : OwnL w B e agg k (.slice a l c) xs) (h0 : 0 < xs.length) : ∃ g, a = some ⟨g, 0, none⟩ ∧ B ≤ g ∧ OwnL w g e agg k (.slice (some ⟨g, 0, none⟩) l c) xs := by
  rcases h.own.2 with ⟨e0, _⟩ | ⟨g, cap, cur, e0, hB, rest⟩
  · have h1 := h.row.cap.1
    simp only [Value.slice.injEq] at e0
    omega
  · have e1 := e0
    simp only [Value.slice.injEq] at e1
    obtain ⟨rfl, _, _⟩ := e1
    exact ⟨g, rfl, hB, ⟨⟨h.own.1, .inr ⟨g, cap, cur, e0, Nat.le_refl _, rest⟩⟩, h.fit, h.len⟩⟩
/-- A cut: only some slots are known behind it. -/
theorem W.cutL {P : Program} {ro : Option Nat} {n : Nat} {X : Ctx} {s : Sl} {ds : List Deferred} {w : World} {c : Code} (L : List (Nat × Value)) (Q : World → Prop) (h : W P ro n c { X with nx := fun s' ds' w' => ds' = ds ∧ AllEq s' L ∧ Q w' } s ds w)
    (h2 : ∀ s0 w', Q w' → X.nx (upds s0 L) ds w') : W P ro n c X s ds w :=
  W.mono h (fun s' _ w' ⟨e, hA, q⟩ => by subst e; have := h2 s' w' q; rw [upds_id hA] at this; exact this) (fun _ _ _ h => h) (fun _ _ _ _ h => h)

section rules
variable {P : Program} {ro : Option Nat} {n : Nat} {all rest : List Oper} {K : Sl → World → Prop} {s : Sl} {w : World} {ty : Nat} {pos : String} {af : Array Edge} {x y : Operand}
theorem OpsD.store {e b m c i t bytes : Nat} {l : List Int} {u : Int} {z : Value} (hD : SD e w b m c l) (hi : i < m) (hx : ev n s x = .pointer (some ⟨b, 0 + i, none⟩)) (hy : ev n s y = .int .i64 u) [hz : TS P t z 1 bytes]
    (h : ∀ w', Only b w w' → SD e w' b m c (l.set i u) → Ops P ro n all rest K s w') : Ops P ro n all (⟨none, .store t x y, ty, pos, af, none⟩ :: rest) K s w := by
  have hil : i < l.length := by rw [hD.1]; exact hi
  rw [Nat.zero_add] at hx
  refine Ops.storeL (B := b) (e := e) (agg := false) (k := 1) (xs := l.map intV) (u := intV u) (X := intV l[i]) (X' := intV u) (j := i) (i := 0) (g := b) hD.2 rfl (by simp [hil]) rfl rfl rfl (by rw [Nat.mul_one, Nat.add_zero]; exact hx) hy rfl rfl ?_
  intro w' o hp hO
  refine h w' (.ofPut hp) ⟨by rw [List.length_set]; exact hD.1, ?_⟩
  rw [List.map_set]; exact hO
end rules

/-- A function that compares numbers by their keys, in all worlds that come of w by writing block b alone. -/
structure CmpE (P : Program) (g : Nat) (cap : List Value) (k : Int → Int) (b : Nat) (w : World) (p : Int → Prop) : Prop where
  h : ∀ w', Only b w w' → ∀ x y, p x → p y → Ct P g ([intV x, intV y] ++ cap) w' fun v _ => v = .int .i64 (if k x < k y then -1 else if k y < k x then 1 else 0)
theorem CmpE.only {P : Program} {g : Nat} {cap : List Value} {k : Int → Int} {b : Nat} {w w' : World} {p : Int → Prop} (h : CmpE P g cap k b w p) (o : Only b w w') : CmpE P g cap k b w' p := ⟨fun w2 o2 => h.h w2 (o.trans o2)⟩
theorem cmp_lt {a b : Int} : decide ((if a < b then (-1 : Int) else if b < a then 1 else 0) < 0) = decide (a < b) := by
  by_cases h : a < b
  · simp [h]
  · by_cases h2 : b < a <;> simp [h, h2]
end Go.Proofs.Ytcelhpbcdpefnaa
