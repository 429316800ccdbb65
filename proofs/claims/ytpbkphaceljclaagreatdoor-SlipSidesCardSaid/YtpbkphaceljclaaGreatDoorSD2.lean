/- Texts of the proof, part 2: Eng16, Eng17, Spec0, Txt, Eng19, Eng20, Types, Cmp, Tp1, Lib1, In, Tl1, Tr1, RefB. -/
import Derived.Laws.CopyRow
import Derived.Laws.Externs
import Derived.Lib.Overlaps
import Derived.Lib.SliceRun
import Derived.Test.YtpbkphaceljclaaGreatDoorProg
import Derived.KernelRfl
import Derived.Test.YtpbkphaceljclaaGreatDoorSD1
/- The proof engine, part 16: all but one block stays; a row of numbers that is sorted in its place. -/
namespace Go.Proofs.YtpbkphaceljclaaGreatDoor
open Go.RowKit

abbrev intV (x : Int) : Value := .int .i64 x
theorem one_int (x : Int) : [intV x].all (fun v => v.cells.toList.all (·.oneCell')) = true := rfl
theorem OwnL.app {w w' : World} {B B' e : Nat} {agg : Bool} {k : Nat} {v v' : Value} {xs : List Value} (h : OwnL w B e agg k v xs) (a : App B' w w' v') (hne : ∀ g, v.ownBlock = some g → v'.ownBlock ≠ some g) : OwnL w' B e agg k v xs :=
  h.kept fun g hg => a.g.block g (h.block g hg).2 fun e => hne g hg e.symm
/-- All is as it was but block kb, and new blocks. -/
structure Only (kb : Nat) (w w' : World) : Prop where
  os : w'.os = w.os
  tape : w'.tape = w.tape
  output : w'.output = w.output
  size : w.heap.size ≤ w'.heap.size
  other : ∀ k, k < w.heap.size → k ≠ kb → w'.heap[k]? = w.heap[k]?
theorem Only.ofExt {kb : Nat} {w w' : World} (e : Ext w w') : Only kb w w' := ⟨e.b.os, e.b.tape, e.b.output, e.size, fun _ hk _ => e.block hk⟩
theorem Only.ofPut {kb : Nat} {w w' : World} {o : Obj} (p : PutO w w' kb o) : Only kb w w' := ⟨p.os, p.tape, p.output, by rw [p.size]; exact Nat.le_refl _, fun k _ hk => p.other k hk⟩
theorem Only.trans {kb : Nat} {a b c : World} (h : Only kb a b) (k : Only kb b c) : Only kb a c :=
  ⟨k.os.trans h.os, k.tape.trans h.tape, k.output.trans h.output, Nat.le_trans h.size k.size, fun i hi hne => (k.other i (by have := h.size; omega) hne).trans (h.other i hi hne)⟩
theorem Only.ext {kb : Nat} {w0 w w' : World} (h : Only kb w w') (e : Ext w0 w) (hk : w0.heap.size ≤ kb) : Ext w0 w' :=
  ⟨⟨h.os.trans e.b.os, h.tape.trans e.b.tape, h.output.trans e.b.output, Nat.le_trans e.size h.size, fun k hk' => (h.other k (by have := e.size; omega) (by omega)).trans (e.block hk')⟩⟩
theorem Only.at_ {kb : Nat} {w w' : World} {b o : Nat} {cs : List Value} (h : Only kb w w') (ha : At w b o cs) (hne : b ≠ kb) : At w' b o cs := ⟨fun i v hv => by
  have h1 := ha.h i v hv
  rw [← h1]
  exact World.cell?_of_block (a := ⟨b, o + i, none⟩) (h.other b (lt_of_cell h1) hne)⟩
theorem Only.bk {kb : Nat} {w w' : World} {b e : Nat} {cs : List Value} (h : Only kb w w') (ha : Bk w b cs e) (hne : b ≠ kb) : Bk w' b cs e := ⟨(h.other b ha.lt hne).trans ha.h⟩
theorem Only.map {kb : Nat} {κ : Type} {encK : κ → Value} {w w' : World} {b : Nat} {m : List (κ × Value)} (h : Only kb w w') (ha : MapE encK w b m) (hne : b ≠ kb) : MapE encK w' b m := by
  have hl := ha.lt
  obtain ⟨es, c, h1, h2⟩ := ha.h
  exact ⟨es, c, (h.other b hl hne).trans h1, h2⟩
theorem Only.own {kb : Nat} {w w' : World} {B e : Nat} {agg : Bool} {k : Nat} {v : Value} {xs : List Value} (h : Only kb w w') (ho : OwnL w B e agg k v xs) (hB : kb < B) : OwnL w' B e agg k v xs :=
  ho.kept fun g hg => h.other g (ho.block g hg).2 (by have := (ho.block g hg).1; omega)

theorem Only.own' {kb : Nat} {w w' : World} {B e : Nat} {agg : Bool} {k : Nat} {v : Value} {xs : List Value} (h : Only kb w w') (ho : OwnL w B e agg k v xs) (hn : v.ownBlock ≠ some kb) : OwnL w' B e agg k v xs :=
  ho.kept fun g hg => h.other g (ho.block g hg).2 (fun e => hn (by rw [hg, e]))

theorem Only.row {kb : Nat} {w w' : World} {agg : Bool} {k : Nat} {v : Value} {xs : List Value} (h : Only kb w w') (hr : RowV w agg k v xs) (hne : v.ownBlock ≠ some kb) : RowV w' agg k v xs :=
  ⟨hr.len, hr.fit, hr.at_.imp id fun ⟨b, o, c, hv, hl, hc⟩ => ⟨b, o, c, hv, hl, fun j x hx => h.at_ (hc j x hx) (fun e => by subst e; subst hv; exact hne rfl)⟩⟩
theorem App.at_ {B : Nat} {w w' : World} {v : Value} {b o : Nat} {cs : List Value} (a : App B w w' v) (h : At w b o cs) (hne : v.ownBlock ≠ some b) : At w' b o cs := ⟨fun i u hv => by
  have h1 := h.h i u hv
  obtain ⟨ob, hb, _⟩ := cell_block h1
  rw [← h1]
  exact World.cell?_of_block (a := ⟨b, o + i, none⟩) ((a.other hb hne).trans hb.symm)⟩
theorem Only.app {kb B : Nat} {w0 w w' : World} {v : Value} (h : Only kb w0 w) (a : App B w w' v) (hB : w0.heap.size ≤ B) : Only kb w0 w' :=
  ⟨a.g.os.trans h.os, a.g.tape.trans h.tape, a.g.output.trans h.output, Nat.le_trans h.size a.g.size, fun k hk hne => (a.g.block k (by have := h.size; omega) (fun e => by have := (a.from_ k e.symm).1; omega)).trans (h.other k hk hne)⟩


/-! ### A slice of numbers in a block of the call's own, written in its place -/
abbrev SD (e : Nat) (w : World) (b n c : Nat) (l : List Int) : Prop := l.length = n ∧ OwnL w b e false 1 (.slice (some ⟨b, 0, none⟩) n c) (l.map intV)
theorem SD.ext {e b n c : Nat} {w w' : World} {l : List Int} (h : SD e w b n c l) (x : Ext w w') : SD e w' b n c l := ⟨h.1, h.2.ext x⟩
theorem SD.lt {e b n c : Nat} {w : World} {l : List Int} (h : SD e w b n c l) : b < w.heap.size := (h.2.block b rfl).2
theorem SD.get {e b n c i : Nat} {w : World} {l : List Int} {x : Int} (h : SD e w b n c l) (hx : l[i]? = some x) : w.cell? ⟨b, 0 + i, none⟩ = some (intV x) := by
  have := h.2.row
  obtain ⟨b', o, he, hA⟩ := RowV.place' (j := i) (x := intV x) this (by simp [hx])
  cases he
  have h0 := hA.h 0 (intV x) rfl
  simpa using h0
theorem wrapi {i : Int} (h0 : 0 ≤ i) (h1 : i ≤ 9223372036854775807) : IntKind.wrap .i64 i = i := by
  rw [IntKind.wrap_i64]; omega

theorem OwnL.fr {M : World → Nat → Prop} {w w' : World} {B e : Nat} {agg : Bool} {k : Nat} {v : Value} {xs : List Value} (h : OwnL w B e agg k v xs) (f : Fr M w w') (hm : ∀ g, v.ownBlock = some g → ¬ M w g) : OwnL w' B e agg k v xs := by
  rcases h.own.2 with hn | ⟨g, cap, cur, rfl, hB, hg, rest⟩
  · exact ⟨⟨h.own.1, .inl hn⟩, h.fit, h.len⟩
  · exact h.kept fun g' e => by cases e; exact (f.keep g _ hg rfl (hm g rfl)).trans hg.symm
theorem OwnL.self {w : World} {B e l c k : Nat} {agg : Bool} {a : Option Addr} {xs : List Value} (h : OwnL w B e agg k (.slice a l c) xs) (h0 : 0 < xs.length) : ∃ g, a = some ⟨g, 0, none⟩ ∧ B ≤ g ∧ OwnL w g e agg k (.slice (some ⟨g, 0, none⟩) l c) xs := by
  rcases h.own.2 with ⟨e0, _⟩ | ⟨g, cap, cur, e0, hB, rest⟩
  · have h1 := h.row.cap.1
    simp only [Value.slice.injEq] at e0
    omega
  · have e1 := e0
    simp only [Value.slice.injEq] at e1
    obtain ⟨rfl, _, _⟩ := e1
    exact ⟨g, rfl, hB, ⟨⟨h.own.1, .inr ⟨g, cap, cur, e0, Nat.le_refl _, rest⟩⟩, h.fit, h.len⟩⟩
section rules
variable {P : Program} {ro : Option Nat} {n : Nat} {all rest : List Oper} {K : Sl → World → Prop} {s : Sl} {w : World} {ty : Nat} {pos : String} {af : Array Edge} {x y : Operand}
theorem OpsD.store {e b m c i t bytes : Nat} {l : List Int} {u : Int} {z : Value} (hD : SD e w b m c l) (hi : i < m) (hx : ev n s x = .pointer (some ⟨b, 0 + i, none⟩)) (hy : ev n s y = .int .i64 u) [hz : TS P t z 1 bytes]
    (h : ∀ w', Only b w w' → SD e w' b m c (l.set i u) → Ops P ro n all rest K s w') : Ops P ro n all (⟨none, .store t x y, ty, pos, af, none⟩ :: rest) K s w := by
  have hil : i < l.length := by rw [hD.1]; exact hi
  rw [Nat.zero_add] at hx
  refine Ops.storeL (B := b) (e := e) (agg := false) (k := 1) (xs := l.map intV) (u := intV u) (X := intV l[i]) (X' := intV u) (j := i) (i := 0) (g := b) hD.2 rfl (by simp [hil]) rfl rfl rfl (by rw [Nat.mul_one, Nat.add_zero]; exact hx) hy rfl rfl ?_
  intro w' o hp hO
  refine h w' (.ofPut hp) ⟨by rw [List.length_set]; exact hD.1, ?_⟩
  rw [List.map_set]; exact hO
end rules

/-- A function that compares numbers by their keys, in all worlds that come of w by writing block b alone. -/
structure CmpE (P : Program) (g : Nat) (cap : List Value) (k : Int → Int) (b : Nat) (w : World) (p : Int → Prop) : Prop where
  h : ∀ w', Only b w w' → ∀ x y, p x → p y → Ct P g ([intV x, intV y] ++ cap) w' fun v _ => v = .int .i64 (if k x < k y then -1 else if k y < k x then 1 else 0)
theorem CmpE.only {P : Program} {g : Nat} {cap : List Value} {k : Int → Int} {b : Nat} {w w' : World} {p : Int → Prop} (h : CmpE P g cap k b w p) (o : Only b w w') : CmpE P g cap k b w' p := ⟨fun w2 o2 => h.h w2 (o.trans o2)⟩
end Go.Proofs.YtpbkphaceljclaaGreatDoor

/- The proof engine, part 17: a slice of the call's own in a field. -/
namespace Go.Proofs.YtpbkphaceljclaaGreatDoor
open Go.RowKit

theorem Bk.cellO {w : World} {b e o : Nat} {cs : List Value} {v : Value} (h : Bk w b cs e) (hv : cs[o]? = some v) : w.cell? ⟨b, o, none⟩ = some v := by have := (Bk.toAt (h := h)).h o v hv; simpa using this
/-- The blocks below N, and the block of the slice that lies at place o of block b. -/
def MO (N b o : Nat) (V : World) (k : Nat) : Prop := k < N ∨ ∃ v, V.cell? ⟨b, o, none⟩ = some v ∧ v.ownBlock = some k
theorem MO.lt {N b o : Nat} {V : World} {v : Value} {k : Nat} (hN : N ≤ V.heap.size) (hb : V.cell? ⟨b, o, none⟩ = some v) (ho : ∀ g, v.ownBlock = some g → g < V.heap.size) (h : MO N b o V k) : k < V.heap.size := by
  rcases h with h | ⟨v', hv, hk⟩
  · omega
  · rw [hb] at hv; cases hv
    exact ho k hk
theorem MO.back {N n b o : Nat} {V V' : World} {v : Value} {k : Nat} (hb : V.cell? ⟨b, o, none⟩ = some v) (g : Grow n V V') (h : MO N b o V' k) : MO N b o V k := by
  rcases h with h | ⟨v', hv, hk⟩
  · exact .inl h
  · rw [g.cell hb] at hv; cases hv
    exact .inr ⟨v, hb, hk⟩
theorem MO.grow {N b o : Nat} {V V' : World} {k : Nat} (hb : b < N) (g : Grow N V V') (h : MO N b o V' k) : MO N b o V k := by
  rcases h with h | ⟨v', hv, hk⟩
  · exact .inl h
  · refine .inr ⟨v', ?_, hk⟩
    rw [← hv]
    exact (World.cell?_of_block (a := ⟨b, o, none⟩) (g.old b hb)).symm
/-- A round: what it keeps, and what the slice is behind it. -/
theorem MO.fr {N b o : Nat} {V V' : World} {v v' : Value} (hs : V.heap.size ≤ V'.heap.size) (hb : V.cell? ⟨b, o, none⟩ = some v) (hb' : V'.cell? ⟨b, o, none⟩ = some v') (hk : ∀ k ob, V.heap[k]? = some ob → N ≤ k → v.ownBlock ≠ some k → V'.heap[k]? = some ob)
    (hw : v'.ownBlock = v.ownBlock ∨ ∃ g, v'.ownBlock = some g ∧ V.heap.size ≤ g) : Fr (MO N b o) V V' :=
  ⟨hs, fun k ob h1 _ hm => hk k ob h1 (Nat.le_of_not_lt fun h => hm (.inl h)) (fun e => hm (.inr ⟨v, hb, e⟩)), fun k h => by
    rcases h with h | ⟨u, hu, hk'⟩
    · exact .inl (.inl h)
    · rw [hb'] at hu; cases hu
      rcases hw with e | ⟨g, e, hg⟩
      · exact .inl (.inr ⟨v, hb, by rw [← e]; exact hk'⟩)
      · rw [e] at hk'; cases hk'; exact .inr hg⟩
/-! ### Rows of rows of numbers -/
abbrev Rw := Option Addr × Nat × List Int
abbrev encW (x : Rw) : Value := .slice x.1 x.2.2.length x.2.1
class RowsI (w : World) (rs : List Rw) : Prop where
  h : ∀ x ∈ rs, RowV w false 1 (encW x) (x.2.2.map intV)
instance RowsI.step {w w' : World} {rs : List Rw} [hs : Step w w'] [h : RowsI w rs] : RowsI w' rs := ⟨fun x hx => (h.h x hx).ext ⟨hs.b⟩⟩
theorem RowsI.ext {w w' : World} {rs : List Rw} (h : RowsI w rs) (hs : Ext w w') : RowsI w' rs := ⟨fun x hx => (h.h x hx).ext hs⟩
theorem RowsI.get {w : World} {rs : List Rw} (h : RowsI w rs) {i : Nat} (hi : i < rs.length) : RowI w (.slice rs[i].1 rs[i].2.2.length rs[i].2.1) false 1 (rs[i].2.2.map intV) := ⟨h.h _ (List.getElem_mem hi)⟩
theorem OwnL.ne {w : World} {B B' e e' : Nat} {agg agg' : Bool} {k k' : Nat} {v v' : Value} {xs ys : List Value} (h : OwnL w B e agg k v xs) (h' : OwnL w B' e' agg' k' v' ys) (he : e ≠ e') : ∀ g, v.ownBlock = some g → v'.ownBlock ≠ some g := fun g hg hg' => by
  rcases h.own.2 with ⟨rfl, _⟩ | ⟨g1, cap1, cur1, rfl, _, h1, _⟩
  · simp [Value.ownBlock] at hg
  · rcases h'.own.2 with ⟨rfl, _⟩ | ⟨g2, cap2, cur2, rfl, _, h2, _⟩
    · simp [Value.ownBlock] at hg'
    · simp only [Value.ownBlock, Option.some.injEq] at hg hg'
      subst hg; subst hg'
      rw [h1] at h2
      simp only [Option.some.injEq, Obj.cells.injEq] at h2
      exact he h2.2.1
/-- Rows of rows of the call's own. -/
structure OwnW (w : World) (B e1 e2 : Nat) (v : Value) (rs : List Rw) : Prop where
  out : OwnL w B e1 false 1 v (rs.map encW)
  ins : ∀ x ∈ rs, OwnL w B e2 false 1 (encW x) (x.2.2.map intV)
theorem OwnW.rows {w : World} {B e1 e2 : Nat} {v : Value} {rs : List Rw} (h : OwnW w B e1 e2 v rs) : RowsI w rs := ⟨fun x hx => (h.ins x hx).row⟩
theorem OwnW.ext {w w' : World} {B e1 e2 : Nat} {v : Value} {rs : List Rw} (h : OwnW w B e1 e2 v rs) (hs : Ext w w') : OwnW w' B e1 e2 v rs := ⟨h.out.ext hs, fun x hx => (h.ins x hx).ext hs⟩
theorem OwnW.nil (w : World) (B e1 e2 : Nat) : OwnW w B e1 e2 (.slice none 0 0) [] := ⟨OwnL.nil _ _ _ _ _, by simp⟩
end Go.Proofs.YtpbkphaceljclaaGreatDoor

/- Plain functions that several contracts speak of. -/
namespace Go.Proofs.YtpbkphaceljclaaGreatDoor
open Go.RowKit

def inB (lo hi n : Int) : Bool := decide (lo ≤ n ∧ n ≤ hi)
theorem not_any_not {α : Type} (q : α → Bool) (xs : List α) : (!(xs.any fun n => !q n)) = xs.all q := by
  induction xs with
  | nil => rfl
  | cons x xs ih => simp only [List.any_cons, List.all_cons, Bool.not_or, ih, Bool.not_not]
theorem any_not {α : Type} (q : α → Bool) (xs : List α) : (xs.any fun n => !q n) = !xs.all q := by
  rw [← not_any_not, Bool.not_not]
def lowB (c : UInt8) : Bool := decide (97 ≤ c.toNat ∧ c.toNat ≤ 122)
def wordB (s : ByteArray) : Bool := decide (1 ≤ s.size ∧ s.size ≤ 12) && s.data.toList.all lowB
theorem low_any (l : List UInt8) : (!l.any fun c => decide ((c.toNat : Int) < 97 ∨ 122 < (c.toNat : Int))) = l.all lowB := by
  rw [← not_any_not]
  congr 2
  funext c
  rw [lowB, ← decide_not, decide_eq_decide]
  omega
theorem word_yes (s : ByteArray) (h : [(s.size : Int)].all (inB 1 12) = true) : (!s.data.toList.any fun c => decide ((c.toNat : Int) < 97 ∨ 122 < (c.toNat : Int))) = wordB s := by
  rw [low_any, wordB]
  simp [inB] at h
  have : decide (1 ≤ s.size ∧ s.size ≤ 12) = true := decide_eq_true (by omega)
  rw [this]; rfl
theorem word_no (s : ByteArray) (h : [(s.size : Int)].all (inB 1 12) = false) : false = wordB s := by
  rw [wordB]
  simp [inB] at h
  have : decide (1 ≤ s.size ∧ s.size ≤ 12) = false := decide_eq_false (by omega)
  rw [this]; rfl
end Go.Proofs.YtpbkphaceljclaaGreatDoor

/- Texts: chapters of lines of words. -/
namespace Go.Proofs.YtpbkphaceljclaaGreatDoor
open Go.RowKit

abbrev strV (s : ByteArray) : Value := .string s
abbrev Ln := Option Addr × Nat × List ByteArray
abbrev encLn (x : Ln) : Value := .slice x.1 x.2.2.length x.2.1
abbrev Ch := Int × Option Addr × Nat × List Ln
abbrev encCh (x : Ch) : Value := .agg #[.int .i64 x.1, .slice x.2.1 x.2.2.2.length x.2.2.1]
class TextI (w : World) (cs : List Ch) : Prop where
  lines : ∀ x ∈ cs, RowV w false 1 (.slice x.2.1 x.2.2.2.length x.2.2.1) (x.2.2.2.map encLn)
  words : ∀ x ∈ cs, ∀ y ∈ x.2.2.2, RowV w false 1 (encLn y) (y.2.2.map strV)
theorem TextI.ext {w w' : World} {cs : List Ch} (h : TextI w cs) (hs : Ext w w') : TextI w' cs := ⟨fun x hx => (h.lines x hx).ext hs, fun x hx y hy => (h.words x hx y hy).ext hs⟩
instance TextI.step {w w' : World} {cs : List Ch} [hs : Step w w'] [h : TextI w cs] : TextI w' cs := h.ext ⟨hs.b⟩
theorem TextI.line {w : World} {cs : List Ch} (h : TextI w cs) {k : Nat} (hk : k < cs.length) : RowI w (.slice cs[k].2.1 cs[k].2.2.2.length cs[k].2.2.1) false 1 (cs[k].2.2.2.map encLn) := ⟨h.lines _ (List.getElem_mem hk)⟩
theorem TextI.word {w : World} {cs : List Ch} (h : TextI w cs) {k n : Nat} (hk : k < cs.length) (hn : n < cs[k].2.2.2.length) : RowI w (.slice cs[k].2.2.2[n].1 cs[k].2.2.2[n].2.2.length cs[k].2.2.2[n].2.1) false 1 (cs[k].2.2.2[n].2.2.map strV) := ⟨h.words _ (List.getElem_mem hk) _ (List.getElem_mem hn)⟩
/-- What a text says, without its memory. -/
abbrev Tx := List (Int × List (List ByteArray))
def txF (cs : List Ch) : Tx := cs.map fun x => (x.1, x.2.2.2.map (·.2.2))
def greatL (y : List ByteArray) : Bool := decide (15 < y.length) || y.any fun s => decide (40 < s.size)
def greatC (x : Int × List (List ByteArray)) : Bool := decide (15 < x.2.length) || x.2.any greatL
def greatT (t : Tx) : Bool := decide (10 < t.length) || t.any greatC
theorem any_hit {α : Type} {p : α → Bool} {l : List α} {k : Nat} (hk : k < l.length) (h : p l[k] = true) : l.any p = true := List.any_eq_true.2 ⟨_, List.getElem_mem hk, h⟩
theorem any_miss {α : Type} {p : α → Bool} {l : List α} (h : ∀ (j : Nat) (hj : j < l.length), p l[j] = false) : l.any p = false := by
  rw [List.any_eq_false]
  intro x hx
  obtain ⟨i, hi, rfl⟩ := List.mem_iff_getElem.1 hx
  rw [h i hi]; simp
theorem all_1 (p : Int → Bool) (n : Int) : [n].all p = p n := by simp
/-! Valid texts -/
def lineB (y : List ByteArray) : Bool := inB 1 10 (y.length : Int) && y.all wordB
def chapB (x : Int × List (List ByteArray)) : Bool := inB 0 9999 x.1 && inB 1 10 (x.2.length : Int) && x.2.all lineB
def textB (t : Tx) : Bool := inB 1 6 (t.length : Int) && t.all chapB && decide ((t.map (·.1)).Nodup)
abbrev txC (x : Ch) : Int × List (List ByteArray) := (x.1, x.2.2.2.map (·.2.2))
theorem txF_len (cs : List Ch) : (txF cs).length = cs.length := by simp [txF]
theorem all_no {α : Type} {p : α → Bool} {l : List α} {k : Nat} (hk : k < l.length) (h : p l[k] = false) : l.all p = false := by
  rw [List.all_eq_false]; exact ⟨_, List.getElem_mem hk, by rw [h]; simp⟩
theorem all_yes {α : Type} {p : α → Bool} {l : List α} (h : ∀ (j : Nat) (hj : j < l.length), p l[j] = true) : l.all p = true := by
  rw [List.all_eq_true]
  intro x hx
  obtain ⟨i, hi, rfl⟩ := List.mem_iff_getElem.1 hx
  exact h i hi
theorem textB_len {cs : List Ch} (h : inB 1 6 (cs.length : Int) = false) : textB (txF cs) = false := by rw [textB, txF_len, h]; rfl
theorem textB_chap {cs : List Ch} {k : Nat} (hk : k < cs.length) (h : chapB (txC cs[k]) = false) : textB (txF cs) = false := by
  have : (txF cs).all chapB = false := all_no (k := k) (by rw [txF_len]; exact hk) (by simpa [txF] using h)
  rw [textB, this, Bool.and_false]; rfl
theorem textB_dup {cs : List Ch} {i k : Nat} (hik : i < k) (hk : k < cs.length) (h : (cs[i]'(by omega)).1 = cs[k].1) : textB (txF cs) = false := by
  have : ¬ ((txF cs).map (·.1)).Nodup := fun hn => by
    have h1 := List.pairwise_iff_getElem.1 hn i k (by simp [txF]; omega) (by simp [txF]; omega) hik
    simp [txF] at h1
    exact h1 h
  rw [textB, decide_eq_false this, Bool.and_false]
theorem textB_yes {cs : List Ch} (h1 : inB 1 6 (cs.length : Int) = true) (h2 : ∀ (k : Nat) (hk : k < cs.length), chapB (txC cs[k]) = true) (h3 : ∀ (i k : Nat) (hik : i < k) (hk : k < cs.length), (cs[i]'(by omega)).1 ≠ cs[k].1) : textB (txF cs) = true := by
  have e1 : (txF cs).all chapB = true := all_yes fun k hk => by
    have := h2 k (by rw [← txF_len]; exact hk)
    simpa [txF] using this
  have e2 : ((txF cs).map (·.1)).Nodup := by
    refine List.pairwise_iff_getElem.2 fun i k hi hk hik => ?_
    have := h3 i k hik (by simpa [txF] using hk)
    simpa [txF] using this
  rw [textB, txF_len, h1, e1, decide_eq_true e2]; rfl
theorem chapB_id {x : Ch} (h : inB 0 9999 x.1 = false) : chapB (txC x) = false := by rw [chapB, h]; rfl
theorem chapB_len {x : Ch} (h : inB 1 10 (x.2.2.2.length : Int) = false) : chapB (txC x) = false := by rw [chapB, List.length_map, h, Bool.and_false]; rfl
theorem chapB_line {x : Ch} {n : Nat} (hn : n < x.2.2.2.length) (h : lineB x.2.2.2[n].2.2 = false) : chapB (txC x) = false := by
  have : (x.2.2.2.map (·.2.2)).all lineB = false := all_no (k := n) (by rw [List.length_map]; exact hn) (by rw [List.getElem_map]; exact h)
  rw [chapB, this, Bool.and_false]
theorem chapB_yes {x : Ch} (h1 : inB 0 9999 x.1 = true) (h2 : inB 1 10 (x.2.2.2.length : Int) = true) (h3 : ∀ (n : Nat) (hn : n < x.2.2.2.length), lineB x.2.2.2[n].2.2 = true) : chapB (txC x) = true := by
  have : (x.2.2.2.map (·.2.2)).all lineB = true := all_yes fun n hn => by
    rw [List.length_map] at hn
    rw [List.getElem_map]; exact h3 n hn
  rw [chapB, List.length_map, h1, h2, this]; rfl
theorem lineB_len {y : List ByteArray} (h : inB 1 10 (y.length : Int) = false) : lineB y = false := by rw [lineB, h]; rfl
theorem lineB_word {y : List ByteArray} {q : Nat} (hq : q < y.length) (h : wordB y[q] = false) : lineB y = false := by rw [lineB, all_no hq h, Bool.and_false]
theorem lineB_yes {y : List ByteArray} (h1 : inB 1 10 (y.length : Int) = true) (h2 : ∀ (q : Nat) (hq : q < y.length), wordB y[q] = true) : lineB y = true := by rw [lineB, h1, all_yes h2]; rfl
/-- No word is very long. -/
def SmallT (cs : List Ch) : Prop := cs.length ≤ 1000 ∧ ∀ x ∈ cs, x.2.2.2.length ≤ 1000 ∧ ∀ y ∈ x.2.2.2, y.2.2.length ≤ 1000 ∧ ∀ s ∈ y.2.2, s.size ≤ 1000
theorem small_of_great {cs : List Ch} (h : greatT (txF cs) = false) : SmallT cs := by
  simp only [greatT, Bool.or_eq_false_iff, decide_eq_false_iff_not, List.any_eq_false, txF_len] at h
  refine ⟨by omega, fun x hx => ?_⟩
  have h1 := h.2 (txC x) (List.mem_map.2 ⟨x, hx, rfl⟩)
  simp only [greatC, Bool.or_eq_true, decide_eq_true_eq, List.any_eq_true, not_or, not_exists, not_and, List.length_map] at h1
  refine ⟨by omega, fun y hy => ?_⟩
  have h2 := h1.2 y.2.2 (List.mem_map.2 ⟨y, hy, rfl⟩)
  simp only [greatL, Bool.or_eq_true, decide_eq_true_eq, List.any_eq_true, not_or, not_exists, not_and] at h2
  exact ⟨by omega, fun s hs => by have := h2.2 s hs; omega⟩
end Go.Proofs.YtpbkphaceljclaaGreatDoor

/- The proof engine, part 19: slices within their room; append in place, copy, clear; overlaps. -/
namespace Go.Proofs.YtpbkphaceljclaaGreatDoor
open Go.RowKit

section rules
variable {P : Program} {ro : Option Nat} {n : Nat} {all rest : List Oper} {K : Sl → World → Prop} {s : Sl} {w : World} {d : Nat} {ty : Nat} {pos : String} {af : Array Edge} {x y : Operand} {t t' e bytes : Nat} {z : Value}
variable {g o l c lo hi : Nat} {i j : Int} {k1 k2 k3 : IntKind} {xl xh xm : Operand}
theorem Ops.sliceXH (hx : ev n s x = .slice (some ⟨g, o, none⟩) l c) (hh : ev n s xh = .int k2 j) (hj : j = (hi : Int)) (h2 : hi ≤ c) [ht : TSl P t e] [hz : TS P e z 1 bytes]
    (h : Ops P ro n all rest K (upd s d (.slice (some ⟨g, o, none⟩) hi c)) w) : Ops P ro n all (⟨some d, .slice t x none (some xh) none, ty, pos, af, none⟩ :: rest) K s w := by
  subst hj
  refine Ops.ofRun rfl ?_ h
  by_cases hc : c = 0
  · obtain rfl : hi = 0 := by omega
    simp [execOp, Instr.sliceAt, Instr.slice, Instr.sliceBounds, Instr.sliceBound, hx, hh, run_underlying ht.h, asIntOf, run_sizeOf' w hz, hc]
  · simp [execOp, Instr.sliceAt, Instr.slice, Instr.sliceBounds, Instr.sliceBound, hx, hh, run_underlying ht.h, asIntOf, h2, run_sizeOf' w hz, hc, Addr.add_lit]
theorem Ops.sliceXL (hx : ev n s x = .slice (some ⟨g, o, none⟩) l c) (hl : ev n s xl = .int k1 i) (hi' : i = (lo : Int)) (h1 : lo ≤ l) [ht : TSl P t e] [hz : TS P e z 1 bytes]
    (h : Ops P ro n all rest K (upd s d (.slice (some ⟨g, if c = lo then o else o + lo, none⟩) (l - lo) (c - lo))) w) : Ops P ro n all (⟨some d, .slice t x (some xl) none none, ty, pos, af, none⟩ :: rest) K s w := by
  subst hi'
  refine Ops.ofRun rfl ?_ h
  by_cases hc : c = lo
  · simp [execOp, Instr.sliceAt, Instr.slice, Instr.sliceBounds, Instr.sliceBound, hx, hl, run_underlying ht.h, asIntOf, h1, run_sizeOf' w hz, hc]
  · simp [execOp, Instr.sliceAt, Instr.slice, Instr.sliceBounds, Instr.sliceBound, hx, hl, run_underlying ht.h, asIntOf, h1, run_sizeOf' w hz, hc, Addr.add_lit]
theorem Ops.sliceXL2 (hx : ev n s x = .slice (some ⟨g, o, none⟩) l c) (hl : ev n s xl = .int k1 i) (hi' : i = (lo : Int)) (h1 : lo ≤ l) (h2 : lo < c) [ht : TSl P t e] [hz : TS P e z 1 bytes]
    (h : Ops P ro n all rest K (upd s d (.slice (some ⟨g, o + lo, none⟩) (l - lo) (c - lo))) w) : Ops P ro n all (⟨some d, .slice t x (some xl) none none, ty, pos, af, none⟩ :: rest) K s w :=
  Ops.sliceXL (lo := lo) hx hl hi' h1 (by rw [if_neg (by omega)]; exact h)
/-- A slice of three numbers: only that it is there. -/
theorem Ops.slice3 {a : Option Addr} {mx : Nat} {m : Int} (hx : ev n s x = .slice a l c) (hl : ev n s xl = .int k1 i) (hh : ev n s xh = .int k2 j) (hm : ev n s xm = .int k3 m) (hi' : i = (lo : Int)) (hj : j = (hi : Int)) (hm' : m = (mx : Int)) (h1 : lo ≤ hi) (h2 : hi ≤ mx) (h3 : mx ≤ c) [ht : TSl P t e] [hz : TS P e z 1 bytes]
    (h : ∀ v, Ops P ro n all rest K (upd s d v) w) : Ops P ro n all (⟨some d, .slice t x (some xl) (some xh) (some xm), ty, pos, af, none⟩ :: rest) K s w := by
  subst hi' hj hm'
  refine Ops.ofRun (v := .slice (if mx = lo then a else a.map (·.add (lo * 1))) (hi - lo) (mx - lo)) rfl ?_ (h _)
  simp [execOp, Instr.sliceAt, Instr.slice, Instr.sliceBounds, Instr.sliceBound, hx, hl, hh, hm, run_underlying ht.h, asIntOf, h1, h2, h3, run_sizeOf' w hz]

variable {cs us : List Value} {a : Addr} {sl sc dl dc : Nat}
/-- Copy into a block that is known whole. -/
theorem Ops.copyB (hB : Bk w g cs e) (hx : ev n s x = .slice (some ⟨g, o, none⟩) dl dc) (hy : ev n s y = .slice (some a) sl sc) (hn : us.length = min sl dl) (hsrc : ∀ (j : Nat) v, us[j]? = some v → w.cell? (a.add j) = some v) (h1 : ∀ v ∈ us, v.oneCell' = true)
    (hfit : o + us.length ≤ cs.length) [ht : TSl P t e] [hz : TS P e z 1 bytes]
    (h : ∀ w', PutO w w' g (.cells (cs.take o ++ us ++ cs.drop (o + us.length)).toArray e (0, 0)) → Ops P ro n all rest K (upd s d (.int .i64 ((us.length : Nat) : Int))) w') :
    Ops P ro n all (⟨some d, .call { callee := .builtin .copy, args := #[x, y], argTypes := #[t, t'] }, ty, pos, af, none⟩ :: rest) K s w := by
  obtain ⟨inf, hi1, _, his, _⟩ := hz.info
  have hr := run_copy_row (P := P) w t t' ty e g o dl dc a sl sc cs.toArray e us ht.h (by rw [hi1]; simp [his]) hB.h hn hsrc (by simpa using hfit) h1
  exact Ops.ofRun (w' := w.setRow g (cs.take o ++ us ++ cs.drop (o + us.length)).toArray) rfl (by simp [execOp, resolve, invoke, builtin, hx, hy, hr, goInt]) (h _ (putO_setRow hB))
/-- Clear within a block that is known whole. -/
theorem Ops.clearB (hB : Bk w g cs e) (hx : ev n s x = .slice (some ⟨g, o, none⟩) l c) (hl0 : 0 < l) (hfit : o + l ≤ cs.length) [ht : TSl P t e] [hz : TS P e z 1 bytes] (hzc : z.cells = #[z]) (h1 : z.oneCell' = true)
    (h : ∀ w', PutO w w' g (.cells (cs.take o ++ List.replicate l z ++ cs.drop (o + l)).toArray e (0, 0)) → Ops P ro n all rest K s w') :
    Ops P ro n all (⟨none, .call { callee := .builtin .clear, args := #[x], argTypes := #[t] }, ty, pos, af, none⟩ :: rest) K s w := by
  obtain ⟨inf, hi1, hiz, his, _⟩ := hz.info
  have hzv : (zeroValue e).run P w = .ok z w := by simp [zeroValue, typeInfo, hi1, hiz]
  have hzl : (Builtin.zeroCells z.cells l).toList = List.replicate l z := by
    rw [hzc]
    simp [Builtin.zeroCells]
    apply List.ext_getElem
    · simp
    · intro i h1 h2
      simp [Nat.mod_one]
  have hst := run_storeCells_at P g o e (List.replicate l z) 0 cs.toArray w hB.h (by simpa using hfit) (by intro v hv'; rw [List.eq_of_mem_replicate hv']; exact h1)
  simp only [Nat.add_zero, List.length_replicate] at hst
  have hr : (Builtin.clear_ #[t] ty #[.slice (some ⟨g, o, none⟩) l c]).run P w = .ok (.tuple #[]) (w.setRow g (cs.take o ++ List.replicate l z ++ cs.drop (o + l)).toArray) := by
    obtain ⟨m, rfl⟩ : ∃ m, l = m + 1 := ⟨l - 1, by omega⟩
    simp [Builtin.clear_, run_underlying ht.h, hzv, hzl, hst]
  exact Ops.step rfl (OpW.ofRun (v := .tuple #[]) (w' := w.setRow g (cs.take o ++ List.replicate l z ++ cs.drop (o + l)).toArray) rfl (by simp [execOp, resolve, invoke, builtin, hx, hr]) (h _ (putO_setRow hB)))
theorem Ops.buildSlice2 {u v : Value} (hx : ev n s x = u) (hy : ev n s y = v) [ht : TSl P t e] [hz : TS P e z 1 bytes] (hu : u.cells = #[u]) (hv : v.cells = #[v]) (hzz : z.cells.size = 1)
    (h : ∀ b w', b = w.heap.size → w'.heap.size = w.heap.size + 1 → Step w w' → Bk w' b [u, v] e → Ops P ro n all rest K (upd s d (.slice (some ⟨b, 0, none⟩) 2 2)) w') :
    Ops P ro n all (⟨some d, .buildSlice t 2 #[(0, x), (1, y)], ty, pos, af, none⟩ :: rest) K s w := by
  obtain ⟨inf, hi1, hiz, his, _⟩ := hz.info
  have hfill : ∀ (a b : Value), Instr.fill (fun i => some (i, 1)) #[a, b] [(0, u), (1, v)] = some #[u, v] := by
    intro a b
    simp [Instr.fill, hu, hv]
  have hzv : (zeroValue e).run P w = .ok z w := by simp [zeroValue, typeInfo, hi1, hiz]
  have hrange : (Array.range 2).map (fun x => z.cells[x % z.cells.size]!) = #[z.cells[0]!, z.cells[0]!] := by
    rw [hzz, show Array.range 2 = #[0, 1] from by decide]; simp [Nat.mod_one]
  refine Ops.ofRun (w' := w.alloc (.cells #[u, v] e)) rfl ?_ (h w.heap.size _ rfl (by simp) ⟨(Below.refl _ w).alloc (Nat.le_refl _) _⟩ ⟨World.alloc_heap_new w _⟩)
  simp [execOp, Instr.buildSlice, run_underlying ht.h, run_sizeOf' w hz, hx, hy, hzv, hrange, hfill, newRow]
end rules
end Go.Proofs.YtpbkphaceljclaaGreatDoor

/- The proof engine, part 20: slices of three and four. -/
namespace Go.Proofs.YtpbkphaceljclaaGreatDoor
open Go.RowKit

section rules
variable {P : Program} {ro : Option Nat} {n : Nat} {all rest : List Oper} {K : Sl → World → Prop} {s : Sl} {w : World} {d : Nat} {ty : Nat} {pos : String} {af : Array Edge} {x1 x2 x3 x4 : Operand} {t e bytes : Nat} {z : Value}
theorem Ops.buildSlice3 {v1 v2 v3 : Value} (h1 : ev n s x1 = v1) (h2 : ev n s x2 = v2) (h3 : ev n s x3 = v3) [ht : TSl P t e] [hz : TS P e z 1 bytes] (c1 : v1.cells = #[v1]) (c2 : v2.cells = #[v2]) (c3 : v3.cells = #[v3]) (hzz : z.cells.size = 1)
    (h : ∀ b w', b = w.heap.size → w'.heap.size = w.heap.size + 1 → Step w w' → Bk w' b [v1, v2, v3] e → Ops P ro n all rest K (upd s d (.slice (some ⟨b, 0, none⟩) 3 3)) w') :
    Ops P ro n all (⟨some d, .buildSlice t 3 #[(0, x1), (1, x2), (2, x3)], ty, pos, af, none⟩ :: rest) K s w := by
  obtain ⟨inf, hi1, hiz, his, _⟩ := hz.info
  have hfill : ∀ (a b c : Value), Instr.fill (fun i => some (i, 1)) #[a, b, c] [(0, v1), (1, v2), (2, v3)] = some #[v1, v2, v3] := by
    intro a b c
    simp [Instr.fill, c1, c2, c3]
  have hzv : (zeroValue e).run P w = .ok z w := by simp [zeroValue, typeInfo, hi1, hiz]
  have hrange : (Array.range 3).map (fun x => z.cells[x % z.cells.size]!) = #[z.cells[0]!, z.cells[0]!, z.cells[0]!] := by
    rw [hzz, show Array.range 3 = #[0, 1, 2] from by decide]; simp [Nat.mod_one]
  refine Ops.ofRun (w' := w.alloc (.cells #[v1, v2, v3] e)) rfl ?_ (h w.heap.size _ rfl (by simp) ⟨(Below.refl _ w).alloc (Nat.le_refl _) _⟩ ⟨World.alloc_heap_new w _⟩)
  simp [execOp, Instr.buildSlice, run_underlying ht.h, run_sizeOf' w hz, h1, h2, h3, hzv, hrange, hfill, newRow]
theorem Ops.buildSlice4 {v1 v2 v3 v4 : Value} (h1 : ev n s x1 = v1) (h2 : ev n s x2 = v2) (h3 : ev n s x3 = v3) (h4 : ev n s x4 = v4) [ht : TSl P t e] [hz : TS P e z 1 bytes] (c1 : v1.cells = #[v1]) (c2 : v2.cells = #[v2]) (c3 : v3.cells = #[v3]) (c4 : v4.cells = #[v4]) (hzz : z.cells.size = 1)
    (h : ∀ b w', b = w.heap.size → w'.heap.size = w.heap.size + 1 → Step w w' → Bk w' b [v1, v2, v3, v4] e → Ops P ro n all rest K (upd s d (.slice (some ⟨b, 0, none⟩) 4 4)) w') :
    Ops P ro n all (⟨some d, .buildSlice t 4 #[(0, x1), (1, x2), (2, x3), (3, x4)], ty, pos, af, none⟩ :: rest) K s w := by
  obtain ⟨inf, hi1, hiz, his, _⟩ := hz.info
  have hfill : ∀ (a b c f : Value), Instr.fill (fun i => some (i, 1)) #[a, b, c, f] [(0, v1), (1, v2), (2, v3), (3, v4)] = some #[v1, v2, v3, v4] := by
    intro a b c f
    simp [Instr.fill, c1, c2, c3, c4]
  have hzv : (zeroValue e).run P w = .ok z w := by simp [zeroValue, typeInfo, hi1, hiz]
  have hrange : (Array.range 4).map (fun x => z.cells[x % z.cells.size]!) = #[z.cells[0]!, z.cells[0]!, z.cells[0]!, z.cells[0]!] := by
    rw [hzz, show Array.range 4 = #[0, 1, 2, 3] from by decide]; simp [Nat.mod_one]
  refine Ops.ofRun (w' := w.alloc (.cells #[v1, v2, v3, v4] e)) rfl ?_ (h w.heap.size _ rfl (by simp) ⟨(Below.refl _ w).alloc (Nat.le_refl _) _⟩ ⟨World.alloc_heap_new w _⟩)
  simp [execOp, Instr.buildSlice, run_underlying ht.h, run_sizeOf' w hz, h1, h2, h3, h4, hzv, hrange, hfill, newRow]
end rules
end Go.Proofs.YtpbkphaceljclaaGreatDoor

/- What the program's types and functions are, as facts that the rules find by themselves: printed by gen.py off the seat's translation. -/
namespace Go.Proofs.YtpbkphaceljclaaGreatDoor
open Go.RowKit

instance : Mixed Tryz.prog := ⟨by kernel_rfl⟩
instance tu1 : TU Tryz.prog 1 (.func #[] #[] false) := ⟨Tryz.underlying1⟩
instance ts1 : TS Tryz.prog 1 (.nilFunc) 1 8 := ⟨by kernel_rfl⟩
instance tu2 : TU Tryz.prog 2 (.int .i64) := ⟨Tryz.underlying2⟩
instance ts2 : TS Tryz.prog 2 (.int .i64 0) 1 8 := ⟨by kernel_rfl⟩
instance tu3 : TU Tryz.prog 3 (.int .i64) := ⟨Tryz.underlying3⟩
instance ts3 : TS Tryz.prog 3 (.int .i64 0) 1 8 := ⟨by kernel_rfl⟩
instance tu4 : TU Tryz.prog 4 (.bool) := ⟨Tryz.underlying4⟩
instance ts4 : TS Tryz.prog 4 (.bool false) 1 1 := ⟨by kernel_rfl⟩
instance tu5 : TU Tryz.prog 5 (.int .u8) := ⟨Tryz.underlying5⟩
instance ts5 : TS Tryz.prog 5 (.int .u8 0) 1 1 := ⟨by kernel_rfl⟩
instance tu7 : TU Tryz.prog 7 (.struct #[{ name := "x", type := 2, offset := 0, embedded := false, tag := "", pkgPath := "runtime", byteOffset := 0 }, { name := "y", type := 3, offset := 1, embedded := false, tag := "", pkgPath := "runtime", byteOffset := 8 }, { name := "signed", type := 4, offset := 2, embedded := false, tag := "", pkgPath := "runtime", byteOffset := 16 }, { name := "code", type := 6, offset := 3, embedded := false, tag := "", pkgPath := "runtime", byteOffset := 17 }]) := ⟨Tryz.underlying7⟩
instance ts7 : TS Tryz.prog 7 (.agg #[.int .i64 0, .int .i64 0, .bool false, .int .u8 0]) 4 24 := ⟨by kernel_rfl⟩
instance tu9 : TU Tryz.prog 9 (.string) := ⟨Tryz.underlying9⟩
instance ts9 : TS Tryz.prog 9 (.string ⟨#[]⟩) 1 16 := ⟨by kernel_rfl⟩
instance tu12 : TU Tryz.prog 12 (.int .u64) := ⟨Tryz.underlying12⟩
instance ts12 : TS Tryz.prog 12 (.int .u64 0) 1 8 := ⟨by kernel_rfl⟩
instance tu13 : TU Tryz.prog 13 (.struct #[{ name := "msg", type := 9, offset := 0, embedded := false, tag := "", pkgPath := "runtime", byteOffset := 0 }, { name := "addr", type := 12, offset := 1, embedded := false, tag := "", pkgPath := "runtime", byteOffset := 16 }]) := ⟨Tryz.underlying13⟩
instance ts13 : TS Tryz.prog 13 (.agg #[.string ⟨#[]⟩, .int .u64 0]) 2 24 := ⟨by kernel_rfl⟩
instance tu18 : TU Tryz.prog 18 (.struct #[{ name := "typ", type := 17, offset := 0, embedded := false, tag := "", pkgPath := "internal/runtime/maps", byteOffset := 0 }]) := ⟨Tryz.underlying18⟩
instance ts18 : TS Tryz.prog 18 (.agg #[.pointer none]) 1 8 := ⟨by kernel_rfl⟩
instance tu21 : TU Tryz.prog 21 (.int .i32) := ⟨Tryz.underlying21⟩
instance ts21 : TS Tryz.prog 21 (.int .i32 0) 1 4 := ⟨by kernel_rfl⟩
instance : TSl Tryz.prog 22 63 := ⟨Tryz.underlying22⟩
instance tu22 : TU Tryz.prog 22 (.slice 63) := ⟨Tryz.underlying22⟩
instance ts22 : TS Tryz.prog 22 (.slice none 0 0) 1 24 := ⟨by kernel_rfl⟩
instance tu23 : TU Tryz.prog 23 (.struct #[{ name := "Chapters", type := 22, offset := 0, embedded := false, tag := "", pkgPath := "", byteOffset := 0 }]) := ⟨Tryz.underlying23⟩
instance ts23 : TS Tryz.prog 23 (.agg #[.slice none 0 0]) 1 24 := ⟨by kernel_rfl⟩
instance tu24 : TU Tryz.prog 24 (.struct #[{ name := "Chapters", type := 22, offset := 0, embedded := false, tag := "", pkgPath := "", byteOffset := 0 }]) := ⟨Tryz.underlying24⟩
instance ts24 : TS Tryz.prog 24 (.agg #[.slice none 0 0]) 1 24 := ⟨by kernel_rfl⟩
instance tu25 : TU Tryz.prog 25 (.struct #[{ name := "Width", type := 3, offset := 0, embedded := false, tag := "", pkgPath := "", byteOffset := 0 }, { name := "Side", type := 5, offset := 1, embedded := false, tag := "", pkgPath := "", byteOffset := 8 }]) := ⟨Tryz.underlying25⟩
instance ts25 : TS Tryz.prog 25 (.agg #[.int .i64 0, .int .u8 0]) 2 16 := ⟨by kernel_rfl⟩
instance tu26 : TU Tryz.prog 26 (.struct #[{ name := "Width", type := 3, offset := 0, embedded := false, tag := "", pkgPath := "", byteOffset := 0 }, { name := "Side", type := 5, offset := 1, embedded := false, tag := "", pkgPath := "", byteOffset := 8 }]) := ⟨Tryz.underlying26⟩
instance ts26 : TS Tryz.prog 26 (.agg #[.int .i64 0, .int .u8 0]) 2 16 := ⟨by kernel_rfl⟩
instance tu27 : TU Tryz.prog 27 (.func #[24] #[4] false) := ⟨Tryz.underlying27⟩
instance ts27 : TS Tryz.prog 27 (.nilFunc) 1 8 := ⟨by kernel_rfl⟩
instance tu28 : TU Tryz.prog 28 (.func #[24] #[24] false) := ⟨Tryz.underlying28⟩
instance ts28 : TS Tryz.prog 28 (.nilFunc) 1 8 := ⟨by kernel_rfl⟩
instance : TSl Tryz.prog 29 72 := ⟨Tryz.underlying29⟩
instance tu29 : TU Tryz.prog 29 (.slice 72) := ⟨Tryz.underlying29⟩
instance ts29 : TS Tryz.prog 29 (.slice none 0 0) 1 24 := ⟨by kernel_rfl⟩
instance tu30 : TU Tryz.prog 30 (.struct #[{ name := "Height", type := 3, offset := 0, embedded := false, tag := "", pkgPath := "", byteOffset := 0 }, { name := "Blocks", type := 29, offset := 1, embedded := false, tag := "", pkgPath := "", byteOffset := 8 }]) := ⟨Tryz.underlying30⟩
instance ts30 : TS Tryz.prog 30 (.agg #[.int .i64 0, .slice none 0 0]) 2 32 := ⟨by kernel_rfl⟩
instance tu31 : TU Tryz.prog 31 (.struct #[{ name := "Height", type := 3, offset := 0, embedded := false, tag := "", pkgPath := "", byteOffset := 0 }, { name := "Blocks", type := 29, offset := 1, embedded := false, tag := "", pkgPath := "", byteOffset := 8 }]) := ⟨Tryz.underlying31⟩
instance ts31 : TS Tryz.prog 31 (.agg #[.int .i64 0, .slice none 0 0]) 2 32 := ⟨by kernel_rfl⟩
instance tu32 : TU Tryz.prog 32 (.int .i64) := ⟨Tryz.underlying32⟩
instance ts32 : TS Tryz.prog 32 (.int .i64 0) 1 8 := ⟨by kernel_rfl⟩
instance tu34 : TU Tryz.prog 34 (.func #[24, 26, 3] #[31, 32] false) := ⟨Tryz.underlying34⟩
instance ts34 : TS Tryz.prog 34 (.nilFunc) 1 8 := ⟨by kernel_rfl⟩
instance tu36 : TU Tryz.prog 36 (.func #[24, 26, 3] #[31, 3] false) := ⟨Tryz.underlying36⟩
instance ts36 : TS Tryz.prog 36 (.nilFunc) 1 8 := ⟨by kernel_rfl⟩
instance tu37 : TU Tryz.prog 37 (.func #[31, 31] #[4] false) := ⟨Tryz.underlying37⟩
instance ts37 : TS Tryz.prog 37 (.nilFunc) 1 8 := ⟨by kernel_rfl⟩
instance tu38 : TU Tryz.prog 38 (.func #[24, 24] #[4] false) := ⟨Tryz.underlying38⟩
instance ts38 : TS Tryz.prog 38 (.nilFunc) 1 8 := ⟨by kernel_rfl⟩
instance tu39 : TU Tryz.prog 39 (.func #[24, 26, 3] #[4] false) := ⟨Tryz.underlying39⟩
instance ts39 : TS Tryz.prog 39 (.nilFunc) 1 8 := ⟨by kernel_rfl⟩
instance tu40 : TU Tryz.prog 40 (.int .u16) := ⟨Tryz.underlying40⟩
instance ts40 : TS Tryz.prog 40 (.int .u16 0) 1 2 := ⟨by kernel_rfl⟩
instance tu41 : TU Tryz.prog 41 (.func #[] #[4] false) := ⟨Tryz.underlying41⟩
instance ts41 : TS Tryz.prog 41 (.nilFunc) 1 8 := ⟨by kernel_rfl⟩
instance tu42 : TU Tryz.prog 42 (.func #[24, 26] #[4] false) := ⟨Tryz.underlying42⟩
instance ts42 : TS Tryz.prog 42 (.nilFunc) 1 8 := ⟨by kernel_rfl⟩
instance tu43 : TU Tryz.prog 43 (.struct #[{ name := "Chapter", type := 3, offset := 0, embedded := false, tag := "", pkgPath := "", byteOffset := 0 }, { name := "Line", type := 3, offset := 1, embedded := false, tag := "", pkgPath := "", byteOffset := 8 }, { name := "Word", type := 3, offset := 2, embedded := false, tag := "", pkgPath := "", byteOffset := 16 }]) := ⟨Tryz.underlying43⟩
instance ts43 : TS Tryz.prog 43 (.agg #[.int .i64 0, .int .i64 0, .int .i64 0]) 3 24 := ⟨by kernel_rfl⟩
instance tu44 : TU Tryz.prog 44 (.struct #[{ name := "Chapter", type := 3, offset := 0, embedded := false, tag := "", pkgPath := "", byteOffset := 0 }, { name := "Line", type := 3, offset := 1, embedded := false, tag := "", pkgPath := "", byteOffset := 8 }, { name := "Word", type := 3, offset := 2, embedded := false, tag := "", pkgPath := "", byteOffset := 16 }]) := ⟨Tryz.underlying44⟩
instance ts44 : TS Tryz.prog 44 (.agg #[.int .i64 0, .int .i64 0, .int .i64 0]) 3 24 := ⟨by kernel_rfl⟩
instance tu46 : TU Tryz.prog 46 (.func #[24, 40] #[44, 4] false) := ⟨Tryz.underlying46⟩
instance ts46 : TS Tryz.prog 46 (.nilFunc) 1 8 := ⟨by kernel_rfl⟩
instance tu47 : TU Tryz.prog 47 (.struct #[{ name := "At", type := 44, offset := 0, embedded := false, tag := "", pkgPath := "", byteOffset := 0 }, { name := "Word", type := 9, offset := 3, embedded := false, tag := "", pkgPath := "", byteOffset := 24 }, { name := "Before", type := 9, offset := 4, embedded := false, tag := "", pkgPath := "", byteOffset := 40 }, { name := "After", type := 9, offset := 5, embedded := false, tag := "", pkgPath := "", byteOffset := 56 }]) := ⟨Tryz.underlying47⟩
instance ts47 : TS Tryz.prog 47 (.agg #[.int .i64 0, .int .i64 0, .int .i64 0, .string ⟨#[]⟩, .string ⟨#[]⟩, .string ⟨#[]⟩]) 6 72 := ⟨by kernel_rfl⟩
instance tu48 : TU Tryz.prog 48 (.struct #[{ name := "At", type := 44, offset := 0, embedded := false, tag := "", pkgPath := "", byteOffset := 0 }, { name := "Word", type := 9, offset := 3, embedded := false, tag := "", pkgPath := "", byteOffset := 24 }, { name := "Before", type := 9, offset := 4, embedded := false, tag := "", pkgPath := "", byteOffset := 40 }, { name := "After", type := 9, offset := 5, embedded := false, tag := "", pkgPath := "", byteOffset := 56 }]) := ⟨Tryz.underlying48⟩
instance ts48 : TS Tryz.prog 48 (.agg #[.int .i64 0, .int .i64 0, .int .i64 0, .string ⟨#[]⟩, .string ⟨#[]⟩, .string ⟨#[]⟩]) 6 72 := ⟨by kernel_rfl⟩
instance tu50 : TU Tryz.prog 50 (.func #[24, 26, 44] #[48, 32] false) := ⟨Tryz.underlying50⟩
instance ts50 : TS Tryz.prog 50 (.nilFunc) 1 8 := ⟨by kernel_rfl⟩
instance tu51 : TU Tryz.prog 51 (.func #[48] #[4] false) := ⟨Tryz.underlying51⟩
instance ts51 : TS Tryz.prog 51 (.nilFunc) 1 8 := ⟨by kernel_rfl⟩
instance tu52 : TU Tryz.prog 52 (.func #[48] #[3] false) := ⟨Tryz.underlying52⟩
instance ts52 : TS Tryz.prog 52 (.nilFunc) 1 8 := ⟨by kernel_rfl⟩
instance : TSl Tryz.prog 53 9 := ⟨Tryz.underlying53⟩
instance tu53 : TU Tryz.prog 53 (.slice 9) := ⟨Tryz.underlying53⟩
instance ts53 : TS Tryz.prog 53 (.slice none 0 0) 1 24 := ⟨by kernel_rfl⟩
instance : TSl Tryz.prog 54 44 := ⟨Tryz.underlying54⟩
instance tu54 : TU Tryz.prog 54 (.slice 44) := ⟨Tryz.underlying54⟩
instance ts54 : TS Tryz.prog 54 (.slice none 0 0) 1 24 := ⟨by kernel_rfl⟩
instance tu56 : TU Tryz.prog 56 (.func #[24, 3] #[53, 54] false) := ⟨Tryz.underlying56⟩
instance ts56 : TS Tryz.prog 56 (.nilFunc) 1 8 := ⟨by kernel_rfl⟩
instance tu57 : TU Tryz.prog 57 (.func #[24, 26, 40] #[4] false) := ⟨Tryz.underlying57⟩
instance ts57 : TS Tryz.prog 57 (.nilFunc) 1 8 := ⟨by kernel_rfl⟩
instance tu58 : TU Tryz.prog 58 (.func #[9] #[3] false) := ⟨Tryz.underlying58⟩
instance ts58 : TS Tryz.prog 58 (.nilFunc) 1 8 := ⟨by kernel_rfl⟩
instance tu59 : TU Tryz.prog 59 (.func #[24, 26, 40, 5] #[4] false) := ⟨Tryz.underlying59⟩
instance ts59 : TS Tryz.prog 59 (.nilFunc) 1 8 := ⟨by kernel_rfl⟩
instance : TArr Tryz.prog 60 3 48 := ⟨Tryz.underlying60⟩
instance tu60 : TU Tryz.prog 60 (.array 3 48) := ⟨Tryz.underlying60⟩
instance ts60 : TS Tryz.prog 60 (.agg #[.int .i64 0, .int .i64 0, .int .i64 0, .string ⟨#[]⟩, .string ⟨#[]⟩, .string ⟨#[]⟩, .int .i64 0, .int .i64 0, .int .i64 0, .string ⟨#[]⟩, .string ⟨#[]⟩, .string ⟨#[]⟩, .int .i64 0, .int .i64 0, .int .i64 0, .string ⟨#[]⟩, .string ⟨#[]⟩, .string ⟨#[]⟩]) 18 216 := ⟨by kernel_rfl⟩
instance : TSl Tryz.prog 61 53 := ⟨Tryz.underlying61⟩
instance tu61 : TU Tryz.prog 61 (.slice 53) := ⟨Tryz.underlying61⟩
instance ts61 : TS Tryz.prog 61 (.slice none 0 0) 1 24 := ⟨by kernel_rfl⟩
instance tu62 : TU Tryz.prog 62 (.struct #[{ name := "Id", type := 3, offset := 0, embedded := false, tag := "", pkgPath := "", byteOffset := 0 }, { name := "Lines", type := 61, offset := 1, embedded := false, tag := "", pkgPath := "", byteOffset := 8 }]) := ⟨Tryz.underlying62⟩
instance ts62 : TS Tryz.prog 62 (.agg #[.int .i64 0, .slice none 0 0]) 2 32 := ⟨by kernel_rfl⟩
instance tu63 : TU Tryz.prog 63 (.struct #[{ name := "Id", type := 3, offset := 0, embedded := false, tag := "", pkgPath := "", byteOffset := 0 }, { name := "Lines", type := 61, offset := 1, embedded := false, tag := "", pkgPath := "", byteOffset := 8 }]) := ⟨Tryz.underlying63⟩
instance ts63 : TS Tryz.prog 63 (.agg #[.int .i64 0, .slice none 0 0]) 2 32 := ⟨by kernel_rfl⟩
instance : TSl Tryz.prog 64 48 := ⟨Tryz.underlying64⟩
instance tu64 : TU Tryz.prog 64 (.slice 48) := ⟨Tryz.underlying64⟩
instance ts64 : TS Tryz.prog 64 (.slice none 0 0) 1 24 := ⟨by kernel_rfl⟩
instance tu66 : TU Tryz.prog 66 (.func #[24, 26] #[64, 32] false) := ⟨Tryz.underlying66⟩
instance ts66 : TS Tryz.prog 66 (.nilFunc) 1 8 := ⟨by kernel_rfl⟩
instance tu67 : TU Tryz.prog 67 (.func #[3, 3, 97] #[4] true) := ⟨Tryz.underlying67⟩
instance ts67 : TS Tryz.prog 67 (.nilFunc) 1 8 := ⟨by kernel_rfl⟩
instance : TMap Tryz.prog 68 9 3 := ⟨Tryz.underlying68⟩
instance tu68 : TU Tryz.prog 68 (.map 9 3) := ⟨Tryz.underlying68⟩
instance ts68 : TS Tryz.prog 68 (.map none) 1 8 := ⟨by kernel_rfl⟩
instance tu70 : TU Tryz.prog 70 (.func #[24] #[53, 32] false) := ⟨Tryz.underlying70⟩
instance ts70 : TS Tryz.prog 70 (.nilFunc) 1 8 := ⟨by kernel_rfl⟩
instance tu71 : TU Tryz.prog 71 (.struct #[{ name := "Word", type := 9, offset := 0, embedded := false, tag := "", pkgPath := "", byteOffset := 0 }, { name := "Lines", type := 3, offset := 1, embedded := false, tag := "", pkgPath := "", byteOffset := 16 }]) := ⟨Tryz.underlying71⟩
instance ts71 : TS Tryz.prog 71 (.agg #[.string ⟨#[]⟩, .int .i64 0]) 2 24 := ⟨by kernel_rfl⟩
instance tu72 : TU Tryz.prog 72 (.struct #[{ name := "Word", type := 9, offset := 0, embedded := false, tag := "", pkgPath := "", byteOffset := 0 }, { name := "Lines", type := 3, offset := 1, embedded := false, tag := "", pkgPath := "", byteOffset := 16 }]) := ⟨Tryz.underlying72⟩
instance ts72 : TS Tryz.prog 72 (.agg #[.string ⟨#[]⟩, .int .i64 0]) 2 24 := ⟨by kernel_rfl⟩
instance tu73 : TU Tryz.prog 73 (.func #[31] #[32] false) := ⟨Tryz.underlying73⟩
instance ts73 : TS Tryz.prog 73 (.nilFunc) 1 8 := ⟨by kernel_rfl⟩
instance tu75 : TU Tryz.prog 75 (.func #[24, 26] #[64, 3] false) := ⟨Tryz.underlying75⟩
instance ts75 : TS Tryz.prog 75 (.nilFunc) 1 8 := ⟨by kernel_rfl⟩
instance tu76 : TU Tryz.prog 76 (.func #[3, 3, 3] #[4] false) := ⟨Tryz.underlying76⟩
instance ts76 : TS Tryz.prog 76 (.nilFunc) 1 8 := ⟨by kernel_rfl⟩
instance tu78 : TU Tryz.prog 78 (.func #[24] #[53, 3] false) := ⟨Tryz.underlying78⟩
instance ts78 : TS Tryz.prog 78 (.nilFunc) 1 8 := ⟨by kernel_rfl⟩
instance tu79 : TU Tryz.prog 79 (.func #[53, 53] #[4] false) := ⟨Tryz.underlying79⟩
instance ts79 : TS Tryz.prog 79 (.nilFunc) 1 8 := ⟨by kernel_rfl⟩
instance tu80 : TU Tryz.prog 80 (.func #[] #[24] false) := ⟨Tryz.underlying80⟩
instance ts80 : TS Tryz.prog 80 (.nilFunc) 1 8 := ⟨by kernel_rfl⟩
instance tu81 : TU Tryz.prog 81 (.func #[5] #[26] false) := ⟨Tryz.underlying81⟩
instance ts81 : TS Tryz.prog 81 (.nilFunc) 1 8 := ⟨by kernel_rfl⟩
instance tu82 : TU Tryz.prog 82 (.func #[24, 26, 44, 44] #[64, 32] false) := ⟨Tryz.underlying82⟩
instance ts82 : TS Tryz.prog 82 (.nilFunc) 1 8 := ⟨by kernel_rfl⟩
instance tu83 : TU Tryz.prog 83 (.func #[3, 3, 3] #[44] false) := ⟨Tryz.underlying83⟩
instance ts83 : TS Tryz.prog 83 (.nilFunc) 1 8 := ⟨by kernel_rfl⟩
instance tu85 : TU Tryz.prog 85 (.func #[24, 48] #[54, 32] false) := ⟨Tryz.underlying85⟩
instance ts85 : TS Tryz.prog 85 (.nilFunc) 1 8 := ⟨by kernel_rfl⟩
instance tu87 : TU Tryz.prog 87 (.func #[24, 90, 44] #[44, 32] false) := ⟨Tryz.underlying87⟩
instance ts87 : TS Tryz.prog 87 (.nilFunc) 1 8 := ⟨by kernel_rfl⟩
instance : TSl Tryz.prog 88 145 := ⟨Tryz.underlying88⟩
instance tu88 : TU Tryz.prog 88 (.slice 145) := ⟨Tryz.underlying88⟩
instance ts88 : TS Tryz.prog 88 (.slice none 0 0) 1 24 := ⟨by kernel_rfl⟩
instance tu89 : TU Tryz.prog 89 (.struct #[{ name := "Id", type := 3, offset := 0, embedded := false, tag := "", pkgPath := "", byteOffset := 0 }, { name := "Readings", type := 88, offset := 1, embedded := false, tag := "", pkgPath := "", byteOffset := 8 }]) := ⟨Tryz.underlying89⟩
instance ts89 : TS Tryz.prog 89 (.agg #[.int .i64 0, .slice none 0 0]) 2 32 := ⟨by kernel_rfl⟩
instance tu90 : TU Tryz.prog 90 (.struct #[{ name := "Id", type := 3, offset := 0, embedded := false, tag := "", pkgPath := "", byteOffset := 0 }, { name := "Readings", type := 88, offset := 1, embedded := false, tag := "", pkgPath := "", byteOffset := 8 }]) := ⟨Tryz.underlying90⟩
instance ts90 : TS Tryz.prog 90 (.agg #[.int .i64 0, .slice none 0 0]) 2 32 := ⟨by kernel_rfl⟩
instance tu91 : TU Tryz.prog 91 (.func #[] #[90] false) := ⟨Tryz.underlying91⟩
instance ts91 : TS Tryz.prog 91 (.nilFunc) 1 8 := ⟨by kernel_rfl⟩
instance tu92 : TU Tryz.prog 92 (.func #[24, 26, 64] #[54, 32] false) := ⟨Tryz.underlying92⟩
instance ts92 : TS Tryz.prog 92 (.nilFunc) 1 8 := ⟨by kernel_rfl⟩
instance tu94 : TU Tryz.prog 94 (.func #[48, 48] #[3, 32] false) := ⟨Tryz.underlying94⟩
instance ts94 : TS Tryz.prog 94 (.nilFunc) 1 8 := ⟨by kernel_rfl⟩
instance tu96 : TU Tryz.prog 96 (.func #[24, 26, 48] #[5, 32] false) := ⟨Tryz.underlying96⟩
instance ts96 : TS Tryz.prog 96 (.nilFunc) 1 8 := ⟨by kernel_rfl⟩
instance : TSl Tryz.prog 97 3 := ⟨Tryz.underlying97⟩
instance tu97 : TU Tryz.prog 97 (.slice 3) := ⟨Tryz.underlying97⟩
instance ts97 : TS Tryz.prog 97 (.slice none 0 0) 1 24 := ⟨by kernel_rfl⟩
instance tu99 : TU Tryz.prog 99 (.func #[64] #[97, 32] false) := ⟨Tryz.underlying99⟩
instance ts99 : TS Tryz.prog 99 (.nilFunc) 1 8 := ⟨by kernel_rfl⟩
instance tu100 : TU Tryz.prog 100 (.func #[44, 5, 9, 9, 9] #[4] false) := ⟨Tryz.underlying100⟩
instance ts100 : TS Tryz.prog 100 (.nilFunc) 1 8 := ⟨by kernel_rfl⟩
instance tu101 : TU Tryz.prog 101 (.func #[54, 54] #[4] false) := ⟨Tryz.underlying101⟩
instance ts101 : TS Tryz.prog 101 (.nilFunc) 1 8 := ⟨by kernel_rfl⟩
instance tu102 : TU Tryz.prog 102 (.func #[97, 97] #[4] false) := ⟨Tryz.underlying102⟩
instance ts102 : TS Tryz.prog 102 (.nilFunc) 1 8 := ⟨by kernel_rfl⟩
instance tu103 : TU Tryz.prog 103 (.func #[26] #[4] false) := ⟨Tryz.underlying103⟩
instance ts103 : TS Tryz.prog 103 (.nilFunc) 1 8 := ⟨by kernel_rfl⟩
instance tu104 : TU Tryz.prog 104 (.func #[24] #[3, 32] false) := ⟨Tryz.underlying104⟩
instance ts104 : TS Tryz.prog 104 (.nilFunc) 1 8 := ⟨by kernel_rfl⟩
instance tu105 : TU Tryz.prog 105 (.func #[24, 3] #[44, 32] false) := ⟨Tryz.underlying105⟩
instance ts105 : TS Tryz.prog 105 (.nilFunc) 1 8 := ⟨by kernel_rfl⟩
instance tu106 : TU Tryz.prog 106 (.func #[24, 44] #[4] false) := ⟨Tryz.underlying106⟩
instance ts106 : TS Tryz.prog 106 (.nilFunc) 1 8 := ⟨by kernel_rfl⟩
instance tu107 : TU Tryz.prog 107 (.func #[24, 26] #[32] false) := ⟨Tryz.underlying107⟩
instance ts107 : TS Tryz.prog 107 (.nilFunc) 1 8 := ⟨by kernel_rfl⟩
instance tu109 : TU Tryz.prog 109 (.func #[24, 26, 44] #[48, 4] false) := ⟨Tryz.underlying109⟩
instance ts109 : TS Tryz.prog 109 (.nilFunc) 1 8 := ⟨by kernel_rfl⟩
instance tu111 : TU Tryz.prog 111 (.func #[9] #[53, 4] false) := ⟨Tryz.underlying111⟩
instance ts111 : TS Tryz.prog 111 (.nilFunc) 1 8 := ⟨by kernel_rfl⟩
instance tu112 : TU Tryz.prog 112 (.func #[9] #[4] false) := ⟨Tryz.underlying112⟩
instance ts112 : TS Tryz.prog 112 (.nilFunc) 1 8 := ⟨by kernel_rfl⟩
instance tu113 : TU Tryz.prog 113 (.func #[115] #[64] false) := ⟨Tryz.underlying113⟩
instance ts113 : TS Tryz.prog 113 (.nilFunc) 1 8 := ⟨by kernel_rfl⟩
instance tu114 : TU Tryz.prog 114 (.func #[51] #[] false) := ⟨Tryz.underlying114⟩
instance ts114 : TS Tryz.prog 114 (.nilFunc) 1 8 := ⟨by kernel_rfl⟩
instance tu115 : TU Tryz.prog 115 (.func #[51] #[] false) := ⟨Tryz.underlying115⟩
instance ts115 : TS Tryz.prog 115 (.nilFunc) 1 8 := ⟨by kernel_rfl⟩
instance tu116 : TU Tryz.prog 116 (.func #[24, 26] #[115] false) := ⟨Tryz.underlying116⟩
instance ts116 : TS Tryz.prog 116 (.nilFunc) 1 8 := ⟨by kernel_rfl⟩
instance tu117 : TU Tryz.prog 117 (.func #[97, 118] #[4] false) := ⟨Tryz.underlying117⟩
instance ts117 : TS Tryz.prog 117 (.nilFunc) 1 8 := ⟨by kernel_rfl⟩
instance tu118 : TU Tryz.prog 118 (.func #[3] #[4] false) := ⟨Tryz.underlying118⟩
instance ts118 : TS Tryz.prog 118 (.nilFunc) 1 8 := ⟨by kernel_rfl⟩
instance tu119 : TU Tryz.prog 119 (.pointer 157) := ⟨Tryz.underlying119⟩
instance ts119 : TS Tryz.prog 119 (.pointer none) 1 8 := ⟨by kernel_rfl⟩
instance tu121 : TU Tryz.prog 121 (.func #[24] #[119, 32] false) := ⟨Tryz.underlying121⟩
instance ts121 : TS Tryz.prog 121 (.nilFunc) 1 8 := ⟨by kernel_rfl⟩
instance : TMap Tryz.prog 122 9 54 := ⟨Tryz.underlying122⟩
instance tu122 : TU Tryz.prog 122 (.map 9 54) := ⟨Tryz.underlying122⟩
instance ts122 : TS Tryz.prog 122 (.map none) 1 8 := ⟨by kernel_rfl⟩
instance tu123 : TU Tryz.prog 123 (.func #[] #[122] false) := ⟨Tryz.underlying123⟩
instance ts123 : TS Tryz.prog 123 (.nilFunc) 1 8 := ⟨by kernel_rfl⟩
instance tu124 : TU Tryz.prog 124 (.func #[158] #[] false) := ⟨Tryz.underlying124⟩
instance ts124 : TS Tryz.prog 124 (.nilFunc) 1 8 := ⟨by kernel_rfl⟩
instance tu125 : TU Tryz.prog 125 (.func #[158] #[] false) := ⟨Tryz.underlying125⟩
instance ts125 : TS Tryz.prog 125 (.nilFunc) 1 8 := ⟨by kernel_rfl⟩
instance tu126 : TU Tryz.prog 126 (.func #[] #[125] false) := ⟨Tryz.underlying126⟩
instance ts126 : TS Tryz.prog 126 (.nilFunc) 1 8 := ⟨by kernel_rfl⟩
instance tu127 : TU Tryz.prog 127 (.func #[112] #[] false) := ⟨Tryz.underlying127⟩
instance ts127 : TS Tryz.prog 127 (.nilFunc) 1 8 := ⟨by kernel_rfl⟩
instance tu128 : TU Tryz.prog 128 (.func #[159, 129] #[53] false) := ⟨Tryz.underlying128⟩
instance ts128 : TS Tryz.prog 128 (.nilFunc) 1 8 := ⟨by kernel_rfl⟩
instance tu129 : TU Tryz.prog 129 (.func #[9, 9] #[3] false) := ⟨Tryz.underlying129⟩
instance ts129 : TS Tryz.prog 129 (.nilFunc) 1 8 := ⟨by kernel_rfl⟩
instance tu130 : TU Tryz.prog 130 (.func #[29, 131] #[4] false) := ⟨Tryz.underlying130⟩
instance ts130 : TS Tryz.prog 130 (.nilFunc) 1 8 := ⟨by kernel_rfl⟩
instance tu131 : TU Tryz.prog 131 (.func #[72] #[4] false) := ⟨Tryz.underlying131⟩
instance ts131 : TS Tryz.prog 131 (.nilFunc) 1 8 := ⟨by kernel_rfl⟩
instance tu132 : TU Tryz.prog 132 (.func #[24, 26] #[3] false) := ⟨Tryz.underlying132⟩
instance ts132 : TS Tryz.prog 132 (.nilFunc) 1 8 := ⟨by kernel_rfl⟩
instance tu133 : TU Tryz.prog 133 (.func #[24] #[54] false) := ⟨Tryz.underlying133⟩
instance ts133 : TS Tryz.prog 133 (.nilFunc) 1 8 := ⟨by kernel_rfl⟩
instance tu134 : TU Tryz.prog 134 (.func #[24, 26, 44] #[48] false) := ⟨Tryz.underlying134⟩
instance ts134 : TS Tryz.prog 134 (.nilFunc) 1 8 := ⟨by kernel_rfl⟩
instance tu135 : TU Tryz.prog 135 (.func #[24, 44] #[9] false) := ⟨Tryz.underlying135⟩
instance ts135 : TS Tryz.prog 135 (.nilFunc) 1 8 := ⟨by kernel_rfl⟩
instance tu136 : TU Tryz.prog 136 (.func #[44, 44] #[3] false) := ⟨Tryz.underlying136⟩
instance ts136 : TS Tryz.prog 136 (.nilFunc) 1 8 := ⟨by kernel_rfl⟩
instance tu137 : TU Tryz.prog 137 (.func #[24] #[32] false) := ⟨Tryz.underlying137⟩
instance ts137 : TS Tryz.prog 137 (.nilFunc) 1 8 := ⟨by kernel_rfl⟩
instance tu138 : TU Tryz.prog 138 (.func #[61] #[53] true) := ⟨Tryz.underlying138⟩
instance ts138 : TS Tryz.prog 138 (.nilFunc) 1 8 := ⟨by kernel_rfl⟩
instance tu139 : TU Tryz.prog 139 (.struct #[{ name := "Cut", type := 26, offset := 0, embedded := true, tag := "", pkgPath := "", byteOffset := 0 }, { name := "words", type := 53, offset := 2, embedded := false, tag := "", pkgPath := "postil/slip", byteOffset := 16 }, { name := "at", type := 54, offset := 3, embedded := false, tag := "", pkgPath := "postil/slip", byteOffset := 40 }]) := ⟨Tryz.underlying139⟩
instance ts139 : TS Tryz.prog 139 (.agg #[.int .i64 0, .int .u8 0, .slice none 0 0, .slice none 0 0]) 4 64 := ⟨by kernel_rfl⟩
instance tu140 : TU Tryz.prog 140 (.struct #[{ name := "Cut", type := 26, offset := 0, embedded := true, tag := "", pkgPath := "", byteOffset := 0 }, { name := "words", type := 53, offset := 2, embedded := false, tag := "", pkgPath := "postil/slip", byteOffset := 16 }, { name := "at", type := 54, offset := 3, embedded := false, tag := "", pkgPath := "postil/slip", byteOffset := 40 }]) := ⟨Tryz.underlying140⟩
instance ts140 : TS Tryz.prog 140 (.agg #[.int .i64 0, .int .u8 0, .slice none 0 0, .slice none 0 0]) 4 64 := ⟨by kernel_rfl⟩
instance tu141 : TU Tryz.prog 141 (.func #[24, 26, 3] #[140] false) := ⟨Tryz.underlying141⟩
instance ts141 : TS Tryz.prog 141 (.nilFunc) 1 8 := ⟨by kernel_rfl⟩
instance tu143 : TU Tryz.prog 143 (.func #[24, 90, 44] #[9, 32] false) := ⟨Tryz.underlying143⟩
instance ts143 : TS Tryz.prog 143 (.nilFunc) 1 8 := ⟨by kernel_rfl⟩
instance tu144 : TU Tryz.prog 144 (.struct #[{ name := "At", type := 44, offset := 0, embedded := false, tag := "", pkgPath := "", byteOffset := 0 }, { name := "Kind", type := 5, offset := 3, embedded := false, tag := "", pkgPath := "", byteOffset := 24 }, { name := "Word", type := 9, offset := 4, embedded := false, tag := "", pkgPath := "", byteOffset := 32 }]) := ⟨Tryz.underlying144⟩
instance ts144 : TS Tryz.prog 144 (.agg #[.int .i64 0, .int .i64 0, .int .i64 0, .int .u8 0, .string ⟨#[]⟩]) 5 48 := ⟨by kernel_rfl⟩
instance tu145 : TU Tryz.prog 145 (.struct #[{ name := "At", type := 44, offset := 0, embedded := false, tag := "", pkgPath := "", byteOffset := 0 }, { name := "Kind", type := 5, offset := 3, embedded := false, tag := "", pkgPath := "", byteOffset := 24 }, { name := "Word", type := 9, offset := 4, embedded := false, tag := "", pkgPath := "", byteOffset := 32 }]) := ⟨Tryz.underlying145⟩
instance ts145 : TS Tryz.prog 145 (.agg #[.int .i64 0, .int .i64 0, .int .i64 0, .int .u8 0, .string ⟨#[]⟩]) 5 48 := ⟨by kernel_rfl⟩
instance tu146 : TU Tryz.prog 146 (.func #[64] #[32] false) := ⟨Tryz.underlying146⟩
instance ts146 : TS Tryz.prog 146 (.nilFunc) 1 8 := ⟨by kernel_rfl⟩
instance : TMap Tryz.prog 147 48 4 := ⟨Tryz.underlying147⟩
instance tu147 : TU Tryz.prog 147 (.map 48 4) := ⟨Tryz.underlying147⟩
instance ts147 : TS Tryz.prog 147 (.map none) 1 8 := ⟨by kernel_rfl⟩
instance tu148 : TU Tryz.prog 148 (.func #[97] #[3] true) := ⟨Tryz.underlying148⟩
instance ts148 : TS Tryz.prog 148 (.nilFunc) 1 8 := ⟨by kernel_rfl⟩
instance tu149 : TU Tryz.prog 149 (.func #[64, 51] #[4] false) := ⟨Tryz.underlying149⟩
instance ts149 : TS Tryz.prog 149 (.nilFunc) 1 8 := ⟨by kernel_rfl⟩
instance tu150 : TU Tryz.prog 150 (.func #[24, 44] #[53, 4] false) := ⟨Tryz.underlying150⟩
instance ts150 : TS Tryz.prog 150 (.nilFunc) 1 8 := ⟨by kernel_rfl⟩
instance tu151 : TU Tryz.prog 151 (.func #[26] #[32] false) := ⟨Tryz.underlying151⟩
instance ts151 : TS Tryz.prog 151 (.nilFunc) 1 8 := ⟨by kernel_rfl⟩
instance tu152 : TU Tryz.prog 152 (.func #[54, 44] #[3] false) := ⟨Tryz.underlying152⟩
instance ts152 : TS Tryz.prog 152 (.nilFunc) 1 8 := ⟨by kernel_rfl⟩
instance tu153 : TU Tryz.prog 153 (.func #[3] #[48] false) := ⟨Tryz.underlying153⟩
instance ts153 : TS Tryz.prog 153 (.nilFunc) 1 8 := ⟨by kernel_rfl⟩
instance tu154 : TU Tryz.prog 154 (.func #[64, 115] #[64] false) := ⟨Tryz.underlying154⟩
instance ts154 : TS Tryz.prog 154 (.nilFunc) 1 8 := ⟨by kernel_rfl⟩
instance tu155 : TU Tryz.prog 155 (.func #[97, 118] #[3] false) := ⟨Tryz.underlying155⟩
instance ts155 : TS Tryz.prog 155 (.nilFunc) 1 8 := ⟨by kernel_rfl⟩
instance tu156 : TU Tryz.prog 156 (.struct #[{ name := "Text", type := 24, offset := 0, embedded := true, tag := "", pkgPath := "", byteOffset := 0 }]) := ⟨Tryz.underlying156⟩
instance ts156 : TS Tryz.prog 156 (.agg #[.slice none 0 0]) 1 24 := ⟨by kernel_rfl⟩
instance tu157 : TU Tryz.prog 157 (.struct #[{ name := "Text", type := 24, offset := 0, embedded := true, tag := "", pkgPath := "", byteOffset := 0 }]) := ⟨Tryz.underlying157⟩
instance ts157 : TS Tryz.prog 157 (.agg #[.slice none 0 0]) 1 24 := ⟨by kernel_rfl⟩
instance tu158 : TU Tryz.prog 158 (.func #[44, 9] #[4] false) := ⟨Tryz.underlying158⟩
instance ts158 : TS Tryz.prog 158 (.nilFunc) 1 8 := ⟨by kernel_rfl⟩
instance tu159 : TU Tryz.prog 159 (.func #[112] #[] false) := ⟨Tryz.underlying159⟩
instance ts159 : TS Tryz.prog 159 (.nilFunc) 1 8 := ⟨by kernel_rfl⟩
instance tu160 : TU Tryz.prog 160 (.func #[29, 131] #[3] false) := ⟨Tryz.underlying160⟩
instance ts160 : TS Tryz.prog 160 (.nilFunc) 1 8 := ⟨by kernel_rfl⟩
instance tu161 : TU Tryz.prog 161 (.func #[162, 163] #[4] false) := ⟨Tryz.underlying161⟩
instance ts161 : TS Tryz.prog 161 (.nilFunc) 1 8 := ⟨by kernel_rfl⟩
instance : TSl Tryz.prog 162 5 := ⟨Tryz.underlying162⟩
instance tu162 : TU Tryz.prog 162 (.slice 5) := ⟨Tryz.underlying162⟩
instance ts162 : TS Tryz.prog 162 (.slice none 0 0) 1 24 := ⟨by kernel_rfl⟩
instance tu163 : TU Tryz.prog 163 (.func #[5] #[4] false) := ⟨Tryz.underlying163⟩
instance ts163 : TS Tryz.prog 163 (.nilFunc) 1 8 := ⟨by kernel_rfl⟩
instance tu164 : TU Tryz.prog 164 (.func #[24] #[3] false) := ⟨Tryz.underlying164⟩
instance ts164 : TS Tryz.prog 164 (.nilFunc) 1 8 := ⟨by kernel_rfl⟩
instance tu165 : TU Tryz.prog 165 (.func #[26] #[3] false) := ⟨Tryz.underlying165⟩
instance ts165 : TS Tryz.prog 165 (.nilFunc) 1 8 := ⟨by kernel_rfl⟩
instance tu166 : TU Tryz.prog 166 (.func #[53] #[3] false) := ⟨Tryz.underlying166⟩
instance ts166 : TS Tryz.prog 166 (.nilFunc) 1 8 := ⟨by kernel_rfl⟩
instance tu167 : TU Tryz.prog 167 (.func #[53] #[9] false) := ⟨Tryz.underlying167⟩
instance ts167 : TS Tryz.prog 167 (.nilFunc) 1 8 := ⟨by kernel_rfl⟩
instance tu168 : TU Tryz.prog 168 (.func #[3, 3] #[3] false) := ⟨Tryz.underlying168⟩
instance ts168 : TS Tryz.prog 168 (.nilFunc) 1 8 := ⟨by kernel_rfl⟩
instance : TMap Tryz.prog 169 3 4 := ⟨Tryz.underlying169⟩
instance tu169 : TU Tryz.prog 169 (.map 3 4) := ⟨Tryz.underlying169⟩
instance ts169 : TS Tryz.prog 169 (.map none) 1 8 := ⟨by kernel_rfl⟩
instance tu170 : TU Tryz.prog 170 (.func #[53, 112] #[4] false) := ⟨Tryz.underlying170⟩
instance ts170 : TS Tryz.prog 170 (.nilFunc) 1 8 := ⟨by kernel_rfl⟩
instance tu171 : TU Tryz.prog 171 (.func #[9, 9] #[53] false) := ⟨Tryz.underlying171⟩
instance ts171 : TS Tryz.prog 171 (.nilFunc) 1 8 := ⟨by kernel_rfl⟩
instance tu172 : TU Tryz.prog 172 (.func #[53, 3] #[53] false) := ⟨Tryz.underlying172⟩
instance ts172 : TS Tryz.prog 172 (.nilFunc) 1 8 := ⟨by kernel_rfl⟩
instance tu173 : TU Tryz.prog 173 (.func #[24, 90] #[119, 32] false) := ⟨Tryz.underlying173⟩
instance ts173 : TS Tryz.prog 173 (.nilFunc) 1 8 := ⟨by kernel_rfl⟩
instance tu174 : TU Tryz.prog 174 (.func #[44] #[4] false) := ⟨Tryz.underlying174⟩
instance ts174 : TS Tryz.prog 174 (.nilFunc) 1 8 := ⟨by kernel_rfl⟩
instance tu175 : TU Tryz.prog 175 (.func #[90, 44] #[9] false) := ⟨Tryz.underlying175⟩
instance ts175 : TS Tryz.prog 175 (.nilFunc) 1 8 := ⟨by kernel_rfl⟩
instance tu176 : TU Tryz.prog 176 (.func #[64, 51] #[3] false) := ⟨Tryz.underlying176⟩
instance ts176 : TS Tryz.prog 176 (.nilFunc) 1 8 := ⟨by kernel_rfl⟩
instance tu177 : TU Tryz.prog 177 (.struct #[{ name := "from", type := 3, offset := 0, embedded := false, tag := "", pkgPath := "postil/slip", byteOffset := 0 }, { name := "word", type := 3, offset := 1, embedded := false, tag := "", pkgPath := "postil/slip", byteOffset := 8 }, { name := "to", type := 3, offset := 2, embedded := false, tag := "", pkgPath := "postil/slip", byteOffset := 16 }, { name := "length", type := 3, offset := 3, embedded := false, tag := "", pkgPath := "postil/slip", byteOffset := 24 }]) := ⟨Tryz.underlying177⟩
instance ts177 : TS Tryz.prog 177 (.agg #[.int .i64 0, .int .i64 0, .int .i64 0, .int .i64 0]) 4 32 := ⟨by kernel_rfl⟩
instance tu178 : TU Tryz.prog 178 (.struct #[{ name := "from", type := 3, offset := 0, embedded := false, tag := "", pkgPath := "postil/slip", byteOffset := 0 }, { name := "word", type := 3, offset := 1, embedded := false, tag := "", pkgPath := "postil/slip", byteOffset := 8 }, { name := "to", type := 3, offset := 2, embedded := false, tag := "", pkgPath := "postil/slip", byteOffset := 16 }, { name := "length", type := 3, offset := 3, embedded := false, tag := "", pkgPath := "postil/slip", byteOffset := 24 }]) := ⟨Tryz.underlying178⟩
instance ts178 : TS Tryz.prog 178 (.agg #[.int .i64 0, .int .i64 0, .int .i64 0, .int .i64 0]) 4 32 := ⟨by kernel_rfl⟩
instance tu179 : TU Tryz.prog 179 (.func #[181, 183] #[178] false) := ⟨Tryz.underlying179⟩
instance ts179 : TS Tryz.prog 179 (.nilFunc) 1 8 := ⟨by kernel_rfl⟩
instance tu180 : TU Tryz.prog 180 (.func #[194] #[] false) := ⟨Tryz.underlying180⟩
instance ts180 : TS Tryz.prog 180 (.nilFunc) 1 8 := ⟨by kernel_rfl⟩
instance tu181 : TU Tryz.prog 181 (.func #[194] #[] false) := ⟨Tryz.underlying181⟩
instance ts181 : TS Tryz.prog 181 (.nilFunc) 1 8 := ⟨by kernel_rfl⟩
instance tu182 : TU Tryz.prog 182 (.func #[3] #[181] false) := ⟨Tryz.underlying182⟩
instance ts182 : TS Tryz.prog 182 (.nilFunc) 1 8 := ⟨by kernel_rfl⟩
instance tu183 : TU Tryz.prog 183 (.func #[178, 178] #[3] false) := ⟨Tryz.underlying183⟩
instance ts183 : TS Tryz.prog 183 (.nilFunc) 1 8 := ⟨by kernel_rfl⟩
instance tu184 : TU Tryz.prog 184 (.struct #[{ name := "order", type := 183, offset := 0, embedded := false, tag := "", pkgPath := "postil/slip", byteOffset := 0 }]) := ⟨Tryz.underlying184⟩
instance ts184 : TS Tryz.prog 184 (.agg #[.nilFunc]) 1 8 := ⟨by kernel_rfl⟩
instance : TArr Tryz.prog 185 4 184 := ⟨Tryz.underlying185⟩
instance tu185 : TU Tryz.prog 185 (.array 4 184) := ⟨Tryz.underlying185⟩
instance ts185 : TS Tryz.prog 185 (.agg #[.nilFunc, .nilFunc, .nilFunc, .nilFunc]) 4 32 := ⟨by kernel_rfl⟩
instance tu186 : TU Tryz.prog 186 (.func #[53, 9] #[9] false) := ⟨Tryz.underlying186⟩
instance ts186 : TS Tryz.prog 186 (.nilFunc) 1 8 := ⟨by kernel_rfl⟩
instance tu187 : TU Tryz.prog 187 (.func #[159] #[53] false) := ⟨Tryz.underlying187⟩
instance ts187 : TS Tryz.prog 187 (.nilFunc) 1 8 := ⟨by kernel_rfl⟩
instance tu188 : TU Tryz.prog 188 (.func #[53, 129] #[] false) := ⟨Tryz.underlying188⟩
instance ts188 : TS Tryz.prog 188 (.nilFunc) 1 8 := ⟨by kernel_rfl⟩
instance tu189 : TU Tryz.prog 189 (.func #[162, 163] #[3] false) := ⟨Tryz.underlying189⟩
instance ts189 : TS Tryz.prog 189 (.nilFunc) 1 8 := ⟨by kernel_rfl⟩
instance tu190 : TU Tryz.prog 190 (.func #[53, 112] #[3] false) := ⟨Tryz.underlying190⟩
instance ts190 : TS Tryz.prog 190 (.nilFunc) 1 8 := ⟨by kernel_rfl⟩
instance tu191 : TU Tryz.prog 191 (.func #[9, 9, 3, 3] #[53] false) := ⟨Tryz.underlying191⟩
instance ts191 : TS Tryz.prog 191 (.nilFunc) 1 8 := ⟨by kernel_rfl⟩
instance tu192 : TU Tryz.prog 192 (.func #[90] #[4] false) := ⟨Tryz.underlying192⟩
instance ts192 : TS Tryz.prog 192 (.nilFunc) 1 8 := ⟨by kernel_rfl⟩
instance tu193 : TU Tryz.prog 193 (.func #[44] #[53] false) := ⟨Tryz.underlying193⟩
instance ts193 : TS Tryz.prog 193 (.nilFunc) 1 8 := ⟨by kernel_rfl⟩
instance tu194 : TU Tryz.prog 194 (.func #[178] #[4] false) := ⟨Tryz.underlying194⟩
instance ts194 : TS Tryz.prog 194 (.nilFunc) 1 8 := ⟨by kernel_rfl⟩
instance tu195 : TU Tryz.prog 195 (.pointer 197) := ⟨Tryz.underlying195⟩
instance ts195 : TS Tryz.prog 195 (.pointer none) 1 8 := ⟨by kernel_rfl⟩
instance tu196 : TU Tryz.prog 196 (.struct #[{ name := "addr", type := 195, offset := 0, embedded := false, tag := "", pkgPath := "strings", byteOffset := 0 }, { name := "buf", type := 162, offset := 1, embedded := false, tag := "", pkgPath := "strings", byteOffset := 8 }]) := ⟨Tryz.underlying196⟩
instance ts196 : TS Tryz.prog 196 (.agg #[.pointer none, .slice none 0 0]) 2 32 := ⟨by kernel_rfl⟩
instance tu197 : TU Tryz.prog 197 (.struct #[{ name := "addr", type := 195, offset := 0, embedded := false, tag := "", pkgPath := "strings", byteOffset := 0 }, { name := "buf", type := 162, offset := 1, embedded := false, tag := "", pkgPath := "strings", byteOffset := 8 }]) := ⟨Tryz.underlying197⟩
instance ts197 : TS Tryz.prog 197 (.agg #[.pointer none, .slice none 0 0]) 2 32 := ⟨by kernel_rfl⟩
instance tu198 : TU Tryz.prog 198 (.func #[3] #[] false) := ⟨Tryz.underlying198⟩
instance ts198 : TS Tryz.prog 198 (.nilFunc) 1 8 := ⟨by kernel_rfl⟩
instance tu202 : TU Tryz.prog 202 (.func #[9] #[3, 200] false) := ⟨Tryz.underlying202⟩
instance ts202 : TS Tryz.prog 202 (.nilFunc) 1 8 := ⟨by kernel_rfl⟩
instance tu203 : TU Tryz.prog 203 (.func #[] #[9] false) := ⟨Tryz.underlying203⟩
instance ts203 : TS Tryz.prog 203 (.nilFunc) 1 8 := ⟨by kernel_rfl⟩
instance tu204 : TU Tryz.prog 204 (.func #[53, 159] #[53] false) := ⟨Tryz.underlying204⟩
instance ts204 : TS Tryz.prog 204 (.nilFunc) 1 8 := ⟨by kernel_rfl⟩
instance tu205 : TU Tryz.prog 205 (.func #[53, 3, 3, 3, 129] #[] false) := ⟨Tryz.underlying205⟩
instance ts205 : TS Tryz.prog 205 (.nilFunc) 1 8 := ⟨by kernel_rfl⟩
instance tu206 : TU Tryz.prog 206 (.func #[207] #[3] false) := ⟨Tryz.underlying206⟩
instance ts206 : TS Tryz.prog 206 (.nilFunc) 1 8 := ⟨by kernel_rfl⟩
instance tu207 : TU Tryz.prog 207 (.int .u64) := ⟨Tryz.underlying207⟩
instance ts207 : TS Tryz.prog 207 (.int .u64 0) 1 8 := ⟨by kernel_rfl⟩
instance tu208 : TU Tryz.prog 208 (.func #[9, 3] #[53] false) := ⟨Tryz.underlying208⟩
instance ts208 : TS Tryz.prog 208 (.nilFunc) 1 8 := ⟨by kernel_rfl⟩
instance tu209 : TU Tryz.prog 209 (.func #[9, 9] #[4] false) := ⟨Tryz.underlying209⟩
instance ts209 : TS Tryz.prog 209 (.nilFunc) 1 8 := ⟨by kernel_rfl⟩
instance tu210 : TU Tryz.prog 210 (.struct #[{ name := "behind", type := 3, offset := 0, embedded := false, tag := "", pkgPath := "postil/leaf", byteOffset := 0 }, { name := "right", type := 209, offset := 1, embedded := false, tag := "", pkgPath := "postil/leaf", byteOffset := 8 }, { name := "makes", type := 171, offset := 2, embedded := false, tag := "", pkgPath := "postil/leaf", byteOffset := 16 }]) := ⟨Tryz.underlying210⟩
instance ts210 : TS Tryz.prog 210 (.agg #[.int .i64 0, .nilFunc, .nilFunc]) 3 24 := ⟨by kernel_rfl⟩
instance tu211 : TU Tryz.prog 211 (.struct #[{ name := "behind", type := 3, offset := 0, embedded := false, tag := "", pkgPath := "postil/leaf", byteOffset := 0 }, { name := "right", type := 209, offset := 1, embedded := false, tag := "", pkgPath := "postil/leaf", byteOffset := 8 }, { name := "makes", type := 171, offset := 2, embedded := false, tag := "", pkgPath := "postil/leaf", byteOffset := 16 }]) := ⟨Tryz.underlying211⟩
instance ts211 : TS Tryz.prog 211 (.agg #[.int .i64 0, .nilFunc, .nilFunc]) 3 24 := ⟨by kernel_rfl⟩
instance : TArr Tryz.prog 212 4 211 := ⟨Tryz.underlying212⟩
instance tu212 : TU Tryz.prog 212 (.array 4 211) := ⟨Tryz.underlying212⟩
instance ts212 : TS Tryz.prog 212 (.agg #[.int .i64 0, .nilFunc, .nilFunc, .int .i64 0, .nilFunc, .nilFunc, .int .i64 0, .nilFunc, .nilFunc, .int .i64 0, .nilFunc, .nilFunc]) 12 96 := ⟨by kernel_rfl⟩
instance tu213 : TU Tryz.prog 213 (.func #[53, 3] #[9] false) := ⟨Tryz.underlying213⟩
instance ts213 : TS Tryz.prog 213 (.nilFunc) 1 8 := ⟨by kernel_rfl⟩
instance tu214 : TU Tryz.prog 214 (.func #[90] #[24] false) := ⟨Tryz.underlying214⟩
instance ts214 : TS Tryz.prog 214 (.nilFunc) 1 8 := ⟨by kernel_rfl⟩
instance tu215 : TU Tryz.prog 215 (.func #[61, 216] #[4] false) := ⟨Tryz.underlying215⟩
instance ts215 : TS Tryz.prog 215 (.nilFunc) 1 8 := ⟨by kernel_rfl⟩
instance tu216 : TU Tryz.prog 216 (.func #[53] #[4] false) := ⟨Tryz.underlying216⟩
instance ts216 : TS Tryz.prog 216 (.nilFunc) 1 8 := ⟨by kernel_rfl⟩
instance tu217 : TU Tryz.prog 217 (.pointer 5) := ⟨Tryz.underlying217⟩
instance ts217 : TS Tryz.prog 217 (.pointer none) 1 8 := ⟨by kernel_rfl⟩
instance tu218 : TU Tryz.prog 218 (.func #[53, 3, 3, 129] #[] false) := ⟨Tryz.underlying218⟩
instance ts218 : TS Tryz.prog 218 (.nilFunc) 1 8 := ⟨by kernel_rfl⟩
instance tu219 : TU Tryz.prog 219 (.int .i64) := ⟨Tryz.underlying219⟩
instance ts219 : TS Tryz.prog 219 (.int .i64 0) 1 8 := ⟨by kernel_rfl⟩
instance tu221 : TU Tryz.prog 221 (.func #[53, 3, 3, 129] #[3, 219] false) := ⟨Tryz.underlying221⟩
instance ts221 : TS Tryz.prog 221 (.nilFunc) 1 8 := ⟨by kernel_rfl⟩
instance tu222 : TU Tryz.prog 222 (.func #[53, 3, 3, 129] #[4] false) := ⟨Tryz.underlying222⟩
instance ts222 : TS Tryz.prog 222 (.nilFunc) 1 8 := ⟨by kernel_rfl⟩
instance tu223 : TU Tryz.prog 223 (.func #[53, 3, 3, 3, 129] #[3] false) := ⟨Tryz.underlying223⟩
instance ts223 : TS Tryz.prog 223 (.nilFunc) 1 8 := ⟨by kernel_rfl⟩
instance tu225 : TU Tryz.prog 225 (.func #[53, 3, 3, 3, 129] #[3, 4] false) := ⟨Tryz.underlying225⟩
instance ts225 : TS Tryz.prog 225 (.nilFunc) 1 8 := ⟨by kernel_rfl⟩
instance tu226 : TU Tryz.prog 226 (.func #[227] #[3] false) := ⟨Tryz.underlying226⟩
instance ts226 : TS Tryz.prog 226 (.nilFunc) 1 8 := ⟨by kernel_rfl⟩
instance tu227 : TU Tryz.prog 227 (.int .u32) := ⟨Tryz.underlying227⟩
instance ts227 : TS Tryz.prog 227 (.int .u32 0) 1 4 := ⟨by kernel_rfl⟩
instance tu228 : TU Tryz.prog 228 (.func #[229] #[3] false) := ⟨Tryz.underlying228⟩
instance ts228 : TS Tryz.prog 228 (.nilFunc) 1 8 := ⟨by kernel_rfl⟩
instance tu229 : TU Tryz.prog 229 (.int .u64) := ⟨Tryz.underlying229⟩
instance ts229 : TS Tryz.prog 229 (.int .u64 0) 1 8 := ⟨by kernel_rfl⟩
instance tu231 : TU Tryz.prog 231 (.func #[9] #[21, 3] false) := ⟨Tryz.underlying231⟩
instance ts231 : TS Tryz.prog 231 (.nilFunc) 1 8 := ⟨by kernel_rfl⟩
instance tu232 : TU Tryz.prog 232 (.func #[9, 5] #[3] false) := ⟨Tryz.underlying232⟩
instance ts232 : TS Tryz.prog 232 (.nilFunc) 1 8 := ⟨by kernel_rfl⟩
instance : TMap Tryz.prog 233 44 88 := ⟨Tryz.underlying233⟩
instance tu233 : TU Tryz.prog 233 (.map 44 88) := ⟨Tryz.underlying233⟩
instance ts233 : TS Tryz.prog 233 (.map none) 1 8 := ⟨by kernel_rfl⟩
instance tu234 : TU Tryz.prog 234 (.func #[53, 112] #[53] false) := ⟨Tryz.underlying234⟩
instance ts234 : TS Tryz.prog 234 (.nilFunc) 1 8 := ⟨by kernel_rfl⟩
instance tu235 : TU Tryz.prog 235 (.func #[61, 216] #[3] false) := ⟨Tryz.underlying235⟩
instance ts235 : TS Tryz.prog 235 (.nilFunc) 1 8 := ⟨by kernel_rfl⟩
instance tu236 : TU Tryz.prog 236 (.unsafePointer) := ⟨Tryz.underlying236⟩
instance ts236 : TS Tryz.prog 236 (.pointer none) 1 8 := ⟨by kernel_rfl⟩
instance tu237 : TU Tryz.prog 237 (.func #[236] #[236] false) := ⟨Tryz.underlying237⟩
instance ts237 : TS Tryz.prog 237 (.nilFunc) 1 8 := ⟨by kernel_rfl⟩
instance tu238 : TU Tryz.prog 238 (.func #[3] #[162] false) := ⟨Tryz.underlying238⟩
instance ts238 : TS Tryz.prog 238 (.nilFunc) 1 8 := ⟨by kernel_rfl⟩
instance tu239 : TU Tryz.prog 239 (.int .u64) := ⟨Tryz.underlying239⟩
instance ts239 : TS Tryz.prog 239 (.int .u64 0) 1 8 := ⟨by kernel_rfl⟩
instance tu240 : TU Tryz.prog 240 (.func #[3] #[207] false) := ⟨Tryz.underlying240⟩
instance ts240 : TS Tryz.prog 240 (.nilFunc) 1 8 := ⟨by kernel_rfl⟩
instance tu241 : TU Tryz.prog 241 (.func #[] #[229] false) := ⟨Tryz.underlying241⟩
instance ts241 : TS Tryz.prog 241 (.nilFunc) 1 8 := ⟨by kernel_rfl⟩
instance tu242 : TU Tryz.prog 242 (.func #[53, 3, 243, 129] #[3] false) := ⟨Tryz.underlying242⟩
instance ts242 : TS Tryz.prog 242 (.nilFunc) 1 8 := ⟨by kernel_rfl⟩
instance tu243 : TU Tryz.prog 243 (.pointer 3) := ⟨Tryz.underlying243⟩
instance ts243 : TS Tryz.prog 243 (.pointer none) 1 8 := ⟨by kernel_rfl⟩
instance tu244 : TU Tryz.prog 244 (.func #[53, 3, 3, 3, 243, 129] #[3] false) := ⟨Tryz.underlying244⟩
instance ts244 : TS Tryz.prog 244 (.nilFunc) 1 8 := ⟨by kernel_rfl⟩
instance tu245 : TU Tryz.prog 245 (.func #[3] #[3] false) := ⟨Tryz.underlying245⟩
instance ts245 : TS Tryz.prog 245 (.nilFunc) 1 8 := ⟨by kernel_rfl⟩
instance tu246 : TU Tryz.prog 246 (.pointer 239) := ⟨Tryz.underlying246⟩
instance ts246 : TS Tryz.prog 246 (.pointer none) 1 8 := ⟨by kernel_rfl⟩
instance tu248 : TU Tryz.prog 248 (.func #[53, 3, 3, 243, 129] #[3, 3] false) := ⟨Tryz.underlying248⟩
instance ts248 : TS Tryz.prog 248 (.nilFunc) 1 8 := ⟨by kernel_rfl⟩
instance : TArr Tryz.prog 249 256 5 := ⟨Tryz.underlying249⟩
instance tu249 : TU Tryz.prog 249 (.array 256 5) := ⟨Tryz.underlying249⟩
instance ts249 : TS Tryz.prog 249 (.agg #[.int .u8 0, .int .u8 0, .int .u8 0, .int .u8 0, .int .u8 0, .int .u8 0, .int .u8 0, .int .u8 0, .int .u8 0, .int .u8 0, .int .u8 0, .int .u8 0, .int .u8 0, .int .u8 0, .int .u8 0, .int .u8 0, .int .u8 0, .int .u8 0, .int .u8 0, .int .u8 0, .int .u8 0, .int .u8 0, .int .u8 0, .int .u8 0, .int .u8 0, .int .u8 0, .int .u8 0, .int .u8 0, .int .u8 0, .int .u8 0, .int .u8 0, .int .u8 0, .int .u8 0, .int .u8 0, .int .u8 0, .int .u8 0, .int .u8 0, .int .u8 0, .int .u8 0, .int .u8 0, .int .u8 0, .int .u8 0, .int .u8 0, .int .u8 0, .int .u8 0, .int .u8 0, .int .u8 0, .int .u8 0, .int .u8 0, .int .u8 0, .int .u8 0, .int .u8 0, .int .u8 0, .int .u8 0, .int .u8 0, .int .u8 0, .int .u8 0, .int .u8 0, .int .u8 0, .int .u8 0, .int .u8 0, .int .u8 0, .int .u8 0, .int .u8 0, .int .u8 0, .int .u8 0, .int .u8 0, .int .u8 0, .int .u8 0, .int .u8 0, .int .u8 0, .int .u8 0, .int .u8 0, .int .u8 0, .int .u8 0, .int .u8 0, .int .u8 0, .int .u8 0, .int .u8 0, .int .u8 0, .int .u8 0, .int .u8 0, .int .u8 0, .int .u8 0, .int .u8 0, .int .u8 0, .int .u8 0, .int .u8 0, .int .u8 0, .int .u8 0, .int .u8 0, .int .u8 0, .int .u8 0, .int .u8 0, .int .u8 0, .int .u8 0, .int .u8 0, .int .u8 0, .int .u8 0, .int .u8 0, .int .u8 0, .int .u8 0, .int .u8 0, .int .u8 0, .int .u8 0, .int .u8 0, .int .u8 0, .int .u8 0, .int .u8 0, .int .u8 0, .int .u8 0, .int .u8 0, .int .u8 0, .int .u8 0, .int .u8 0, .int .u8 0, .int .u8 0, .int .u8 0, .int .u8 0, .int .u8 0, .int .u8 0, .int .u8 0, .int .u8 0, .int .u8 0, .int .u8 0, .int .u8 0, .int .u8 0, .int .u8 0, .int .u8 0, .int .u8 0, .int .u8 0, .int .u8 0, .int .u8 0, .int .u8 0, .int .u8 0, .int .u8 0, .int .u8 0, .int .u8 0, .int .u8 0, .int .u8 0, .int .u8 0, .int .u8 0, .int .u8 0, .int .u8 0, .int .u8 0, .int .u8 0, .int .u8 0, .int .u8 0, .int .u8 0, .int .u8 0, .int .u8 0, .int .u8 0, .int .u8 0, .int .u8 0, .int .u8 0, .int .u8 0, .int .u8 0, .int .u8 0, .int .u8 0, .int .u8 0, .int .u8 0, .int .u8 0, .int .u8 0, .int .u8 0, .int .u8 0, .int .u8 0, .int .u8 0, .int .u8 0, .int .u8 0, .int .u8 0, .int .u8 0, .int .u8 0, .int .u8 0, .int .u8 0, .int .u8 0, .int .u8 0, .int .u8 0, .int .u8 0, .int .u8 0, .int .u8 0, .int .u8 0, .int .u8 0, .int .u8 0, .int .u8 0, .int .u8 0, .int .u8 0, .int .u8 0, .int .u8 0, .int .u8 0, .int .u8 0, .int .u8 0, .int .u8 0, .int .u8 0, .int .u8 0, .int .u8 0, .int .u8 0, .int .u8 0, .int .u8 0, .int .u8 0, .int .u8 0, .int .u8 0, .int .u8 0, .int .u8 0, .int .u8 0, .int .u8 0, .int .u8 0, .int .u8 0, .int .u8 0, .int .u8 0, .int .u8 0, .int .u8 0, .int .u8 0, .int .u8 0, .int .u8 0, .int .u8 0, .int .u8 0, .int .u8 0, .int .u8 0, .int .u8 0, .int .u8 0, .int .u8 0, .int .u8 0, .int .u8 0, .int .u8 0, .int .u8 0, .int .u8 0, .int .u8 0, .int .u8 0, .int .u8 0, .int .u8 0, .int .u8 0, .int .u8 0, .int .u8 0, .int .u8 0, .int .u8 0, .int .u8 0, .int .u8 0, .int .u8 0, .int .u8 0, .int .u8 0, .int .u8 0, .int .u8 0, .int .u8 0, .int .u8 0, .int .u8 0, .int .u8 0, .int .u8 0, .int .u8 0, .int .u8 0, .int .u8 0, .int .u8 0, .int .u8 0, .int .u8 0, .int .u8 0, .int .u8 0, .int .u8 0]) 256 256 := ⟨by kernel_rfl⟩
instance tu250 : TU Tryz.prog 250 (.struct #[{ name := "lo", type := 5, offset := 0, embedded := false, tag := "", pkgPath := "unicode/utf8", byteOffset := 0 }, { name := "hi", type := 5, offset := 1, embedded := false, tag := "", pkgPath := "unicode/utf8", byteOffset := 1 }]) := ⟨Tryz.underlying250⟩
instance ts250 : TS Tryz.prog 250 (.agg #[.int .u8 0, .int .u8 0]) 2 2 := ⟨by kernel_rfl⟩
instance tu251 : TU Tryz.prog 251 (.struct #[{ name := "lo", type := 5, offset := 0, embedded := false, tag := "", pkgPath := "unicode/utf8", byteOffset := 0 }, { name := "hi", type := 5, offset := 1, embedded := false, tag := "", pkgPath := "unicode/utf8", byteOffset := 1 }]) := ⟨Tryz.underlying251⟩
instance ts251 : TS Tryz.prog 251 (.agg #[.int .u8 0, .int .u8 0]) 2 2 := ⟨by kernel_rfl⟩
instance : TArr Tryz.prog 252 16 251 := ⟨Tryz.underlying252⟩
instance tu252 : TU Tryz.prog 252 (.array 16 251) := ⟨Tryz.underlying252⟩
instance ts252 : TS Tryz.prog 252 (.agg #[.int .u8 0, .int .u8 0, .int .u8 0, .int .u8 0, .int .u8 0, .int .u8 0, .int .u8 0, .int .u8 0, .int .u8 0, .int .u8 0, .int .u8 0, .int .u8 0, .int .u8 0, .int .u8 0, .int .u8 0, .int .u8 0, .int .u8 0, .int .u8 0, .int .u8 0, .int .u8 0, .int .u8 0, .int .u8 0, .int .u8 0, .int .u8 0, .int .u8 0, .int .u8 0, .int .u8 0, .int .u8 0, .int .u8 0, .int .u8 0, .int .u8 0, .int .u8 0]) 32 32 := ⟨by kernel_rfl⟩
instance tu254 : TU Tryz.prog 254 (.func #[9] #[227, 227] false) := ⟨Tryz.underlying254⟩
instance ts254 : TS Tryz.prog 254 (.nilFunc) 1 8 := ⟨by kernel_rfl⟩
instance tu255 : TU Tryz.prog 255 (.struct #[{ name := "_interface", type := 17, offset := 0, embedded := false, tag := "", pkgPath := "runtime", byteOffset := 0 }, { name := "concrete", type := 17, offset := 1, embedded := false, tag := "", pkgPath := "runtime", byteOffset := 8 }, { name := "asserted", type := 17, offset := 2, embedded := false, tag := "", pkgPath := "runtime", byteOffset := 16 }, { name := "missingMethod", type := 9, offset := 3, embedded := false, tag := "", pkgPath := "runtime", byteOffset := 24 }]) := ⟨Tryz.underlying255⟩
instance ts255 : TS Tryz.prog 255 (.agg #[.pointer none, .pointer none, .pointer none, .string ⟨#[]⟩]) 4 40 := ⟨by kernel_rfl⟩
instance : TArr Tryz.prog 257 0 16 := ⟨Tryz.underlying257⟩
instance tu257 : TU Tryz.prog 257 (.array 0 16) := ⟨Tryz.underlying257⟩
instance ts257 : TS Tryz.prog 257 (.agg #[]) 0 0 := ⟨by kernel_rfl⟩
instance tu258 : TU Tryz.prog 258 (.struct #[{ name := "_", type := 257, offset := 0, embedded := false, tag := "", pkgPath := "runtime", byteOffset := 0 }]) := ⟨Tryz.underlying258⟩
instance ts258 : TS Tryz.prog 258 (.agg #[]) 0 0 := ⟨by kernel_rfl⟩
instance tu260 : TU Tryz.prog 260 (.func #[] #[3] false) := ⟨Tryz.underlying260⟩
instance ts260 : TS Tryz.prog 260 (.nilFunc) 1 8 := ⟨by kernel_rfl⟩
instance tu263 : TU Tryz.prog 263 (.func #[236, 236] #[4] false) := ⟨Tryz.underlying263⟩
instance ts263 : TS Tryz.prog 263 (.nilFunc) 1 8 := ⟨by kernel_rfl⟩
instance tu266 : TU Tryz.prog 266 (.struct #[{ name := "Size_", type := 12, offset := 0, embedded := false, tag := "", pkgPath := "", byteOffset := 0 }, { name := "PtrBytes", type := 12, offset := 1, embedded := false, tag := "", pkgPath := "", byteOffset := 8 }, { name := "Hash", type := 227, offset := 2, embedded := false, tag := "", pkgPath := "", byteOffset := 16 }, { name := "TFlag", type := 261, offset := 3, embedded := false, tag := "", pkgPath := "", byteOffset := 20 }, { name := "Align_", type := 5, offset := 4, embedded := false, tag := "", pkgPath := "", byteOffset := 21 }, { name := "FieldAlign_", type := 5, offset := 5, embedded := false, tag := "", pkgPath := "", byteOffset := 22 }, { name := "Kind_", type := 262, offset := 6, embedded := false, tag := "", pkgPath := "", byteOffset := 23 }, { name := "Equal", type := 263, offset := 7, embedded := false, tag := "", pkgPath := "", byteOffset := 24 }, { name := "GCData", type := 217, offset := 8, embedded := false, tag := "", pkgPath := "", byteOffset := 32 }, { name := "Str", type := 264, offset := 9, embedded := false, tag := "", pkgPath := "", byteOffset := 40 }, { name := "PtrToThis", type := 265, offset := 10, embedded := false, tag := "", pkgPath := "", byteOffset := 44 }]) := ⟨Tryz.underlying266⟩
instance ts266 : TS Tryz.prog 266 (.agg #[.int .u64 0, .int .u64 0, .int .u32 0, .int .u8 0, .int .u8 0, .int .u8 0, .int .u8 0, .nilFunc, .pointer none, .int .i32 0, .int .i32 0]) 11 48 := ⟨by kernel_rfl⟩
instance : TB Tryz.prog 7 [.int .i64 0, .int .i64 0, .bool false, .int .u8 0] (fun i => ([(0, 1), (1, 1), (2, 1), (3, 1)] : List (Nat × Nat))[i]?) := TB.struct Tryz.underlying7 ts7 (by kernel_rfl)
instance : FA Tryz.prog 7 0 0 := ⟨_, _, _, _, _, Tryz.underlying7, rfl, rfl, ts2⟩
instance : FV Tryz.prog 7 0 0 := ⟨_, _, _, Tryz.underlying7, rfl, rfl, tu2, rfl⟩
instance : FA Tryz.prog 7 1 1 := ⟨_, _, _, _, _, Tryz.underlying7, rfl, rfl, ts3⟩
instance : FV Tryz.prog 7 1 1 := ⟨_, _, _, Tryz.underlying7, rfl, rfl, tu3, rfl⟩
instance : FA Tryz.prog 7 2 2 := ⟨_, _, _, _, _, Tryz.underlying7, rfl, rfl, ts4⟩
instance : FV Tryz.prog 7 2 2 := ⟨_, _, _, Tryz.underlying7, rfl, rfl, tu4, rfl⟩
instance : TB Tryz.prog 13 [.string ⟨#[]⟩, .int .u64 0] (fun i => ([(0, 1), (1, 1)] : List (Nat × Nat))[i]?) := TB.struct Tryz.underlying13 ts13 (by kernel_rfl)
instance : FA Tryz.prog 13 0 0 := ⟨_, _, _, _, _, Tryz.underlying13, rfl, rfl, ts9⟩
instance : FV Tryz.prog 13 0 0 := ⟨_, _, _, Tryz.underlying13, rfl, rfl, tu9, rfl⟩
instance : FA Tryz.prog 13 1 1 := ⟨_, _, _, _, _, Tryz.underlying13, rfl, rfl, ts12⟩
instance : FV Tryz.prog 13 1 1 := ⟨_, _, _, Tryz.underlying13, rfl, rfl, tu12, rfl⟩
instance : TB Tryz.prog 18 [.pointer none] (fun i => ([(0, 1)] : List (Nat × Nat))[i]?) := TB.struct Tryz.underlying18 ts18 (by kernel_rfl)
instance : TB Tryz.prog 23 [.slice none 0 0] (fun i => ([(0, 1)] : List (Nat × Nat))[i]?) := TB.struct Tryz.underlying23 ts23 (by kernel_rfl)
instance : FA Tryz.prog 23 0 0 := ⟨_, _, _, _, _, Tryz.underlying23, rfl, rfl, ts22⟩
instance : FV Tryz.prog 23 0 0 := ⟨_, _, _, Tryz.underlying23, rfl, rfl, tu22, rfl⟩
instance : TB Tryz.prog 24 [.slice none 0 0] (fun i => ([(0, 1)] : List (Nat × Nat))[i]?) := TB.struct Tryz.underlying24 ts24 (by kernel_rfl)
instance : FA Tryz.prog 24 0 0 := ⟨_, _, _, _, _, Tryz.underlying24, rfl, rfl, ts22⟩
instance : FV Tryz.prog 24 0 0 := ⟨_, _, _, Tryz.underlying24, rfl, rfl, tu22, rfl⟩
instance : TB Tryz.prog 25 [.int .i64 0, .int .u8 0] (fun i => ([(0, 1), (1, 1)] : List (Nat × Nat))[i]?) := TB.struct Tryz.underlying25 ts25 (by kernel_rfl)
instance : FA Tryz.prog 25 0 0 := ⟨_, _, _, _, _, Tryz.underlying25, rfl, rfl, ts3⟩
instance : FV Tryz.prog 25 0 0 := ⟨_, _, _, Tryz.underlying25, rfl, rfl, tu3, rfl⟩
instance : FA Tryz.prog 25 1 1 := ⟨_, _, _, _, _, Tryz.underlying25, rfl, rfl, ts5⟩
instance : FV Tryz.prog 25 1 1 := ⟨_, _, _, Tryz.underlying25, rfl, rfl, tu5, rfl⟩
instance : TB Tryz.prog 26 [.int .i64 0, .int .u8 0] (fun i => ([(0, 1), (1, 1)] : List (Nat × Nat))[i]?) := TB.struct Tryz.underlying26 ts26 (by kernel_rfl)
instance : FA Tryz.prog 26 0 0 := ⟨_, _, _, _, _, Tryz.underlying26, rfl, rfl, ts3⟩
instance : FV Tryz.prog 26 0 0 := ⟨_, _, _, Tryz.underlying26, rfl, rfl, tu3, rfl⟩
instance : FA Tryz.prog 26 1 1 := ⟨_, _, _, _, _, Tryz.underlying26, rfl, rfl, ts5⟩
instance : FV Tryz.prog 26 1 1 := ⟨_, _, _, Tryz.underlying26, rfl, rfl, tu5, rfl⟩
instance : TB Tryz.prog 30 [.int .i64 0, .slice none 0 0] (fun i => ([(0, 1), (1, 1)] : List (Nat × Nat))[i]?) := TB.struct Tryz.underlying30 ts30 (by kernel_rfl)
instance : FA Tryz.prog 30 0 0 := ⟨_, _, _, _, _, Tryz.underlying30, rfl, rfl, ts3⟩
instance : FV Tryz.prog 30 0 0 := ⟨_, _, _, Tryz.underlying30, rfl, rfl, tu3, rfl⟩
instance : FA Tryz.prog 30 1 1 := ⟨_, _, _, _, _, Tryz.underlying30, rfl, rfl, ts29⟩
instance : FV Tryz.prog 30 1 1 := ⟨_, _, _, Tryz.underlying30, rfl, rfl, tu29, rfl⟩
instance : TB Tryz.prog 31 [.int .i64 0, .slice none 0 0] (fun i => ([(0, 1), (1, 1)] : List (Nat × Nat))[i]?) := TB.struct Tryz.underlying31 ts31 (by kernel_rfl)
instance : FA Tryz.prog 31 0 0 := ⟨_, _, _, _, _, Tryz.underlying31, rfl, rfl, ts3⟩
instance : FV Tryz.prog 31 0 0 := ⟨_, _, _, Tryz.underlying31, rfl, rfl, tu3, rfl⟩
instance : FA Tryz.prog 31 1 1 := ⟨_, _, _, _, _, Tryz.underlying31, rfl, rfl, ts29⟩
instance : FV Tryz.prog 31 1 1 := ⟨_, _, _, Tryz.underlying31, rfl, rfl, tu29, rfl⟩
instance : TB Tryz.prog 43 [.int .i64 0, .int .i64 0, .int .i64 0] (fun i => ([(0, 1), (1, 1), (2, 1)] : List (Nat × Nat))[i]?) := TB.struct Tryz.underlying43 ts43 (by kernel_rfl)
instance : FA Tryz.prog 43 0 0 := ⟨_, _, _, _, _, Tryz.underlying43, rfl, rfl, ts3⟩
instance : FV Tryz.prog 43 0 0 := ⟨_, _, _, Tryz.underlying43, rfl, rfl, tu3, rfl⟩
instance : FA Tryz.prog 43 1 1 := ⟨_, _, _, _, _, Tryz.underlying43, rfl, rfl, ts3⟩
instance : FV Tryz.prog 43 1 1 := ⟨_, _, _, Tryz.underlying43, rfl, rfl, tu3, rfl⟩
instance : FA Tryz.prog 43 2 2 := ⟨_, _, _, _, _, Tryz.underlying43, rfl, rfl, ts3⟩
instance : FV Tryz.prog 43 2 2 := ⟨_, _, _, Tryz.underlying43, rfl, rfl, tu3, rfl⟩
instance : TB Tryz.prog 44 [.int .i64 0, .int .i64 0, .int .i64 0] (fun i => ([(0, 1), (1, 1), (2, 1)] : List (Nat × Nat))[i]?) := TB.struct Tryz.underlying44 ts44 (by kernel_rfl)
instance : FA Tryz.prog 44 0 0 := ⟨_, _, _, _, _, Tryz.underlying44, rfl, rfl, ts3⟩
instance : FV Tryz.prog 44 0 0 := ⟨_, _, _, Tryz.underlying44, rfl, rfl, tu3, rfl⟩
instance : FA Tryz.prog 44 1 1 := ⟨_, _, _, _, _, Tryz.underlying44, rfl, rfl, ts3⟩
instance : FV Tryz.prog 44 1 1 := ⟨_, _, _, Tryz.underlying44, rfl, rfl, tu3, rfl⟩
instance : FA Tryz.prog 44 2 2 := ⟨_, _, _, _, _, Tryz.underlying44, rfl, rfl, ts3⟩
instance : FV Tryz.prog 44 2 2 := ⟨_, _, _, Tryz.underlying44, rfl, rfl, tu3, rfl⟩
instance : TB Tryz.prog 47 [.int .i64 0, .int .i64 0, .int .i64 0, .string ⟨#[]⟩, .string ⟨#[]⟩, .string ⟨#[]⟩] (fun i => ([(0, 3), (3, 1), (4, 1), (5, 1)] : List (Nat × Nat))[i]?) := TB.struct Tryz.underlying47 ts47 (by kernel_rfl)
instance : FA Tryz.prog 47 0 0 := ⟨_, _, _, _, _, Tryz.underlying47, rfl, rfl, ts44⟩
instance : FA Tryz.prog 47 1 3 := ⟨_, _, _, _, _, Tryz.underlying47, rfl, rfl, ts9⟩
instance : FV Tryz.prog 47 1 3 := ⟨_, _, _, Tryz.underlying47, rfl, rfl, tu9, rfl⟩
instance : FA Tryz.prog 47 2 4 := ⟨_, _, _, _, _, Tryz.underlying47, rfl, rfl, ts9⟩
instance : FV Tryz.prog 47 2 4 := ⟨_, _, _, Tryz.underlying47, rfl, rfl, tu9, rfl⟩
instance : FA Tryz.prog 47 3 5 := ⟨_, _, _, _, _, Tryz.underlying47, rfl, rfl, ts9⟩
instance : FV Tryz.prog 47 3 5 := ⟨_, _, _, Tryz.underlying47, rfl, rfl, tu9, rfl⟩
instance : TB Tryz.prog 48 [.int .i64 0, .int .i64 0, .int .i64 0, .string ⟨#[]⟩, .string ⟨#[]⟩, .string ⟨#[]⟩] (fun i => ([(0, 3), (3, 1), (4, 1), (5, 1)] : List (Nat × Nat))[i]?) := TB.struct Tryz.underlying48 ts48 (by kernel_rfl)
instance : FA Tryz.prog 48 0 0 := ⟨_, _, _, _, _, Tryz.underlying48, rfl, rfl, ts44⟩
instance : FA Tryz.prog 48 1 3 := ⟨_, _, _, _, _, Tryz.underlying48, rfl, rfl, ts9⟩
instance : FV Tryz.prog 48 1 3 := ⟨_, _, _, Tryz.underlying48, rfl, rfl, tu9, rfl⟩
instance : FA Tryz.prog 48 2 4 := ⟨_, _, _, _, _, Tryz.underlying48, rfl, rfl, ts9⟩
instance : FV Tryz.prog 48 2 4 := ⟨_, _, _, Tryz.underlying48, rfl, rfl, tu9, rfl⟩
instance : FA Tryz.prog 48 3 5 := ⟨_, _, _, _, _, Tryz.underlying48, rfl, rfl, ts9⟩
instance : FV Tryz.prog 48 3 5 := ⟨_, _, _, Tryz.underlying48, rfl, rfl, tu9, rfl⟩
instance : TB Tryz.prog 60 [.int .i64 0, .int .i64 0, .int .i64 0, .string ⟨#[]⟩, .string ⟨#[]⟩, .string ⟨#[]⟩, .int .i64 0, .int .i64 0, .int .i64 0, .string ⟨#[]⟩, .string ⟨#[]⟩, .string ⟨#[]⟩, .int .i64 0, .int .i64 0, .int .i64 0, .string ⟨#[]⟩, .string ⟨#[]⟩, .string ⟨#[]⟩] (fun i => some (i * 6, 6)) := TB.array Tryz.underlying60 ts60 ts48
instance : TB Tryz.prog 62 [.int .i64 0, .slice none 0 0] (fun i => ([(0, 1), (1, 1)] : List (Nat × Nat))[i]?) := TB.struct Tryz.underlying62 ts62 (by kernel_rfl)
instance : FA Tryz.prog 62 0 0 := ⟨_, _, _, _, _, Tryz.underlying62, rfl, rfl, ts3⟩
instance : FV Tryz.prog 62 0 0 := ⟨_, _, _, Tryz.underlying62, rfl, rfl, tu3, rfl⟩
instance : FA Tryz.prog 62 1 1 := ⟨_, _, _, _, _, Tryz.underlying62, rfl, rfl, ts61⟩
instance : FV Tryz.prog 62 1 1 := ⟨_, _, _, Tryz.underlying62, rfl, rfl, tu61, rfl⟩
instance : TB Tryz.prog 63 [.int .i64 0, .slice none 0 0] (fun i => ([(0, 1), (1, 1)] : List (Nat × Nat))[i]?) := TB.struct Tryz.underlying63 ts63 (by kernel_rfl)
instance : FA Tryz.prog 63 0 0 := ⟨_, _, _, _, _, Tryz.underlying63, rfl, rfl, ts3⟩
instance : FV Tryz.prog 63 0 0 := ⟨_, _, _, Tryz.underlying63, rfl, rfl, tu3, rfl⟩
instance : FA Tryz.prog 63 1 1 := ⟨_, _, _, _, _, Tryz.underlying63, rfl, rfl, ts61⟩
instance : FV Tryz.prog 63 1 1 := ⟨_, _, _, Tryz.underlying63, rfl, rfl, tu61, rfl⟩
instance : TB Tryz.prog 71 [.string ⟨#[]⟩, .int .i64 0] (fun i => ([(0, 1), (1, 1)] : List (Nat × Nat))[i]?) := TB.struct Tryz.underlying71 ts71 (by kernel_rfl)
instance : EqT Tryz.prog 71 encSI := eqT_SI Tryz.underlying71 (by decide) rfl (by decide) rfl tu9 tu3 (by kernel_rfl) (by kernel_rfl)
instance : FA Tryz.prog 71 0 0 := ⟨_, _, _, _, _, Tryz.underlying71, rfl, rfl, ts9⟩
instance : FV Tryz.prog 71 0 0 := ⟨_, _, _, Tryz.underlying71, rfl, rfl, tu9, rfl⟩
instance : FA Tryz.prog 71 1 1 := ⟨_, _, _, _, _, Tryz.underlying71, rfl, rfl, ts3⟩
instance : FV Tryz.prog 71 1 1 := ⟨_, _, _, Tryz.underlying71, rfl, rfl, tu3, rfl⟩
instance : TB Tryz.prog 72 [.string ⟨#[]⟩, .int .i64 0] (fun i => ([(0, 1), (1, 1)] : List (Nat × Nat))[i]?) := TB.struct Tryz.underlying72 ts72 (by kernel_rfl)
instance : EqT Tryz.prog 72 encSI := eqT_SI Tryz.underlying72 (by decide) rfl (by decide) rfl tu9 tu3 (by kernel_rfl) (by kernel_rfl)
instance : FA Tryz.prog 72 0 0 := ⟨_, _, _, _, _, Tryz.underlying72, rfl, rfl, ts9⟩
instance : FV Tryz.prog 72 0 0 := ⟨_, _, _, Tryz.underlying72, rfl, rfl, tu9, rfl⟩
instance : FA Tryz.prog 72 1 1 := ⟨_, _, _, _, _, Tryz.underlying72, rfl, rfl, ts3⟩
instance : FV Tryz.prog 72 1 1 := ⟨_, _, _, Tryz.underlying72, rfl, rfl, tu3, rfl⟩
instance : TB Tryz.prog 89 [.int .i64 0, .slice none 0 0] (fun i => ([(0, 1), (1, 1)] : List (Nat × Nat))[i]?) := TB.struct Tryz.underlying89 ts89 (by kernel_rfl)
instance : FA Tryz.prog 89 0 0 := ⟨_, _, _, _, _, Tryz.underlying89, rfl, rfl, ts3⟩
instance : FV Tryz.prog 89 0 0 := ⟨_, _, _, Tryz.underlying89, rfl, rfl, tu3, rfl⟩
instance : FA Tryz.prog 89 1 1 := ⟨_, _, _, _, _, Tryz.underlying89, rfl, rfl, ts88⟩
instance : FV Tryz.prog 89 1 1 := ⟨_, _, _, Tryz.underlying89, rfl, rfl, tu88, rfl⟩
instance : TB Tryz.prog 90 [.int .i64 0, .slice none 0 0] (fun i => ([(0, 1), (1, 1)] : List (Nat × Nat))[i]?) := TB.struct Tryz.underlying90 ts90 (by kernel_rfl)
instance : FA Tryz.prog 90 0 0 := ⟨_, _, _, _, _, Tryz.underlying90, rfl, rfl, ts3⟩
instance : FV Tryz.prog 90 0 0 := ⟨_, _, _, Tryz.underlying90, rfl, rfl, tu3, rfl⟩
instance : FA Tryz.prog 90 1 1 := ⟨_, _, _, _, _, Tryz.underlying90, rfl, rfl, ts88⟩
instance : FV Tryz.prog 90 1 1 := ⟨_, _, _, Tryz.underlying90, rfl, rfl, tu88, rfl⟩
instance : TB Tryz.prog 139 [.int .i64 0, .int .u8 0, .slice none 0 0, .slice none 0 0] (fun i => ([(0, 2), (2, 1), (3, 1)] : List (Nat × Nat))[i]?) := TB.struct Tryz.underlying139 ts139 (by kernel_rfl)
instance : FA Tryz.prog 139 0 0 := ⟨_, _, _, _, _, Tryz.underlying139, rfl, rfl, ts26⟩
instance : FA Tryz.prog 139 1 2 := ⟨_, _, _, _, _, Tryz.underlying139, rfl, rfl, ts53⟩
instance : FV Tryz.prog 139 1 2 := ⟨_, _, _, Tryz.underlying139, rfl, rfl, tu53, rfl⟩
instance : FA Tryz.prog 139 2 3 := ⟨_, _, _, _, _, Tryz.underlying139, rfl, rfl, ts54⟩
instance : FV Tryz.prog 139 2 3 := ⟨_, _, _, Tryz.underlying139, rfl, rfl, tu54, rfl⟩
instance : TB Tryz.prog 140 [.int .i64 0, .int .u8 0, .slice none 0 0, .slice none 0 0] (fun i => ([(0, 2), (2, 1), (3, 1)] : List (Nat × Nat))[i]?) := TB.struct Tryz.underlying140 ts140 (by kernel_rfl)
instance : FA Tryz.prog 140 0 0 := ⟨_, _, _, _, _, Tryz.underlying140, rfl, rfl, ts26⟩
instance : FA Tryz.prog 140 1 2 := ⟨_, _, _, _, _, Tryz.underlying140, rfl, rfl, ts53⟩
instance : FV Tryz.prog 140 1 2 := ⟨_, _, _, Tryz.underlying140, rfl, rfl, tu53, rfl⟩
instance : FA Tryz.prog 140 2 3 := ⟨_, _, _, _, _, Tryz.underlying140, rfl, rfl, ts54⟩
instance : FV Tryz.prog 140 2 3 := ⟨_, _, _, Tryz.underlying140, rfl, rfl, tu54, rfl⟩
instance : TB Tryz.prog 144 [.int .i64 0, .int .i64 0, .int .i64 0, .int .u8 0, .string ⟨#[]⟩] (fun i => ([(0, 3), (3, 1), (4, 1)] : List (Nat × Nat))[i]?) := TB.struct Tryz.underlying144 ts144 (by kernel_rfl)
instance : FA Tryz.prog 144 0 0 := ⟨_, _, _, _, _, Tryz.underlying144, rfl, rfl, ts44⟩
instance : FA Tryz.prog 144 1 3 := ⟨_, _, _, _, _, Tryz.underlying144, rfl, rfl, ts5⟩
instance : FV Tryz.prog 144 1 3 := ⟨_, _, _, Tryz.underlying144, rfl, rfl, tu5, rfl⟩
instance : FA Tryz.prog 144 2 4 := ⟨_, _, _, _, _, Tryz.underlying144, rfl, rfl, ts9⟩
instance : FV Tryz.prog 144 2 4 := ⟨_, _, _, Tryz.underlying144, rfl, rfl, tu9, rfl⟩
instance : TB Tryz.prog 145 [.int .i64 0, .int .i64 0, .int .i64 0, .int .u8 0, .string ⟨#[]⟩] (fun i => ([(0, 3), (3, 1), (4, 1)] : List (Nat × Nat))[i]?) := TB.struct Tryz.underlying145 ts145 (by kernel_rfl)
instance : FA Tryz.prog 145 0 0 := ⟨_, _, _, _, _, Tryz.underlying145, rfl, rfl, ts44⟩
instance : FA Tryz.prog 145 1 3 := ⟨_, _, _, _, _, Tryz.underlying145, rfl, rfl, ts5⟩
instance : FV Tryz.prog 145 1 3 := ⟨_, _, _, Tryz.underlying145, rfl, rfl, tu5, rfl⟩
instance : FA Tryz.prog 145 2 4 := ⟨_, _, _, _, _, Tryz.underlying145, rfl, rfl, ts9⟩
instance : FV Tryz.prog 145 2 4 := ⟨_, _, _, Tryz.underlying145, rfl, rfl, tu9, rfl⟩
instance : TB Tryz.prog 156 [.slice none 0 0] (fun i => ([(0, 1)] : List (Nat × Nat))[i]?) := TB.struct Tryz.underlying156 ts156 (by kernel_rfl)
instance : FA Tryz.prog 156 0 0 := ⟨_, _, _, _, _, Tryz.underlying156, rfl, rfl, ts24⟩
instance : TB Tryz.prog 157 [.slice none 0 0] (fun i => ([(0, 1)] : List (Nat × Nat))[i]?) := TB.struct Tryz.underlying157 ts157 (by kernel_rfl)
instance : FA Tryz.prog 157 0 0 := ⟨_, _, _, _, _, Tryz.underlying157, rfl, rfl, ts24⟩
instance : TB Tryz.prog 177 [.int .i64 0, .int .i64 0, .int .i64 0, .int .i64 0] (fun i => ([(0, 1), (1, 1), (2, 1), (3, 1)] : List (Nat × Nat))[i]?) := TB.struct Tryz.underlying177 ts177 (by kernel_rfl)
instance : FA Tryz.prog 177 0 0 := ⟨_, _, _, _, _, Tryz.underlying177, rfl, rfl, ts3⟩
instance : FV Tryz.prog 177 0 0 := ⟨_, _, _, Tryz.underlying177, rfl, rfl, tu3, rfl⟩
instance : FA Tryz.prog 177 1 1 := ⟨_, _, _, _, _, Tryz.underlying177, rfl, rfl, ts3⟩
instance : FV Tryz.prog 177 1 1 := ⟨_, _, _, Tryz.underlying177, rfl, rfl, tu3, rfl⟩
instance : FA Tryz.prog 177 2 2 := ⟨_, _, _, _, _, Tryz.underlying177, rfl, rfl, ts3⟩
instance : FV Tryz.prog 177 2 2 := ⟨_, _, _, Tryz.underlying177, rfl, rfl, tu3, rfl⟩
instance : FA Tryz.prog 177 3 3 := ⟨_, _, _, _, _, Tryz.underlying177, rfl, rfl, ts3⟩
instance : FV Tryz.prog 177 3 3 := ⟨_, _, _, Tryz.underlying177, rfl, rfl, tu3, rfl⟩
instance : TB Tryz.prog 178 [.int .i64 0, .int .i64 0, .int .i64 0, .int .i64 0] (fun i => ([(0, 1), (1, 1), (2, 1), (3, 1)] : List (Nat × Nat))[i]?) := TB.struct Tryz.underlying178 ts178 (by kernel_rfl)
instance : FA Tryz.prog 178 0 0 := ⟨_, _, _, _, _, Tryz.underlying178, rfl, rfl, ts3⟩
instance : FV Tryz.prog 178 0 0 := ⟨_, _, _, Tryz.underlying178, rfl, rfl, tu3, rfl⟩
instance : FA Tryz.prog 178 1 1 := ⟨_, _, _, _, _, Tryz.underlying178, rfl, rfl, ts3⟩
instance : FV Tryz.prog 178 1 1 := ⟨_, _, _, Tryz.underlying178, rfl, rfl, tu3, rfl⟩
instance : FA Tryz.prog 178 2 2 := ⟨_, _, _, _, _, Tryz.underlying178, rfl, rfl, ts3⟩
instance : FV Tryz.prog 178 2 2 := ⟨_, _, _, Tryz.underlying178, rfl, rfl, tu3, rfl⟩
instance : FA Tryz.prog 178 3 3 := ⟨_, _, _, _, _, Tryz.underlying178, rfl, rfl, ts3⟩
instance : FV Tryz.prog 178 3 3 := ⟨_, _, _, Tryz.underlying178, rfl, rfl, tu3, rfl⟩
instance : TB Tryz.prog 184 [.nilFunc] (fun i => ([(0, 1)] : List (Nat × Nat))[i]?) := TB.struct Tryz.underlying184 ts184 (by kernel_rfl)
instance : FA Tryz.prog 184 0 0 := ⟨_, _, _, _, _, Tryz.underlying184, rfl, rfl, ts183⟩
instance : FV Tryz.prog 184 0 0 := ⟨_, _, _, Tryz.underlying184, rfl, rfl, tu183, rfl⟩
instance : TB Tryz.prog 185 [.nilFunc, .nilFunc, .nilFunc, .nilFunc] (fun i => some (i * 1, 1)) := TB.array Tryz.underlying185 ts185 ts184
instance : TB Tryz.prog 196 [.pointer none, .slice none 0 0] (fun i => ([(0, 1), (1, 1)] : List (Nat × Nat))[i]?) := TB.struct Tryz.underlying196 ts196 (by kernel_rfl)
instance : FA Tryz.prog 196 0 0 := ⟨_, _, _, _, _, Tryz.underlying196, rfl, rfl, ts195⟩
instance : FV Tryz.prog 196 0 0 := ⟨_, _, _, Tryz.underlying196, rfl, rfl, tu195, rfl⟩
instance : FA Tryz.prog 196 1 1 := ⟨_, _, _, _, _, Tryz.underlying196, rfl, rfl, ts162⟩
instance : FV Tryz.prog 196 1 1 := ⟨_, _, _, Tryz.underlying196, rfl, rfl, tu162, rfl⟩
instance : TB Tryz.prog 197 [.pointer none, .slice none 0 0] (fun i => ([(0, 1), (1, 1)] : List (Nat × Nat))[i]?) := TB.struct Tryz.underlying197 ts197 (by kernel_rfl)
instance : FA Tryz.prog 197 0 0 := ⟨_, _, _, _, _, Tryz.underlying197, rfl, rfl, ts195⟩
instance : FV Tryz.prog 197 0 0 := ⟨_, _, _, Tryz.underlying197, rfl, rfl, tu195, rfl⟩
instance : FA Tryz.prog 197 1 1 := ⟨_, _, _, _, _, Tryz.underlying197, rfl, rfl, ts162⟩
instance : FV Tryz.prog 197 1 1 := ⟨_, _, _, Tryz.underlying197, rfl, rfl, tu162, rfl⟩
instance : TB Tryz.prog 210 [.int .i64 0, .nilFunc, .nilFunc] (fun i => ([(0, 1), (1, 1), (2, 1)] : List (Nat × Nat))[i]?) := TB.struct Tryz.underlying210 ts210 (by kernel_rfl)
instance : FA Tryz.prog 210 0 0 := ⟨_, _, _, _, _, Tryz.underlying210, rfl, rfl, ts3⟩
instance : FV Tryz.prog 210 0 0 := ⟨_, _, _, Tryz.underlying210, rfl, rfl, tu3, rfl⟩
instance : FA Tryz.prog 210 1 1 := ⟨_, _, _, _, _, Tryz.underlying210, rfl, rfl, ts209⟩
instance : FV Tryz.prog 210 1 1 := ⟨_, _, _, Tryz.underlying210, rfl, rfl, tu209, rfl⟩
instance : FA Tryz.prog 210 2 2 := ⟨_, _, _, _, _, Tryz.underlying210, rfl, rfl, ts171⟩
instance : FV Tryz.prog 210 2 2 := ⟨_, _, _, Tryz.underlying210, rfl, rfl, tu171, rfl⟩
instance : TB Tryz.prog 211 [.int .i64 0, .nilFunc, .nilFunc] (fun i => ([(0, 1), (1, 1), (2, 1)] : List (Nat × Nat))[i]?) := TB.struct Tryz.underlying211 ts211 (by kernel_rfl)
instance : FA Tryz.prog 211 0 0 := ⟨_, _, _, _, _, Tryz.underlying211, rfl, rfl, ts3⟩
instance : FV Tryz.prog 211 0 0 := ⟨_, _, _, Tryz.underlying211, rfl, rfl, tu3, rfl⟩
instance : FA Tryz.prog 211 1 1 := ⟨_, _, _, _, _, Tryz.underlying211, rfl, rfl, ts209⟩
instance : FV Tryz.prog 211 1 1 := ⟨_, _, _, Tryz.underlying211, rfl, rfl, tu209, rfl⟩
instance : FA Tryz.prog 211 2 2 := ⟨_, _, _, _, _, Tryz.underlying211, rfl, rfl, ts171⟩
instance : FV Tryz.prog 211 2 2 := ⟨_, _, _, Tryz.underlying211, rfl, rfl, tu171, rfl⟩
instance : TB Tryz.prog 212 [.int .i64 0, .nilFunc, .nilFunc, .int .i64 0, .nilFunc, .nilFunc, .int .i64 0, .nilFunc, .nilFunc, .int .i64 0, .nilFunc, .nilFunc] (fun i => some (i * 3, 3)) := TB.array Tryz.underlying212 ts212 ts211
instance : TB Tryz.prog 249 [.int .u8 0, .int .u8 0, .int .u8 0, .int .u8 0, .int .u8 0, .int .u8 0, .int .u8 0, .int .u8 0, .int .u8 0, .int .u8 0, .int .u8 0, .int .u8 0, .int .u8 0, .int .u8 0, .int .u8 0, .int .u8 0, .int .u8 0, .int .u8 0, .int .u8 0, .int .u8 0, .int .u8 0, .int .u8 0, .int .u8 0, .int .u8 0, .int .u8 0, .int .u8 0, .int .u8 0, .int .u8 0, .int .u8 0, .int .u8 0, .int .u8 0, .int .u8 0, .int .u8 0, .int .u8 0, .int .u8 0, .int .u8 0, .int .u8 0, .int .u8 0, .int .u8 0, .int .u8 0, .int .u8 0, .int .u8 0, .int .u8 0, .int .u8 0, .int .u8 0, .int .u8 0, .int .u8 0, .int .u8 0, .int .u8 0, .int .u8 0, .int .u8 0, .int .u8 0, .int .u8 0, .int .u8 0, .int .u8 0, .int .u8 0, .int .u8 0, .int .u8 0, .int .u8 0, .int .u8 0, .int .u8 0, .int .u8 0, .int .u8 0, .int .u8 0, .int .u8 0, .int .u8 0, .int .u8 0, .int .u8 0, .int .u8 0, .int .u8 0, .int .u8 0, .int .u8 0, .int .u8 0, .int .u8 0, .int .u8 0, .int .u8 0, .int .u8 0, .int .u8 0, .int .u8 0, .int .u8 0, .int .u8 0, .int .u8 0, .int .u8 0, .int .u8 0, .int .u8 0, .int .u8 0, .int .u8 0, .int .u8 0, .int .u8 0, .int .u8 0, .int .u8 0, .int .u8 0, .int .u8 0, .int .u8 0, .int .u8 0, .int .u8 0, .int .u8 0, .int .u8 0, .int .u8 0, .int .u8 0, .int .u8 0, .int .u8 0, .int .u8 0, .int .u8 0, .int .u8 0, .int .u8 0, .int .u8 0, .int .u8 0, .int .u8 0, .int .u8 0, .int .u8 0, .int .u8 0, .int .u8 0, .int .u8 0, .int .u8 0, .int .u8 0, .int .u8 0, .int .u8 0, .int .u8 0, .int .u8 0, .int .u8 0, .int .u8 0, .int .u8 0, .int .u8 0, .int .u8 0, .int .u8 0, .int .u8 0, .int .u8 0, .int .u8 0, .int .u8 0, .int .u8 0, .int .u8 0, .int .u8 0, .int .u8 0, .int .u8 0, .int .u8 0, .int .u8 0, .int .u8 0, .int .u8 0, .int .u8 0, .int .u8 0, .int .u8 0, .int .u8 0, .int .u8 0, .int .u8 0, .int .u8 0, .int .u8 0, .int .u8 0, .int .u8 0, .int .u8 0, .int .u8 0, .int .u8 0, .int .u8 0, .int .u8 0, .int .u8 0, .int .u8 0, .int .u8 0, .int .u8 0, .int .u8 0, .int .u8 0, .int .u8 0, .int .u8 0, .int .u8 0, .int .u8 0, .int .u8 0, .int .u8 0, .int .u8 0, .int .u8 0, .int .u8 0, .int .u8 0, .int .u8 0, .int .u8 0, .int .u8 0, .int .u8 0, .int .u8 0, .int .u8 0, .int .u8 0, .int .u8 0, .int .u8 0, .int .u8 0, .int .u8 0, .int .u8 0, .int .u8 0, .int .u8 0, .int .u8 0, .int .u8 0, .int .u8 0, .int .u8 0, .int .u8 0, .int .u8 0, .int .u8 0, .int .u8 0, .int .u8 0, .int .u8 0, .int .u8 0, .int .u8 0, .int .u8 0, .int .u8 0, .int .u8 0, .int .u8 0, .int .u8 0, .int .u8 0, .int .u8 0, .int .u8 0, .int .u8 0, .int .u8 0, .int .u8 0, .int .u8 0, .int .u8 0, .int .u8 0, .int .u8 0, .int .u8 0, .int .u8 0, .int .u8 0, .int .u8 0, .int .u8 0, .int .u8 0, .int .u8 0, .int .u8 0, .int .u8 0, .int .u8 0, .int .u8 0, .int .u8 0, .int .u8 0, .int .u8 0, .int .u8 0, .int .u8 0, .int .u8 0, .int .u8 0, .int .u8 0, .int .u8 0, .int .u8 0, .int .u8 0, .int .u8 0, .int .u8 0, .int .u8 0, .int .u8 0, .int .u8 0, .int .u8 0, .int .u8 0, .int .u8 0, .int .u8 0, .int .u8 0, .int .u8 0, .int .u8 0, .int .u8 0, .int .u8 0, .int .u8 0, .int .u8 0, .int .u8 0, .int .u8 0, .int .u8 0, .int .u8 0, .int .u8 0, .int .u8 0, .int .u8 0] (fun i => some (i * 1, 1)) := TB.array Tryz.underlying249 ts249 ts5
instance : TB Tryz.prog 250 [.int .u8 0, .int .u8 0] (fun i => ([(0, 1), (1, 1)] : List (Nat × Nat))[i]?) := TB.struct Tryz.underlying250 ts250 (by kernel_rfl)
instance : FA Tryz.prog 250 0 0 := ⟨_, _, _, _, _, Tryz.underlying250, rfl, rfl, ts5⟩
instance : FV Tryz.prog 250 0 0 := ⟨_, _, _, Tryz.underlying250, rfl, rfl, tu5, rfl⟩
instance : FA Tryz.prog 250 1 1 := ⟨_, _, _, _, _, Tryz.underlying250, rfl, rfl, ts5⟩
instance : FV Tryz.prog 250 1 1 := ⟨_, _, _, Tryz.underlying250, rfl, rfl, tu5, rfl⟩
instance : TB Tryz.prog 251 [.int .u8 0, .int .u8 0] (fun i => ([(0, 1), (1, 1)] : List (Nat × Nat))[i]?) := TB.struct Tryz.underlying251 ts251 (by kernel_rfl)
instance : FA Tryz.prog 251 0 0 := ⟨_, _, _, _, _, Tryz.underlying251, rfl, rfl, ts5⟩
instance : FV Tryz.prog 251 0 0 := ⟨_, _, _, Tryz.underlying251, rfl, rfl, tu5, rfl⟩
instance : FA Tryz.prog 251 1 1 := ⟨_, _, _, _, _, Tryz.underlying251, rfl, rfl, ts5⟩
instance : FV Tryz.prog 251 1 1 := ⟨_, _, _, Tryz.underlying251, rfl, rfl, tu5, rfl⟩
instance : TB Tryz.prog 252 [.int .u8 0, .int .u8 0, .int .u8 0, .int .u8 0, .int .u8 0, .int .u8 0, .int .u8 0, .int .u8 0, .int .u8 0, .int .u8 0, .int .u8 0, .int .u8 0, .int .u8 0, .int .u8 0, .int .u8 0, .int .u8 0, .int .u8 0, .int .u8 0, .int .u8 0, .int .u8 0, .int .u8 0, .int .u8 0, .int .u8 0, .int .u8 0, .int .u8 0, .int .u8 0, .int .u8 0, .int .u8 0, .int .u8 0, .int .u8 0, .int .u8 0, .int .u8 0] (fun i => some (i * 2, 2)) := TB.array Tryz.underlying252 ts252 ts251
instance : TB Tryz.prog 255 [.pointer none, .pointer none, .pointer none, .string ⟨#[]⟩] (fun i => ([(0, 1), (1, 1), (2, 1), (3, 1)] : List (Nat × Nat))[i]?) := TB.struct Tryz.underlying255 ts255 (by kernel_rfl)
instance : FA Tryz.prog 255 3 3 := ⟨_, _, _, _, _, Tryz.underlying255, rfl, rfl, ts9⟩
instance : FV Tryz.prog 255 3 3 := ⟨_, _, _, Tryz.underlying255, rfl, rfl, tu9, rfl⟩
instance : TB Tryz.prog 258 [] (fun i => ([(0, 0)] : List (Nat × Nat))[i]?) := TB.struct Tryz.underlying258 ts258 (by kernel_rfl)
instance : TB Tryz.prog 266 [.int .u64 0, .int .u64 0, .int .u32 0, .int .u8 0, .int .u8 0, .int .u8 0, .int .u8 0, .nilFunc, .pointer none, .int .i32 0, .int .i32 0] (fun i => ([(0, 1), (1, 1), (2, 1), (3, 1), (4, 1), (5, 1), (6, 1), (7, 1), (8, 1), (9, 1), (10, 1)] : List (Nat × Nat))[i]?) := TB.struct Tryz.underlying266 ts266 (by kernel_rfl)
instance : FA Tryz.prog 266 0 0 := ⟨_, _, _, _, _, Tryz.underlying266, rfl, rfl, ts12⟩
instance : FV Tryz.prog 266 0 0 := ⟨_, _, _, Tryz.underlying266, rfl, rfl, tu12, rfl⟩
instance : FA Tryz.prog 266 1 1 := ⟨_, _, _, _, _, Tryz.underlying266, rfl, rfl, ts12⟩
instance : FV Tryz.prog 266 1 1 := ⟨_, _, _, Tryz.underlying266, rfl, rfl, tu12, rfl⟩
instance : FA Tryz.prog 266 2 2 := ⟨_, _, _, _, _, Tryz.underlying266, rfl, rfl, ts227⟩
instance : FV Tryz.prog 266 2 2 := ⟨_, _, _, Tryz.underlying266, rfl, rfl, tu227, rfl⟩
instance : FA Tryz.prog 266 4 4 := ⟨_, _, _, _, _, Tryz.underlying266, rfl, rfl, ts5⟩
instance : FV Tryz.prog 266 4 4 := ⟨_, _, _, Tryz.underlying266, rfl, rfl, tu5, rfl⟩
instance : FA Tryz.prog 266 5 5 := ⟨_, _, _, _, _, Tryz.underlying266, rfl, rfl, ts5⟩
instance : FV Tryz.prog 266 5 5 := ⟨_, _, _, Tryz.underlying266, rfl, rfl, tu5, rfl⟩
instance : FA Tryz.prog 266 7 7 := ⟨_, _, _, _, _, Tryz.underlying266, rfl, rfl, ts263⟩
instance : FV Tryz.prog 266 7 7 := ⟨_, _, _, Tryz.underlying266, rfl, rfl, tu263, rfl⟩
instance : FA Tryz.prog 266 8 8 := ⟨_, _, _, _, _, Tryz.underlying266, rfl, rfl, ts217⟩
instance : FV Tryz.prog 266 8 8 := ⟨_, _, _, Tryz.underlying266, rfl, rfl, tu217, rfl⟩
instance : KeyL Tryz.prog 3 (Value.int .i64) := keyL_int Tryz.underlying3
instance : KeyL Tryz.prog 9 Value.string := keyL_string Tryz.underlying9
noncomputable def c3 : Code := Tryz.f3.body.getD .skip
instance : FnI Tryz.prog 3 Tryz.f3 c3 43 := ⟨Tryz.func3, by kernel_rfl, Tryz.ntmps3⟩
instance : Enters Tryz.prog 3 := ⟨Tryz.call3⟩
noncomputable def c4 : Code := Tryz.f4.body.getD .skip
instance : FnI Tryz.prog 4 Tryz.f4 c4 162 := ⟨Tryz.func4, by kernel_rfl, Tryz.ntmps4⟩
instance : Enters Tryz.prog 4 := ⟨Tryz.call4⟩
noncomputable def c5 : Code := Tryz.f5.body.getD .skip
instance : FnI Tryz.prog 5 Tryz.f5 c5 168 := ⟨Tryz.func5, by kernel_rfl, Tryz.ntmps5⟩
instance : Enters Tryz.prog 5 := ⟨Tryz.call5⟩
noncomputable def c6 : Code := Tryz.f6.body.getD .skip
instance : FnI Tryz.prog 6 Tryz.f6 c6 106 := ⟨Tryz.func6, by kernel_rfl, Tryz.ntmps6⟩
instance : Enters Tryz.prog 6 := ⟨Tryz.call6⟩
noncomputable def c7 : Code := Tryz.f7.body.getD .skip
instance : FnI Tryz.prog 7 Tryz.f7 c7 75 := ⟨Tryz.func7, by kernel_rfl, Tryz.ntmps7⟩
instance : Enters Tryz.prog 7 := ⟨Tryz.call7⟩
noncomputable def c8 : Code := Tryz.f8.body.getD .skip
instance : FnI Tryz.prog 8 Tryz.f8 c8 55 := ⟨Tryz.func8, by kernel_rfl, Tryz.ntmps8⟩
instance : Enters Tryz.prog 8 := ⟨Tryz.call8⟩
noncomputable def c9 : Code := Tryz.f9.body.getD .skip
instance : FnI Tryz.prog 9 Tryz.f9 c9 76 := ⟨Tryz.func9, by kernel_rfl, Tryz.ntmps9⟩
instance : Enters Tryz.prog 9 := ⟨Tryz.call9⟩
noncomputable def c10 : Code := Tryz.f10.body.getD .skip
instance : FnI Tryz.prog 10 Tryz.f10 c10 81 := ⟨Tryz.func10, by kernel_rfl, Tryz.ntmps10⟩
instance : Enters Tryz.prog 10 := ⟨Tryz.call10⟩
noncomputable def c11 : Code := Tryz.f11.body.getD .skip
instance : FnI Tryz.prog 11 Tryz.f11 c11 38 := ⟨Tryz.func11, by kernel_rfl, Tryz.ntmps11⟩
instance : Enters Tryz.prog 11 := ⟨Tryz.call11⟩
noncomputable def c12 : Code := Tryz.f12.body.getD .skip
instance : FnI Tryz.prog 12 Tryz.f12 c12 66 := ⟨Tryz.func12, by kernel_rfl, Tryz.ntmps12⟩
instance : Enters Tryz.prog 12 := ⟨Tryz.call12⟩
noncomputable def c13 : Code := Tryz.f13.body.getD .skip
instance : FnI Tryz.prog 13 Tryz.f13 c13 150 := ⟨Tryz.func13, by kernel_rfl, Tryz.ntmps13⟩
instance : Enters Tryz.prog 13 := ⟨Tryz.call13⟩
noncomputable def c14 : Code := Tryz.f14.body.getD .skip
instance : FnI Tryz.prog 14 Tryz.f14 c14 16 := ⟨Tryz.func14, by kernel_rfl, Tryz.ntmps14⟩
instance : Enters Tryz.prog 14 := ⟨Tryz.call14⟩
noncomputable def c15 : Code := Tryz.f15.body.getD .skip
instance : FnI Tryz.prog 15 Tryz.f15 c15 39 := ⟨Tryz.func15, by kernel_rfl, Tryz.ntmps15⟩
instance : Enters Tryz.prog 15 := ⟨Tryz.call15⟩
noncomputable def c16 : Code := Tryz.f16.body.getD .skip
instance : FnI Tryz.prog 16 Tryz.f16 c16 29 := ⟨Tryz.func16, by kernel_rfl, Tryz.ntmps16⟩
instance : Enters Tryz.prog 16 := ⟨Tryz.call16⟩
noncomputable def c17 : Code := Tryz.f17.body.getD .skip
instance : FnI Tryz.prog 17 Tryz.f17 c17 28 := ⟨Tryz.func17, by kernel_rfl, Tryz.ntmps17⟩
instance : Enters Tryz.prog 17 := ⟨Tryz.call17⟩
noncomputable def c18 : Code := Tryz.f18.body.getD .skip
instance : FnI Tryz.prog 18 Tryz.f18 c18 28 := ⟨Tryz.func18, by kernel_rfl, Tryz.ntmps18⟩
instance : Enters Tryz.prog 18 := ⟨Tryz.call18⟩
noncomputable def c19 : Code := Tryz.f19.body.getD .skip
instance : FnI Tryz.prog 19 Tryz.f19 c19 51 := ⟨Tryz.func19, by kernel_rfl, Tryz.ntmps19⟩
instance : Enters Tryz.prog 19 := ⟨Tryz.call19⟩
noncomputable def c20 : Code := Tryz.f20.body.getD .skip
instance : FnI Tryz.prog 20 Tryz.f20 c20 18 := ⟨Tryz.func20, by kernel_rfl, Tryz.ntmps20⟩
instance : Enters Tryz.prog 20 := ⟨Tryz.call20⟩
noncomputable def c21 : Code := Tryz.f21.body.getD .skip
instance : FnI Tryz.prog 21 Tryz.f21 c21 21 := ⟨Tryz.func21, by kernel_rfl, Tryz.ntmps21⟩
instance : Enters Tryz.prog 21 := ⟨Tryz.call21⟩
noncomputable def c22 : Code := Tryz.f22.body.getD .skip
instance : FnI Tryz.prog 22 Tryz.f22 c22 18 := ⟨Tryz.func22, by kernel_rfl, Tryz.ntmps22⟩
instance : Enters Tryz.prog 22 := ⟨Tryz.call22⟩
noncomputable def c23 : Code := Tryz.f23.body.getD .skip
instance : FnI Tryz.prog 23 Tryz.f23 c23 17 := ⟨Tryz.func23, by kernel_rfl, Tryz.ntmps23⟩
instance : Enters Tryz.prog 23 := ⟨Tryz.call23⟩
noncomputable def c24 : Code := Tryz.f24.body.getD .skip
instance : FnI Tryz.prog 24 Tryz.f24 c24 11 := ⟨Tryz.func24, by kernel_rfl, Tryz.ntmps24⟩
instance : Enters Tryz.prog 24 := ⟨Tryz.call24⟩
noncomputable def c25 : Code := Tryz.f25.body.getD .skip
instance : FnI Tryz.prog 25 Tryz.f25 c25 21 := ⟨Tryz.func25, by kernel_rfl, Tryz.ntmps25⟩
instance : Enters Tryz.prog 25 := ⟨Tryz.call25⟩
noncomputable def c26 : Code := Tryz.f26.body.getD .skip
instance : FnI Tryz.prog 26 Tryz.f26 c26 23 := ⟨Tryz.func26, by kernel_rfl, Tryz.ntmps26⟩
instance : Enters Tryz.prog 26 := ⟨Tryz.call26⟩
noncomputable def c27 : Code := Tryz.f27.body.getD .skip
instance : FnI Tryz.prog 27 Tryz.f27 c27 35 := ⟨Tryz.func27, by kernel_rfl, Tryz.ntmps27⟩
instance : Enters Tryz.prog 27 := ⟨Tryz.call27⟩
noncomputable def c28 : Code := Tryz.f28.body.getD .skip
instance : FnI Tryz.prog 28 Tryz.f28 c28 15 := ⟨Tryz.func28, by kernel_rfl, Tryz.ntmps28⟩
instance : Enters Tryz.prog 28 := ⟨Tryz.call28⟩
noncomputable def c29 : Code := Tryz.f29.body.getD .skip
instance : FnI Tryz.prog 29 Tryz.f29 c29 77 := ⟨Tryz.func29, by kernel_rfl, Tryz.ntmps29⟩
instance : Enters Tryz.prog 29 := ⟨Tryz.call29⟩
noncomputable def c30 : Code := Tryz.f30.body.getD .skip
instance : FnI Tryz.prog 30 Tryz.f30 c30 26 := ⟨Tryz.func30, by kernel_rfl, Tryz.ntmps30⟩
instance : Enters Tryz.prog 30 := ⟨Tryz.call30⟩
noncomputable def c31 : Code := Tryz.f31.body.getD .skip
instance : FnI Tryz.prog 31 Tryz.f31 c31 10 := ⟨Tryz.func31, by kernel_rfl, Tryz.ntmps31⟩
instance : Enters Tryz.prog 31 := ⟨Tryz.call31⟩
noncomputable def c32 : Code := Tryz.f32.body.getD .skip
instance : FnI Tryz.prog 32 Tryz.f32 c32 5 := ⟨Tryz.func32, by kernel_rfl, Tryz.ntmps32⟩
instance : Enters Tryz.prog 32 := ⟨Tryz.call32⟩
noncomputable def c33 : Code := Tryz.f33.body.getD .skip
instance : FnI Tryz.prog 33 Tryz.f33 c33 70 := ⟨Tryz.func33, by kernel_rfl, Tryz.ntmps33⟩
instance : Enters Tryz.prog 33 := ⟨Tryz.call33⟩
noncomputable def c34 : Code := Tryz.f34.body.getD .skip
instance : FnI Tryz.prog 34 Tryz.f34 c34 11 := ⟨Tryz.func34, by kernel_rfl, Tryz.ntmps34⟩
instance : Enters Tryz.prog 34 := ⟨Tryz.call34⟩
noncomputable def c35 : Code := Tryz.f35.body.getD .skip
instance : FnI Tryz.prog 35 Tryz.f35 c35 93 := ⟨Tryz.func35, by kernel_rfl, Tryz.ntmps35⟩
instance : Enters Tryz.prog 35 := ⟨Tryz.call35⟩
noncomputable def c36 : Code := Tryz.f36.body.getD .skip
instance : FnI Tryz.prog 36 Tryz.f36 c36 75 := ⟨Tryz.func36, by kernel_rfl, Tryz.ntmps36⟩
instance : Enters Tryz.prog 36 := ⟨Tryz.call36⟩
noncomputable def c37 : Code := Tryz.f37.body.getD .skip
instance : FnI Tryz.prog 37 Tryz.f37 c37 9 := ⟨Tryz.func37, by kernel_rfl, Tryz.ntmps37⟩
instance : Enters Tryz.prog 37 := ⟨Tryz.call37⟩
noncomputable def c38 : Code := Tryz.f38.body.getD .skip
instance : FnI Tryz.prog 38 Tryz.f38 c38 56 := ⟨Tryz.func38, by kernel_rfl, Tryz.ntmps38⟩
instance : Enters Tryz.prog 38 := ⟨Tryz.call38⟩
noncomputable def c39 : Code := Tryz.f39.body.getD .skip
instance : FnI Tryz.prog 39 Tryz.f39 c39 36 := ⟨Tryz.func39, by kernel_rfl, Tryz.ntmps39⟩
instance : Enters Tryz.prog 39 := ⟨Tryz.call39⟩
noncomputable def c40 : Code := Tryz.f40.body.getD .skip
instance : FnI Tryz.prog 40 Tryz.f40 c40 49 := ⟨Tryz.func40, by kernel_rfl, Tryz.ntmps40⟩
instance : Enters Tryz.prog 40 := ⟨Tryz.call40⟩
noncomputable def c41 : Code := Tryz.f41.body.getD .skip
instance : FnI Tryz.prog 41 Tryz.f41 c41 31 := ⟨Tryz.func41, by kernel_rfl, Tryz.ntmps41⟩
instance : Enters Tryz.prog 41 := ⟨Tryz.call41⟩
noncomputable def c42 : Code := Tryz.f42.body.getD .skip
instance : FnI Tryz.prog 42 Tryz.f42 c42 32 := ⟨Tryz.func42, by kernel_rfl, Tryz.ntmps42⟩
instance : Enters Tryz.prog 42 := ⟨Tryz.call42⟩
noncomputable def c43 : Code := Tryz.f43.body.getD .skip
instance : FnI Tryz.prog 43 Tryz.f43 c43 26 := ⟨Tryz.func43, by kernel_rfl, Tryz.ntmps43⟩
instance : Enters Tryz.prog 43 := ⟨Tryz.call43⟩
noncomputable def c44 : Code := Tryz.f44.body.getD .skip
instance : FnI Tryz.prog 44 Tryz.f44 c44 26 := ⟨Tryz.func44, by kernel_rfl, Tryz.ntmps44⟩
instance : Enters Tryz.prog 44 := ⟨Tryz.call44⟩
noncomputable def c45 : Code := Tryz.f45.body.getD .skip
instance : FnI Tryz.prog 45 Tryz.f45 c45 85 := ⟨Tryz.func45, by kernel_rfl, Tryz.ntmps45⟩
instance : Enters Tryz.prog 45 := ⟨Tryz.call45⟩
noncomputable def c46 : Code := Tryz.f46.body.getD .skip
instance : FnI Tryz.prog 46 Tryz.f46 c46 12 := ⟨Tryz.func46, by kernel_rfl, Tryz.ntmps46⟩
instance : Enters Tryz.prog 46 := ⟨Tryz.call46⟩
noncomputable def c47 : Code := Tryz.f47.body.getD .skip
instance : FnI Tryz.prog 47 Tryz.f47 c47 22 := ⟨Tryz.func47, by kernel_rfl, Tryz.ntmps47⟩
instance : Enters Tryz.prog 47 := ⟨Tryz.call47⟩
noncomputable def c48 : Code := Tryz.f48.body.getD .skip
instance : FnI Tryz.prog 48 Tryz.f48 c48 28 := ⟨Tryz.func48, by kernel_rfl, Tryz.ntmps48⟩
instance : Enters Tryz.prog 48 := ⟨Tryz.call48⟩
noncomputable def c49 : Code := Tryz.f49.body.getD .skip
instance : FnI Tryz.prog 49 Tryz.f49 c49 22 := ⟨Tryz.func49, by kernel_rfl, Tryz.ntmps49⟩
instance : Enters Tryz.prog 49 := ⟨Tryz.call49⟩
noncomputable def c50 : Code := Tryz.f50.body.getD .skip
instance : FnI Tryz.prog 50 Tryz.f50 c50 13 := ⟨Tryz.func50, by kernel_rfl, Tryz.ntmps50⟩
instance : Enters Tryz.prog 50 := ⟨Tryz.call50⟩
noncomputable def c51 : Code := Tryz.f51.body.getD .skip
instance : FnI Tryz.prog 51 Tryz.f51 c51 35 := ⟨Tryz.func51, by kernel_rfl, Tryz.ntmps51⟩
instance : Enters Tryz.prog 51 := ⟨Tryz.call51⟩
noncomputable def c52 : Code := Tryz.f52.body.getD .skip
instance : FnI Tryz.prog 52 Tryz.f52 c52 52 := ⟨Tryz.func52, by kernel_rfl, Tryz.ntmps52⟩
instance : Enters Tryz.prog 52 := ⟨Tryz.call52⟩
noncomputable def c53 : Code := Tryz.f53.body.getD .skip
instance : FnI Tryz.prog 53 Tryz.f53 c53 23 := ⟨Tryz.func53, by kernel_rfl, Tryz.ntmps53⟩
instance : Enters Tryz.prog 53 := ⟨Tryz.call53⟩
noncomputable def c54 : Code := Tryz.f54.body.getD .skip
instance : FnI Tryz.prog 54 Tryz.f54 c54 5 := ⟨Tryz.func54, by kernel_rfl, Tryz.ntmps54⟩
instance : Enters Tryz.prog 54 := ⟨Tryz.call54⟩
noncomputable def c55 : Code := Tryz.f55.body.getD .skip
instance : FnI Tryz.prog 55 Tryz.f55 c55 6 := ⟨Tryz.func55, by kernel_rfl, Tryz.ntmps55⟩
instance : Enters Tryz.prog 55 := ⟨Tryz.call55⟩
noncomputable def c56 : Code := Tryz.f56.body.getD .skip
instance : FnI Tryz.prog 56 Tryz.f56 c56 9 := ⟨Tryz.func56, by kernel_rfl, Tryz.ntmps56⟩
instance : Enters Tryz.prog 56 := ⟨Tryz.call56⟩
noncomputable def c57 : Code := Tryz.f57.body.getD .skip
instance : FnI Tryz.prog 57 Tryz.f57 c57 13 := ⟨Tryz.func57, by kernel_rfl, Tryz.ntmps57⟩
instance : Enters Tryz.prog 57 := ⟨Tryz.call57⟩
noncomputable def c58 : Code := Tryz.f58.body.getD .skip
instance : FnI Tryz.prog 58 Tryz.f58 c58 13 := ⟨Tryz.func58, by kernel_rfl, Tryz.ntmps58⟩
instance : Enters Tryz.prog 58 := ⟨Tryz.call58⟩
noncomputable def c59 : Code := Tryz.f59.body.getD .skip
instance : FnI Tryz.prog 59 Tryz.f59 c59 20 := ⟨Tryz.func59, by kernel_rfl, Tryz.ntmps59⟩
instance : Enters Tryz.prog 59 := ⟨Tryz.call59⟩
noncomputable def c60 : Code := Tryz.f60.body.getD .skip
instance : FnI Tryz.prog 60 Tryz.f60 c60 21 := ⟨Tryz.func60, by kernel_rfl, Tryz.ntmps60⟩
instance : Enters Tryz.prog 60 := ⟨Tryz.call60⟩
noncomputable def c61 : Code := Tryz.f61.body.getD .skip
instance : FnI Tryz.prog 61 Tryz.f61 c61 4 := ⟨Tryz.func61, by kernel_rfl, Tryz.ntmps61⟩
instance : Enters Tryz.prog 61 := ⟨Tryz.call61⟩
noncomputable def c62 : Code := Tryz.f62.body.getD .skip
instance : FnI Tryz.prog 62 Tryz.f62 c62 8 := ⟨Tryz.func62, by kernel_rfl, Tryz.ntmps62⟩
instance : Enters Tryz.prog 62 := ⟨Tryz.call62⟩
noncomputable def c63 : Code := Tryz.f63.body.getD .skip
instance : FnI Tryz.prog 63 Tryz.f63 c63 20 := ⟨Tryz.func63, by kernel_rfl, Tryz.ntmps63⟩
instance : Enters Tryz.prog 63 := ⟨Tryz.call63⟩
noncomputable def c64 : Code := Tryz.f64.body.getD .skip
instance : FnI Tryz.prog 64 Tryz.f64 c64 9 := ⟨Tryz.func64, by kernel_rfl, Tryz.ntmps64⟩
instance : Enters Tryz.prog 64 := ⟨Tryz.call64⟩
noncomputable def c65 : Code := Tryz.f65.body.getD .skip
instance : FnI Tryz.prog 65 Tryz.f65 c65 14 := ⟨Tryz.func65, by kernel_rfl, Tryz.ntmps65⟩
instance : Enters Tryz.prog 65 := ⟨Tryz.call65⟩
noncomputable def c66 : Code := Tryz.f66.body.getD .skip
instance : FnI Tryz.prog 66 Tryz.f66 c66 13 := ⟨Tryz.func66, by kernel_rfl, Tryz.ntmps66⟩
instance : Enters Tryz.prog 66 := ⟨Tryz.call66⟩
noncomputable def c67 : Code := Tryz.f67.body.getD .skip
instance : FnI Tryz.prog 67 Tryz.f67 c67 13 := ⟨Tryz.func67, by kernel_rfl, Tryz.ntmps67⟩
instance : Enters Tryz.prog 67 := ⟨Tryz.call67⟩
noncomputable def c68 : Code := Tryz.f68.body.getD .skip
instance : FnI Tryz.prog 68 Tryz.f68 c68 47 := ⟨Tryz.func68, by kernel_rfl, Tryz.ntmps68⟩
instance : Enters Tryz.prog 68 := ⟨Tryz.call68⟩
noncomputable def c69 : Code := Tryz.f69.body.getD .skip
instance : FnI Tryz.prog 69 Tryz.f69 c69 143 := ⟨Tryz.func69, by kernel_rfl, Tryz.ntmps69⟩
instance : Enters Tryz.prog 69 := ⟨Tryz.call69⟩
noncomputable def c70 : Code := Tryz.f70.body.getD .skip
instance : FnI Tryz.prog 70 Tryz.f70 c70 20 := ⟨Tryz.func70, by kernel_rfl, Tryz.ntmps70⟩
instance : Enters Tryz.prog 70 := ⟨Tryz.call70⟩
noncomputable def c71 : Code := Tryz.f71.body.getD .skip
instance : FnI Tryz.prog 71 Tryz.f71 c71 22 := ⟨Tryz.func71, by kernel_rfl, Tryz.ntmps71⟩
instance : Enters Tryz.prog 71 := ⟨Tryz.call71⟩
noncomputable def c72 : Code := Tryz.f72.body.getD .skip
instance : FnI Tryz.prog 72 Tryz.f72 c72 64 := ⟨Tryz.func72, by kernel_rfl, Tryz.ntmps72⟩
instance : Enters Tryz.prog 72 := ⟨Tryz.call72⟩
noncomputable def c73 : Code := Tryz.f73.body.getD .skip
instance : FnI Tryz.prog 73 Tryz.f73 c73 28 := ⟨Tryz.func73, by kernel_rfl, Tryz.ntmps73⟩
instance : Enters Tryz.prog 73 := ⟨Tryz.call73⟩
noncomputable def c74 : Code := Tryz.f74.body.getD .skip
instance : FnI Tryz.prog 74 Tryz.f74 c74 27 := ⟨Tryz.func74, by kernel_rfl, Tryz.ntmps74⟩
instance : Enters Tryz.prog 74 := ⟨Tryz.call74⟩
noncomputable def c75 : Code := Tryz.f75.body.getD .skip
instance : FnI Tryz.prog 75 Tryz.f75 c75 36 := ⟨Tryz.func75, by kernel_rfl, Tryz.ntmps75⟩
instance : Enters Tryz.prog 75 := ⟨Tryz.call75⟩
noncomputable def c76 : Code := Tryz.f76.body.getD .skip
instance : FnI Tryz.prog 76 Tryz.f76 c76 51 := ⟨Tryz.func76, by kernel_rfl, Tryz.ntmps76⟩
instance : Enters Tryz.prog 76 := ⟨Tryz.call76⟩
noncomputable def c77 : Code := Tryz.f77.body.getD .skip
instance : FnI Tryz.prog 77 Tryz.f77 c77 26 := ⟨Tryz.func77, by kernel_rfl, Tryz.ntmps77⟩
instance : Enters Tryz.prog 77 := ⟨Tryz.call77⟩
noncomputable def c78 : Code := Tryz.f78.body.getD .skip
instance : FnI Tryz.prog 78 Tryz.f78 c78 27 := ⟨Tryz.func78, by kernel_rfl, Tryz.ntmps78⟩
instance : Enters Tryz.prog 78 := ⟨Tryz.call78⟩
noncomputable def c79 : Code := Tryz.f79.body.getD .skip
instance : FnI Tryz.prog 79 Tryz.f79 c79 8 := ⟨Tryz.func79, by kernel_rfl, Tryz.ntmps79⟩
instance : Enters Tryz.prog 79 := ⟨Tryz.call79⟩
noncomputable def c80 : Code := Tryz.f80.body.getD .skip
instance : FnI Tryz.prog 80 Tryz.f80 c80 18 := ⟨Tryz.func80, by kernel_rfl, Tryz.ntmps80⟩
instance : Enters Tryz.prog 80 := ⟨Tryz.call80⟩
noncomputable def c81 : Code := Tryz.f81.body.getD .skip
instance : FnI Tryz.prog 81 Tryz.f81 c81 9 := ⟨Tryz.func81, by kernel_rfl, Tryz.ntmps81⟩
instance : Enters Tryz.prog 81 := ⟨Tryz.call81⟩
noncomputable def c82 : Code := Tryz.f82.body.getD .skip
instance : FnI Tryz.prog 82 Tryz.f82 c82 7 := ⟨Tryz.func82, by kernel_rfl, Tryz.ntmps82⟩
instance : Enters Tryz.prog 82 := ⟨Tryz.call82⟩
noncomputable def c83 : Code := Tryz.f83.body.getD .skip
instance : FnI Tryz.prog 83 Tryz.f83 c83 15 := ⟨Tryz.func83, by kernel_rfl, Tryz.ntmps83⟩
instance : Enters Tryz.prog 83 := ⟨Tryz.call83⟩
noncomputable def c84 : Code := Tryz.f84.body.getD .skip
instance : FnI Tryz.prog 84 Tryz.f84 c84 15 := ⟨Tryz.func84, by kernel_rfl, Tryz.ntmps84⟩
instance : Enters Tryz.prog 84 := ⟨Tryz.call84⟩
noncomputable def c85 : Code := Tryz.f85.body.getD .skip
instance : FnI Tryz.prog 85 Tryz.f85 c85 40 := ⟨Tryz.func85, by kernel_rfl, Tryz.ntmps85⟩
instance : Enters Tryz.prog 85 := ⟨Tryz.call85⟩
noncomputable def c86 : Code := Tryz.f86.body.getD .skip
instance : FnI Tryz.prog 86 Tryz.f86 c86 16 := ⟨Tryz.func86, by kernel_rfl, Tryz.ntmps86⟩
instance : Enters Tryz.prog 86 := ⟨Tryz.call86⟩
noncomputable def c87 : Code := Tryz.f87.body.getD .skip
instance : FnI Tryz.prog 87 Tryz.f87 c87 11 := ⟨Tryz.func87, by kernel_rfl, Tryz.ntmps87⟩
instance : Enters Tryz.prog 87 := ⟨Tryz.call87⟩
noncomputable def c88 : Code := Tryz.f88.body.getD .skip
instance : FnI Tryz.prog 88 Tryz.f88 c88 19 := ⟨Tryz.func88, by kernel_rfl, Tryz.ntmps88⟩
instance : Enters Tryz.prog 88 := ⟨Tryz.call88⟩
noncomputable def c89 : Code := Tryz.f89.body.getD .skip
instance : FnI Tryz.prog 89 Tryz.f89 c89 38 := ⟨Tryz.func89, by kernel_rfl, Tryz.ntmps89⟩
instance : Enters Tryz.prog 89 := ⟨Tryz.call89⟩
noncomputable def c90 : Code := Tryz.f90.body.getD .skip
instance : FnI Tryz.prog 90 Tryz.f90 c90 13 := ⟨Tryz.func90, by kernel_rfl, Tryz.ntmps90⟩
instance : Enters Tryz.prog 90 := ⟨Tryz.call90⟩
noncomputable def c91 : Code := Tryz.f91.body.getD .skip
instance : FnI Tryz.prog 91 Tryz.f91 c91 31 := ⟨Tryz.func91, by kernel_rfl, Tryz.ntmps91⟩
instance : Enters Tryz.prog 91 := ⟨Tryz.call91⟩
noncomputable def c92 : Code := Tryz.f92.body.getD .skip
instance : FnI Tryz.prog 92 Tryz.f92 c92 19 := ⟨Tryz.func92, by kernel_rfl, Tryz.ntmps92⟩
instance : Enters Tryz.prog 92 := ⟨Tryz.call92⟩
noncomputable def c93 : Code := Tryz.f93.body.getD .skip
instance : FnI Tryz.prog 93 Tryz.f93 c93 46 := ⟨Tryz.func93, by kernel_rfl, Tryz.ntmps93⟩
instance : Enters Tryz.prog 93 := ⟨Tryz.call93⟩
noncomputable def c94 : Code := Tryz.f94.body.getD .skip
instance : FnI Tryz.prog 94 Tryz.f94 c94 12 := ⟨Tryz.func94, by kernel_rfl, Tryz.ntmps94⟩
instance : Enters Tryz.prog 94 := ⟨Tryz.call94⟩
noncomputable def c95 : Code := Tryz.f95.body.getD .skip
instance : FnI Tryz.prog 95 Tryz.f95 c95 6 := ⟨Tryz.func95, by kernel_rfl, Tryz.ntmps95⟩
instance : Enters Tryz.prog 95 := ⟨Tryz.call95⟩
noncomputable def c96 : Code := Tryz.f96.body.getD .skip
instance : FnI Tryz.prog 96 Tryz.f96 c96 19 := ⟨Tryz.func96, by kernel_rfl, Tryz.ntmps96⟩
instance : Enters Tryz.prog 96 := ⟨Tryz.call96⟩
noncomputable def c97 : Code := Tryz.f97.body.getD .skip
instance : FnI Tryz.prog 97 Tryz.f97 c97 9 := ⟨Tryz.func97, by kernel_rfl, Tryz.ntmps97⟩
instance : Enters Tryz.prog 97 := ⟨Tryz.call97⟩
noncomputable def c98 : Code := Tryz.f98.body.getD .skip
instance : FnI Tryz.prog 98 Tryz.f98 c98 9 := ⟨Tryz.func98, by kernel_rfl, Tryz.ntmps98⟩
instance : Enters Tryz.prog 98 := ⟨Tryz.call98⟩
noncomputable def c99 : Code := Tryz.f99.body.getD .skip
instance : FnI Tryz.prog 99 Tryz.f99 c99 6 := ⟨Tryz.func99, by kernel_rfl, Tryz.ntmps99⟩
instance : Enters Tryz.prog 99 := ⟨Tryz.call99⟩
noncomputable def c100 : Code := Tryz.f100.body.getD .skip
instance : FnI Tryz.prog 100 Tryz.f100 c100 6 := ⟨Tryz.func100, by kernel_rfl, Tryz.ntmps100⟩
instance : Enters Tryz.prog 100 := ⟨Tryz.call100⟩
noncomputable def c101 : Code := Tryz.f101.body.getD .skip
instance : FnI Tryz.prog 101 Tryz.f101 c101 15 := ⟨Tryz.func101, by kernel_rfl, Tryz.ntmps101⟩
instance : Enters Tryz.prog 101 := ⟨Tryz.call101⟩
noncomputable def c102 : Code := Tryz.f102.body.getD .skip
instance : FnI Tryz.prog 102 Tryz.f102 c102 22 := ⟨Tryz.func102, by kernel_rfl, Tryz.ntmps102⟩
instance : Enters Tryz.prog 102 := ⟨Tryz.call102⟩
noncomputable def c103 : Code := Tryz.f103.body.getD .skip
instance : FnI Tryz.prog 103 Tryz.f103 c103 22 := ⟨Tryz.func103, by kernel_rfl, Tryz.ntmps103⟩
instance : Enters Tryz.prog 103 := ⟨Tryz.call103⟩
noncomputable def c104 : Code := Tryz.f104.body.getD .skip
instance : FnI Tryz.prog 104 Tryz.f104 c104 20 := ⟨Tryz.func104, by kernel_rfl, Tryz.ntmps104⟩
instance : Enters Tryz.prog 104 := ⟨Tryz.call104⟩
noncomputable def c105 : Code := Tryz.f105.body.getD .skip
instance : FnI Tryz.prog 105 Tryz.f105 c105 11 := ⟨Tryz.func105, by kernel_rfl, Tryz.ntmps105⟩
instance : Enters Tryz.prog 105 := ⟨Tryz.call105⟩
noncomputable def c106 : Code := Tryz.f106.body.getD .skip
instance : FnI Tryz.prog 106 Tryz.f106 c106 9 := ⟨Tryz.func106, by kernel_rfl, Tryz.ntmps106⟩
instance : Enters Tryz.prog 106 := ⟨Tryz.call106⟩
noncomputable def c107 : Code := Tryz.f107.body.getD .skip
instance : FnI Tryz.prog 107 Tryz.f107 c107 6 := ⟨Tryz.func107, by kernel_rfl, Tryz.ntmps107⟩
instance : Enters Tryz.prog 107 := ⟨Tryz.call107⟩
noncomputable def c108 : Code := Tryz.f108.body.getD .skip
instance : FnI Tryz.prog 108 Tryz.f108 c108 13 := ⟨Tryz.func108, by kernel_rfl, Tryz.ntmps108⟩
instance : Enters Tryz.prog 108 := ⟨Tryz.call108⟩
noncomputable def c109 : Code := Tryz.f109.body.getD .skip
instance : FnI Tryz.prog 109 Tryz.f109 c109 13 := ⟨Tryz.func109, by kernel_rfl, Tryz.ntmps109⟩
instance : Enters Tryz.prog 109 := ⟨Tryz.call109⟩
noncomputable def c110 : Code := Tryz.f110.body.getD .skip
instance : FnI Tryz.prog 110 Tryz.f110 c110 8 := ⟨Tryz.func110, by kernel_rfl, Tryz.ntmps110⟩
instance : Enters Tryz.prog 110 := ⟨Tryz.call110⟩
noncomputable def c111 : Code := Tryz.f111.body.getD .skip
instance : FnI Tryz.prog 111 Tryz.f111 c111 27 := ⟨Tryz.func111, by kernel_rfl, Tryz.ntmps111⟩
instance : Enters Tryz.prog 111 := ⟨Tryz.call111⟩
noncomputable def c112 : Code := Tryz.f112.body.getD .skip
instance : FnI Tryz.prog 112 Tryz.f112 c112 21 := ⟨Tryz.func112, by kernel_rfl, Tryz.ntmps112⟩
instance : Enters Tryz.prog 112 := ⟨Tryz.call112⟩
noncomputable def c113 : Code := Tryz.f113.body.getD .skip
instance : FnI Tryz.prog 113 Tryz.f113 c113 14 := ⟨Tryz.func113, by kernel_rfl, Tryz.ntmps113⟩
instance : Enters Tryz.prog 113 := ⟨Tryz.call113⟩
noncomputable def c114 : Code := Tryz.f114.body.getD .skip
instance : FnI Tryz.prog 114 Tryz.f114 c114 35 := ⟨Tryz.func114, by kernel_rfl, Tryz.ntmps114⟩
instance : Enters Tryz.prog 114 := ⟨Tryz.call114⟩
noncomputable def c115 : Code := Tryz.f115.body.getD .skip
instance : FnI Tryz.prog 115 Tryz.f115 c115 6 := ⟨Tryz.func115, by kernel_rfl, Tryz.ntmps115⟩
instance : Enters Tryz.prog 115 := ⟨Tryz.call115⟩
noncomputable def c116 : Code := Tryz.f116.body.getD .skip
instance : FnI Tryz.prog 116 Tryz.f116 c116 19 := ⟨Tryz.func116, by kernel_rfl, Tryz.ntmps116⟩
instance : Enters Tryz.prog 116 := ⟨Tryz.call116⟩
noncomputable def c117 : Code := Tryz.f117.body.getD .skip
instance : FnI Tryz.prog 117 Tryz.f117 c117 13 := ⟨Tryz.func117, by kernel_rfl, Tryz.ntmps117⟩
instance : Enters Tryz.prog 117 := ⟨Tryz.call117⟩
noncomputable def c118 : Code := Tryz.f118.body.getD .skip
instance : FnI Tryz.prog 118 Tryz.f118 c118 21 := ⟨Tryz.func118, by kernel_rfl, Tryz.ntmps118⟩
instance : Enters Tryz.prog 118 := ⟨Tryz.call118⟩
noncomputable def c119 : Code := Tryz.f119.body.getD .skip
instance : FnI Tryz.prog 119 Tryz.f119 c119 6 := ⟨Tryz.func119, by kernel_rfl, Tryz.ntmps119⟩
instance : Enters Tryz.prog 119 := ⟨Tryz.call119⟩
noncomputable def c120 : Code := Tryz.f120.body.getD .skip
instance : FnI Tryz.prog 120 Tryz.f120 c120 22 := ⟨Tryz.func120, by kernel_rfl, Tryz.ntmps120⟩
instance : Enters Tryz.prog 120 := ⟨Tryz.call120⟩
noncomputable def c121 : Code := Tryz.f121.body.getD .skip
instance : FnI Tryz.prog 121 Tryz.f121 c121 75 := ⟨Tryz.func121, by kernel_rfl, Tryz.ntmps121⟩
instance : Enters Tryz.prog 121 := ⟨Tryz.call121⟩
noncomputable def c122 : Code := Tryz.f122.body.getD .skip
instance : FnI Tryz.prog 122 Tryz.f122 c122 5 := ⟨Tryz.func122, by kernel_rfl, Tryz.ntmps122⟩
instance : Enters Tryz.prog 122 := ⟨Tryz.call122⟩
noncomputable def c123 : Code := Tryz.f123.body.getD .skip
instance : FnI Tryz.prog 123 Tryz.f123 c123 14 := ⟨Tryz.func123, by kernel_rfl, Tryz.ntmps123⟩
instance : Enters Tryz.prog 123 := ⟨Tryz.call123⟩
noncomputable def c124 : Code := Tryz.f124.body.getD .skip
instance : FnI Tryz.prog 124 Tryz.f124 c124 19 := ⟨Tryz.func124, by kernel_rfl, Tryz.ntmps124⟩
instance : Enters Tryz.prog 124 := ⟨Tryz.call124⟩
noncomputable def c125 : Code := Tryz.f125.body.getD .skip
instance : FnI Tryz.prog 125 Tryz.f125 c125 6 := ⟨Tryz.func125, by kernel_rfl, Tryz.ntmps125⟩
instance : Enters Tryz.prog 125 := ⟨Tryz.call125⟩
noncomputable def c126 : Code := Tryz.f126.body.getD .skip
instance : FnI Tryz.prog 126 Tryz.f126 c126 13 := ⟨Tryz.func126, by kernel_rfl, Tryz.ntmps126⟩
instance : Enters Tryz.prog 126 := ⟨Tryz.call126⟩
noncomputable def c127 : Code := Tryz.f127.body.getD .skip
instance : FnI Tryz.prog 127 Tryz.f127 c127 19 := ⟨Tryz.func127, by kernel_rfl, Tryz.ntmps127⟩
instance : Enters Tryz.prog 127 := ⟨Tryz.call127⟩
noncomputable def c128 : Code := Tryz.f128.body.getD .skip
instance : FnI Tryz.prog 128 Tryz.f128 c128 9 := ⟨Tryz.func128, by kernel_rfl, Tryz.ntmps128⟩
instance : Enters Tryz.prog 128 := ⟨Tryz.call128⟩
noncomputable def c129 : Code := Tryz.f129.body.getD .skip
instance : FnI Tryz.prog 129 Tryz.f129 c129 9 := ⟨Tryz.func129, by kernel_rfl, Tryz.ntmps129⟩
instance : Enters Tryz.prog 129 := ⟨Tryz.call129⟩
noncomputable def c130 : Code := Tryz.f130.body.getD .skip
instance : FnI Tryz.prog 130 Tryz.f130 c130 66 := ⟨Tryz.func130, by kernel_rfl, Tryz.ntmps130⟩
instance : Enters Tryz.prog 130 := ⟨Tryz.call130⟩
noncomputable def c131 : Code := Tryz.f131.body.getD .skip
instance : FnI Tryz.prog 131 Tryz.f131 c131 114 := ⟨Tryz.func131, by kernel_rfl, Tryz.ntmps131⟩
instance : Enters Tryz.prog 131 := ⟨Tryz.call131⟩
noncomputable def c132 : Code := Tryz.f132.body.getD .skip
instance : FnI Tryz.prog 132 Tryz.f132 c132 50 := ⟨Tryz.func132, by kernel_rfl, Tryz.ntmps132⟩
instance : Enters Tryz.prog 132 := ⟨Tryz.call132⟩
noncomputable def c133 : Code := Tryz.f133.body.getD .skip
instance : FnI Tryz.prog 133 Tryz.f133 c133 61 := ⟨Tryz.func133, by kernel_rfl, Tryz.ntmps133⟩
instance : Enters Tryz.prog 133 := ⟨Tryz.call133⟩
noncomputable def c134 : Code := Tryz.f134.body.getD .skip
instance : FnI Tryz.prog 134 Tryz.f134 c134 25 := ⟨Tryz.func134, by kernel_rfl, Tryz.ntmps134⟩
instance : Enters Tryz.prog 134 := ⟨Tryz.call134⟩
noncomputable def c135 : Code := Tryz.f135.body.getD .skip
instance : FnI Tryz.prog 135 Tryz.f135 c135 19 := ⟨Tryz.func135, by kernel_rfl, Tryz.ntmps135⟩
instance : Enters Tryz.prog 135 := ⟨Tryz.call135⟩
noncomputable def c136 : Code := Tryz.f136.body.getD .skip
instance : FnI Tryz.prog 136 Tryz.f136 c136 14 := ⟨Tryz.func136, by kernel_rfl, Tryz.ntmps136⟩
instance : Enters Tryz.prog 136 := ⟨Tryz.call136⟩
noncomputable def c137 : Code := Tryz.f137.body.getD .skip
instance : FnI Tryz.prog 137 Tryz.f137 c137 13 := ⟨Tryz.func137, by kernel_rfl, Tryz.ntmps137⟩
instance : Enters Tryz.prog 137 := ⟨Tryz.call137⟩
noncomputable def c138 : Code := Tryz.f138.body.getD .skip
instance : FnI Tryz.prog 138 Tryz.f138 c138 148 := ⟨Tryz.func138, by kernel_rfl, Tryz.ntmps138⟩
instance : Enters Tryz.prog 138 := ⟨Tryz.call138⟩
noncomputable def c139 : Code := Tryz.f139.body.getD .skip
instance : FnI Tryz.prog 139 Tryz.f139 c139 8 := ⟨Tryz.func139, by kernel_rfl, Tryz.ntmps139⟩
instance : Enters Tryz.prog 139 := ⟨Tryz.call139⟩
noncomputable def c140 : Code := Tryz.f140.body.getD .skip
instance : FnI Tryz.prog 140 Tryz.f140 c140 50 := ⟨Tryz.func140, by kernel_rfl, Tryz.ntmps140⟩
instance : Enters Tryz.prog 140 := ⟨Tryz.call140⟩
noncomputable def c141 : Code := Tryz.f141.body.getD .skip
instance : FnI Tryz.prog 141 Tryz.f141 c141 34 := ⟨Tryz.func141, by kernel_rfl, Tryz.ntmps141⟩
instance : Enters Tryz.prog 141 := ⟨Tryz.call141⟩
noncomputable def c142 : Code := Tryz.f142.body.getD .skip
instance : FnI Tryz.prog 142 Tryz.f142 c142 8 := ⟨Tryz.func142, by kernel_rfl, Tryz.ntmps142⟩
instance : Enters Tryz.prog 142 := ⟨Tryz.call142⟩
noncomputable def c143 : Code := Tryz.f143.body.getD .skip
instance : FnI Tryz.prog 143 Tryz.f143 c143 13 := ⟨Tryz.func143, by kernel_rfl, Tryz.ntmps143⟩
instance : Enters Tryz.prog 143 := ⟨Tryz.call143⟩
noncomputable def c144 : Code := Tryz.f144.body.getD .skip
instance : FnI Tryz.prog 144 Tryz.f144 c144 22 := ⟨Tryz.func144, by kernel_rfl, Tryz.ntmps144⟩
instance : Enters Tryz.prog 144 := ⟨Tryz.call144⟩
noncomputable def c145 : Code := Tryz.f145.body.getD .skip
instance : FnI Tryz.prog 145 Tryz.f145 c145 121 := ⟨Tryz.func145, by kernel_rfl, Tryz.ntmps145⟩
instance : Enters Tryz.prog 145 := ⟨Tryz.call145⟩
noncomputable def c146 : Code := Tryz.f146.body.getD .skip
instance : FnI Tryz.prog 146 Tryz.f146 c146 9 := ⟨Tryz.func146, by kernel_rfl, Tryz.ntmps146⟩
instance : Enters Tryz.prog 146 := ⟨Tryz.call146⟩
noncomputable def c147 : Code := Tryz.f147.body.getD .skip
instance : FnI Tryz.prog 147 Tryz.f147 c147 8 := ⟨Tryz.func147, by kernel_rfl, Tryz.ntmps147⟩
instance : Enters Tryz.prog 147 := ⟨Tryz.call147⟩
noncomputable def c148 : Code := Tryz.f148.body.getD .skip
instance : FnI Tryz.prog 148 Tryz.f148 c148 20 := ⟨Tryz.func148, by kernel_rfl, Tryz.ntmps148⟩
instance : Enters Tryz.prog 148 := ⟨Tryz.call148⟩
noncomputable def c149 : Code := Tryz.f149.body.getD .skip
instance : FnI Tryz.prog 149 Tryz.f149 c149 30 := ⟨Tryz.func149, by kernel_rfl, Tryz.ntmps149⟩
instance : Enters Tryz.prog 149 := ⟨Tryz.call149⟩
noncomputable def c150 : Code := Tryz.f150.body.getD .skip
instance : FnI Tryz.prog 150 Tryz.f150 c150 53 := ⟨Tryz.func150, by kernel_rfl, Tryz.ntmps150⟩
instance : Enters Tryz.prog 150 := ⟨Tryz.call150⟩
noncomputable def c151 : Code := Tryz.f151.body.getD .skip
instance : FnI Tryz.prog 151 Tryz.f151 c151 60 := ⟨Tryz.func151, by kernel_rfl, Tryz.ntmps151⟩
instance : Enters Tryz.prog 151 := ⟨Tryz.call151⟩
noncomputable def c152 : Code := Tryz.f152.body.getD .skip
instance : FnI Tryz.prog 152 Tryz.f152 c152 67 := ⟨Tryz.func152, by kernel_rfl, Tryz.ntmps152⟩
instance : Enters Tryz.prog 152 := ⟨Tryz.call152⟩
noncomputable def c153 : Code := Tryz.f153.body.getD .skip
instance : FnI Tryz.prog 153 Tryz.f153 c153 63 := ⟨Tryz.func153, by kernel_rfl, Tryz.ntmps153⟩
instance : Enters Tryz.prog 153 := ⟨Tryz.call153⟩
noncomputable def c154 : Code := Tryz.f154.body.getD .skip
instance : FnI Tryz.prog 154 Tryz.f154 c154 34 := ⟨Tryz.func154, by kernel_rfl, Tryz.ntmps154⟩
instance : Enters Tryz.prog 154 := ⟨Tryz.call154⟩
noncomputable def c155 : Code := Tryz.f155.body.getD .skip
instance : FnI Tryz.prog 155 Tryz.f155 c155 141 := ⟨Tryz.func155, by kernel_rfl, Tryz.ntmps155⟩
instance : Enters Tryz.prog 155 := ⟨Tryz.call155⟩
noncomputable def c156 : Code := Tryz.f156.body.getD .skip
instance : FnI Tryz.prog 156 Tryz.f156 c156 90 := ⟨Tryz.func156, by kernel_rfl, Tryz.ntmps156⟩
instance : Enters Tryz.prog 156 := ⟨Tryz.call156⟩
noncomputable def c157 : Code := Tryz.f157.body.getD .skip
instance : FnI Tryz.prog 157 Tryz.f157 c157 178 := ⟨Tryz.func157, by kernel_rfl, Tryz.ntmps157⟩
instance : Enters Tryz.prog 157 := ⟨Tryz.call157⟩
noncomputable def c158 : Code := Tryz.f158.body.getD .skip
instance : FnI Tryz.prog 158 Tryz.f158 c158 19 := ⟨Tryz.func158, by kernel_rfl, Tryz.ntmps158⟩
instance : Enters Tryz.prog 158 := ⟨Tryz.call158⟩
noncomputable def c159 : Code := Tryz.f159.body.getD .skip
instance : FnI Tryz.prog 159 Tryz.f159 c159 25 := ⟨Tryz.func159, by kernel_rfl, Tryz.ntmps159⟩
instance : Enters Tryz.prog 159 := ⟨Tryz.call159⟩
noncomputable def c160 : Code := Tryz.f160.body.getD .skip
instance : FnI Tryz.prog 160 Tryz.f160 c160 10 := ⟨Tryz.func160, by kernel_rfl, Tryz.ntmps160⟩
instance : Enters Tryz.prog 160 := ⟨Tryz.call160⟩
noncomputable def c161 : Code := Tryz.f161.body.getD .skip
instance : FnI Tryz.prog 161 Tryz.f161 c161 19 := ⟨Tryz.func161, by kernel_rfl, Tryz.ntmps161⟩
instance : Enters Tryz.prog 161 := ⟨Tryz.call161⟩
noncomputable def c163 : Code := Tryz.f163.body.getD .skip
instance : FnI Tryz.prog 163 Tryz.f163 c163 143 := ⟨Tryz.func163, by kernel_rfl, Tryz.ntmps163⟩
instance : Enters Tryz.prog 163 := ⟨Tryz.call163⟩
noncomputable def c164 : Code := Tryz.f164.body.getD .skip
instance : FnI Tryz.prog 164 Tryz.f164 c164 42 := ⟨Tryz.func164, by kernel_rfl, Tryz.ntmps164⟩
instance : Enters Tryz.prog 164 := ⟨Tryz.call164⟩
noncomputable def c165 : Code := Tryz.f165.body.getD .skip
instance : FnI Tryz.prog 165 Tryz.f165 c165 5 := ⟨Tryz.func165, by kernel_rfl, Tryz.ntmps165⟩
instance : Enters Tryz.prog 165 := ⟨Tryz.call165⟩
noncomputable def c166 : Code := Tryz.f166.body.getD .skip
instance : FnI Tryz.prog 166 Tryz.f166 c166 19 := ⟨Tryz.func166, by kernel_rfl, Tryz.ntmps166⟩
instance : Enters Tryz.prog 166 := ⟨Tryz.call166⟩
noncomputable def c169 : Code := Tryz.f169.body.getD .skip
instance : FnI Tryz.prog 169 Tryz.f169 c169 82 := ⟨Tryz.func169, by kernel_rfl, Tryz.ntmps169⟩
instance : Enters Tryz.prog 169 := ⟨Tryz.call169⟩
noncomputable def c170 : Code := Tryz.f170.body.getD .skip
instance : FnI Tryz.prog 170 Tryz.f170 c170 7 := ⟨Tryz.func170, by kernel_rfl, Tryz.ntmps170⟩
instance : Enters Tryz.prog 170 := ⟨Tryz.call170⟩
noncomputable def c172 : Code := Tryz.f172.body.getD .skip
instance : FnI Tryz.prog 172 Tryz.f172 c172 18 := ⟨Tryz.func172, by kernel_rfl, Tryz.ntmps172⟩
instance : Enters Tryz.prog 172 := ⟨Tryz.call172⟩
noncomputable def c173 : Code := Tryz.f173.body.getD .skip
instance : FnI Tryz.prog 173 Tryz.f173 c173 41 := ⟨Tryz.func173, by kernel_rfl, Tryz.ntmps173⟩
instance : Enters Tryz.prog 173 := ⟨Tryz.call173⟩
noncomputable def c174 : Code := Tryz.f174.body.getD .skip
instance : FnI Tryz.prog 174 Tryz.f174 c174 117 := ⟨Tryz.func174, by kernel_rfl, Tryz.ntmps174⟩
instance : Enters Tryz.prog 174 := ⟨Tryz.call174⟩
noncomputable def c175 : Code := Tryz.f175.body.getD .skip
instance : FnI Tryz.prog 175 Tryz.f175 c175 8 := ⟨Tryz.func175, by kernel_rfl, Tryz.ntmps175⟩
instance : Enters Tryz.prog 175 := ⟨Tryz.call175⟩
noncomputable def c177 : Code := Tryz.f177.body.getD .skip
instance : FnI Tryz.prog 177 Tryz.f177 c177 6 := ⟨Tryz.func177, by kernel_rfl, Tryz.ntmps177⟩
instance : Enters Tryz.prog 177 := ⟨Tryz.call177⟩
noncomputable def c178 : Code := Tryz.f178.body.getD .skip
instance : FnI Tryz.prog 178 Tryz.f178 c178 81 := ⟨Tryz.func178, by kernel_rfl, Tryz.ntmps178⟩
instance : Enters Tryz.prog 178 := ⟨Tryz.call178⟩
noncomputable def c179 : Code := Tryz.f179.body.getD .skip
instance : FnI Tryz.prog 179 Tryz.f179 c179 32 := ⟨Tryz.func179, by kernel_rfl, Tryz.ntmps179⟩
instance : Enters Tryz.prog 179 := ⟨Tryz.call179⟩
noncomputable def c181 : Code := Tryz.f181.body.getD .skip
instance : FnI Tryz.prog 181 Tryz.f181 c181 39 := ⟨Tryz.func181, by kernel_rfl, Tryz.ntmps181⟩
instance : Enters Tryz.prog 181 := ⟨Tryz.call181⟩
noncomputable def c198 : Code := Tryz.f198.body.getD .skip
instance : FnI Tryz.prog 198 Tryz.f198 c198 19 := ⟨Tryz.func198, by kernel_rfl, Tryz.ntmps198⟩
instance : Enters Tryz.prog 198 := ⟨Tryz.call198⟩
noncomputable def c201 : Code := Tryz.f201.body.getD .skip
instance : FnI Tryz.prog 201 Tryz.f201 c201 10 := ⟨Tryz.func201, by kernel_rfl, Tryz.ntmps201⟩
instance : Enters Tryz.prog 201 := ⟨Tryz.call201⟩
noncomputable def c202 : Code := Tryz.f202.body.getD .skip
instance : FnI Tryz.prog 202 Tryz.f202 c202 10 := ⟨Tryz.func202, by kernel_rfl, Tryz.ntmps202⟩
instance : Enters Tryz.prog 202 := ⟨Tryz.call202⟩
noncomputable def c203 : Code := Tryz.f203.body.getD .skip
instance : FnI Tryz.prog 203 Tryz.f203 c203 17 := ⟨Tryz.func203, by kernel_rfl, Tryz.ntmps203⟩
instance : Enters Tryz.prog 203 := ⟨Tryz.call203⟩
noncomputable def c204 : Code := Tryz.f204.body.getD .skip
instance : FnI Tryz.prog 204 Tryz.f204 c204 7 := ⟨Tryz.func204, by kernel_rfl, Tryz.ntmps204⟩
instance : Enters Tryz.prog 204 := ⟨Tryz.call204⟩
noncomputable def c205 : Code := Tryz.f205.body.getD .skip
instance : FnI Tryz.prog 205 Tryz.f205 c205 5 := ⟨Tryz.func205, by kernel_rfl, Tryz.ntmps205⟩
instance : Enters Tryz.prog 205 := ⟨Tryz.call205⟩
noncomputable def c206 : Code := Tryz.f206.body.getD .skip
instance : FnI Tryz.prog 206 Tryz.f206 c206 7 := ⟨Tryz.func206, by kernel_rfl, Tryz.ntmps206⟩
instance : Enters Tryz.prog 206 := ⟨Tryz.call206⟩
noncomputable def c207 : Code := Tryz.f207.body.getD .skip
instance : FnI Tryz.prog 207 Tryz.f207 c207 8 := ⟨Tryz.func207, by kernel_rfl, Tryz.ntmps207⟩
instance : Enters Tryz.prog 207 := ⟨Tryz.call207⟩
noncomputable def c208 : Code := Tryz.f208.body.getD .skip
instance : FnI Tryz.prog 208 Tryz.f208 c208 12 := ⟨Tryz.func208, by kernel_rfl, Tryz.ntmps208⟩
instance : Enters Tryz.prog 208 := ⟨Tryz.call208⟩
noncomputable def c209 : Code := Tryz.f209.body.getD .skip
instance : FnI Tryz.prog 209 Tryz.f209 c209 7 := ⟨Tryz.func209, by kernel_rfl, Tryz.ntmps209⟩
instance : Enters Tryz.prog 209 := ⟨Tryz.call209⟩
end Go.Proofs.YtpbkphaceljclaaGreatDoor

/- cmp.Compare of integers. -/
namespace Go.Proofs.YtpbkphaceljclaaGreatDoor
open Go.RowKit

/-! ### cmp.Compare -/
theorem isNaN_cmp (x : Int) (w : World) : Ct Tryz.prog 125 [.int .i64 x] w fun v _ => v = .bool false := by
  refine Ct.ofW (by simp) ?_
  (refine jjB ?_; refine jjC ?_; apply jJ; exact eB rfl; refine jz ?_; refine jjB ?_; refine jjC ?_; apply jI; exact eI rfl; apply jI; exact eI rfl; refine jc rfl rfl ?_; apply jJ; exact eB rfl; refine jz ?_; refine jjF ?_; refine jB rfl rfl ⟨inferInstance, ?_⟩)
  exact congrArg Value.bool (by simp)
theorem Compare_int (x y : Int) (w : World) : Ct Tryz.prog 104 [.int .i64 x, .int .i64 y] w fun v _ => v = .int .i64 (if x < y then -1 else if y < x then 1 else 0) := by
  refine Ct.ofW (by simp) ?_
  (refine jjB ?_; refine jjC ?_; apply jJ; exact eI rfl; refine jz ?_; refine jjB ?_; refine jjC ?_; apply jI; exact eI rfl)
  refine jjQ (isNaN_cmp x _) rfl rfl ?_
  rintro _ w2 hS2 rfl
  (apply jJ; exact eB rfl; refine jz ?_; refine jjB ?_; refine jjC ?_; apply jI; exact eI rfl)
  refine jjQ (isNaN_cmp y _) rfl rfl ?_
  rintro _ w3 hS3 rfl
  repeat' (first|((first|apply jI|apply jJ); (first|exact eI rfl|exact eB rfl))|(refine jW ?_; (first|refine jX rfl rfl ?_|refine je rfl rfl ?_))|refine jz ?_|(refine jjA ?_; (first|refine jjB ?_|refine jjC ?_|refine jjF ?_|refine jjG ?_|refine jjK rfl ?_))|(refine jjA ?_; (refine jjN rfl ?_ ?_ <;> intro _))|refine jB rfl rfl ⟨inferInstance, ?_⟩)
  · rw [if_pos ‹_›]; exact rfl
  · rw [if_neg ‹_›, if_pos ‹_›]; exact rfl
  · rw [if_neg ‹_›, if_neg ‹_›]; exact rfl
end Go.Proofs.YtpbkphaceljclaaGreatDoor

/- The order of places: cmp.Or, slip.places; the reference: Before. -/
namespace Go.Proofs.YtpbkphaceljclaaGreatDoor
open Go.RowKit

abbrev Pl := Int × Int × Int
abbrev encPl (p : Pl) : Value := .agg #[.int .i64 p.1, .int .i64 p.2.1, .int .i64 p.2.2]
/-- The first number that is not 0. -/
def orF : List Int → Int
  | [] => 0
  | x :: l => if x = 0 then orF l else x
def cmp1 (x y : Int) : Int := if x < y then -1 else if y < x then 1 else 0
def cmpP (a b : Pl) : Int := orF [cmp1 a.1 b.1, cmp1 a.2.1 b.2.1, cmp1 a.2.2 b.2.2]
def befP (a b : Pl) : Bool := if a.1 ≠ b.1 then decide (a.1 < b.1) else if a.2.1 ≠ b.2.1 then decide (a.2.1 < b.2.1) else decide (a.2.2 < b.2.2)
theorem orF_drop {l : List Int} : ∀ {k : Nat}, (∀ (j : Nat) (hj : j < l.length), j < k → l[j] = 0) → orF l = orF (l.drop k) := by
  intro k
  induction k with
  | zero => intro _; rfl
  | succ k ih =>
    intro h
    rw [ih fun j hj hk => h j hj (by omega)]
    by_cases hk : k < l.length
    · rw [List.drop_eq_getElem_cons hk, orF, if_pos (h k hk (by omega))]
    · rw [List.drop_of_length_le (by omega), List.drop_of_length_le (by omega)]
theorem cmpP_neg (a b : Pl) : decide (cmpP a b < 0) = befP a b := by
  unfold cmpP befP orF orF orF orF cmp1
  repeat' split
  all_goals (first | rfl | (simp only [decide_eq_decide]; omega) | (exfalso; omega) | (simp; omega))
theorem cmpP_pos (a b : Pl) : decide (0 < cmpP a b) = befP b a := by
  unfold cmpP befP orF orF orF orF cmp1
  repeat' split
  all_goals (first | rfl | (simp only [decide_eq_decide]; omega) | (exfalso; omega) | (simp; omega))

theorem Or_int (a : Option Addr) (c n : Nat) (l : List Int) (w : World) (hn : l.length = n) (hrow : RowV w false 1 (.slice a n c) (l.map intV)) : Ct Tryz.prog 80 [.slice a n c] w fun v _ => v = .int .i64 (orF l) := by
  subst hn
  have hI : RowI w (.slice a l.length c) false 1 (l.map intV) := ⟨hrow⟩
  have hlen := hrow.len
  rw [List.length_map] at hlen
  refine Ct.ofW (by simp) ?_
  (refine jjB ?_; refine jjC ?_; apply jJ; exact eI rfl; refine jz ?_; refine jjB ?_; refine jjC ?_; apply jJ; exact eI rfl; refine jz ?_; refine jjB ?_; refine jjB ?_; refine jjC ?_; apply jI; exact eS rfl; refine jh rfl ?_; apply jI; exact eI rfl; refine jz ?_; refine jjD ?_)
  refine W.keep0 [(3, .int .i64 (0 : Int)), (6, .slice a l.length c), (7, .int .i64 ((l.length : Nat) : Int)), (8, .int .i64 ((0 : Nat) : Int))] ⟨eI rfl, eS rfl, eI rfl, eI rfl, trivial⟩ fun s0 => ?_
  refine W.loop (9 :: 10 :: 11 :: 5 :: 12 :: 13 :: 14 :: 15 :: 2 :: 16 :: 8 :: []) (fun g s' V => ∃ k : Nat, s' 8 = .int .i64 ((k : Nat) : Int) ∧ g = l.length - k ∧ k ≤ l.length ∧ ∀ (j : Nat) (hj : j < l.length), j < k → l[j] = 0) l.length ⟨0, rfl, rfl, Nat.zero_le _, by intros; omega⟩ ?_
  rintro _ sd w1 hS1 ⟨k, h8, rfl, hk, hpre⟩
  refine W.fix h8 ?_
  clear h8
  by_cases hkl : k < l.length
  · by_cases h0 : l[k] = 0
    · (refine jjB ?_; refine jjC ?_; refine jjZ rfl rfl (by omega) ?_; refine jz ?_; refine jjB ?_; refine jjJ rfl ?_; refine jjG ?_; refine jjB ?_; refine jjD ?_; refine jjB ?_; refine jjC ?_; refine jF rfl rfl rfl (map_get (by omega)) ?_; intro _ _ _; refine jQ rfl rfl ?_; apply jJ; exact eI rfl; refine jz ?_; refine jjB ?_; refine jjC ?_; apply jI; exact eI rfl; apply jI; exact eI rfl; refine jjk rfl rfl (by omega) ?_; refine jz ?_; refine jjK rfl ?_; refine jjG ?_; refine jjC ?_; refine jY rfl rfl (by omega) ?_; apply jI; exact eI rfl; refine jz ?_)
      refine ⟨rfl, by ((refine Same.upd rfl ?_; refine Same.upd rfl ?_; refine Same.upd rfl ?_; refine Same.upd rfl ?_; refine Same.upd rfl ?_; refine Same.upd rfl ?_; refine Same.upd rfl ?_; refine Same.upd rfl ?_; refine Same.upd rfl ?_; refine Same.upd rfl ?_; exact Same.ovN)), l.length - (k + 1), by omega, inferInstance, k + 1, congrArg (Value.int .i64) (by omega), rfl, by omega, fun j hj hjk => ?_⟩
      by_cases e : j = k
      · subst e; exact h0
      · exact hpre j hj (by omega)
    · (refine jjB ?_; refine jjC ?_; refine jjZ rfl rfl (by omega) ?_; refine jz ?_; refine jjB ?_; refine jjJ rfl ?_; refine jjG ?_; refine jjB ?_; refine jjD ?_; refine jjB ?_; refine jjC ?_; refine jF rfl rfl rfl (map_get (by omega)) ?_; intro _ _ _; refine jQ rfl rfl ?_; apply jJ; exact eI rfl; refine jz ?_; refine jjB ?_; refine jjC ?_; apply jI; exact eI rfl; apply jI; exact eI rfl; refine jjj rfl rfl (by omega) ?_; refine jz ?_; refine jjJ rfl ?_; refine jjB ?_; refine jjC ?_; apply jI; exact eI rfl; apply jJ; exact eI rfl; refine jz ?_; refine jjF ?_; refine jB rfl rfl ⟨inferInstance, ?_⟩)
      rw [orF_drop hpre, List.drop_eq_getElem_cons hkl, orF, if_neg h0]; exact rfl
  · (refine jjB ?_; refine jjC ?_; refine jja rfl rfl (by omega) ?_; refine jz ?_; refine jjB ?_; refine jjK rfl ?_; refine jjE ?_; refine jjB ?_; refine jjC ?_; apply jI; exact eI rfl; apply jJ; exact eI rfl; refine jz ?_; refine jjF ?_; refine jB rfl rfl ⟨inferInstance, ?_⟩)
    rw [orF_drop hpre, List.drop_of_length_le (by omega), orF]; exact rfl

theorem places_slip (a b : Pl) (w : World) : Ct Tryz.prog 71 [encPl a, encPl b] w fun v _ => v = .int .i64 (cmpP a b) := by
  refine Ct.ofW (by simp) ?_
  (refine jjB ?_; refine jjC ?_)
  (refine jy rfl ?_; intro b1 w_b1 hb_b1 hs_b1 hS_b1 hk_b1; have hA_b1 := At.ofBlock hk_b1)
  skip
  (refine jy rfl ?_; intro b2 w_b2 hb_b2 hs_b2 hS_b2 hk_b2; have hA_b2 := At.ofBlock hk_b2)
  (apply jJ; exact eI rfl; refine jz ?_; refine jjB ?_)
  refine W.draw (fun w' => Ext w_b2 w') ?_
  intro w1 hS1
  (refine jjV [0, 1, 2, 3, 5, 6, 7, 8, 10, 11, 12, 13] ?_ ?_ ?_; (decide +kernel); (exact hS1.ext); (((apply jjT; exact rfl; rintro w' hq; have := hq.toStep; refine jm ?_; refine jn rfl ?_; refine jz ?_; exact ⟨rfl, rfl⟩; apply jjT; exact rfl; rintro w' hq; have := hq.toStep; refine jN rfl rfl rfl ?_; refine jz ?_; exact ⟨rfl, rfl⟩; apply jjT; exact rfl; rintro w' hq; have := hq.toStep; refine jm ?_; refine jn rfl ?_; refine jz ?_; exact ⟨rfl, rfl⟩; apply jjT; exact rfl; rintro w' hq; have := hq.toStep; refine jN rfl rfl rfl ?_; refine jz ?_; exact ⟨rfl, rfl⟩; apply jjT; exact rfl; rintro w' hq; have := hq.toStep; refine jm ?_; refine jn rfl ?_; refine jz ?_; exact ⟨rfl, rfl⟩; apply jjT; exact rfl; rintro w' hq; have := hq.toStep; refine jN rfl rfl rfl ?_; refine jz ?_; exact ⟨rfl, rfl⟩; apply jjT; exact rfl; rintro w' hq; have := hq.toStep; refine jm ?_; refine jn rfl ?_; refine jz ?_; exact ⟨rfl, rfl⟩; apply jjT; exact rfl; rintro w' hq; have := hq.toStep; refine jN rfl rfl rfl ?_; refine jz ?_; exact ⟨rfl, rfl⟩; apply jjT; exact rfl; rintro w' hq; have := hq.toStep; refine jm ?_; refine jn rfl ?_; refine jz ?_; exact ⟨rfl, rfl⟩; apply jjT; exact rfl; rintro w' hq; have := hq.toStep; refine jN rfl rfl rfl ?_; refine jz ?_; exact ⟨rfl, rfl⟩; apply jjT; exact rfl; rintro w' hq; have := hq.toStep; refine jm ?_; refine jn rfl ?_; refine jz ?_; exact ⟨rfl, rfl⟩; apply jjT; exact rfl; rintro w' hq; have := hq.toStep; refine jN rfl rfl rfl ?_; refine jz ?_; exact ⟨rfl, rfl⟩; refine jjU ?_))))
  (apply jjW 4; (decide +kernel); exact rfl; (exact hS1.ext))
  refine jjQ (Compare_int _ _ _) rfl rfl ?_
  rintro _ w2 hS2 rfl
  refine jz ?_
  (apply jjW 9; (decide +kernel); exact rfl; (exact hS1.ext.trans hS2.ext))
  refine jjQ (Compare_int _ _ _) rfl rfl ?_
  rintro _ w3 hS3 rfl
  refine jz ?_
  (apply jjW 14; (decide +kernel); exact rfl; (exact (hS1.ext.trans hS2.ext).trans hS3.ext))
  refine jjQ (Compare_int _ _ _) rfl rfl ?_
  rintro _ w4 hS4 rfl
  refine jz ?_
  have hq2 : Ext w_b2 w4 := ((hS1.ext.trans hS2.ext).trans hS3.ext).trans hS4.ext
  (apply jjW 15; (decide +kernel); exact rfl; (exact hq2))
  refine Ops.buildSlice3 (v1 := .int .i64 (cmp1 a.1 b.1)) (v2 := .int .i64 (cmp1 a.2.1 b.2.1)) (v3 := .int .i64 (cmp1 a.2.2 b.2.2)) rfl rfl rfl rfl rfl rfl rfl ?_
  intro b3 w3 hb3 hs3 hS3 hk3
  refine jz ?_
  (apply jjW 16; (decide +kernel); exact rfl; (exact hq2.trans hS3.ext))
  have hr3 : RowV w3 false 1 (.slice (some ⟨b3, 0, none⟩) 3 3) ([cmp1 a.1 b.1, cmp1 a.2.1 b.2.1, cmp1 a.2.2 b.2.2].map intV) := hk3.row (fun x hx => by simp at hx; rcases hx with rfl | rfl | rfl <;> rfl) (by simp)
  refine jjQ (Or_int _ _ _ [cmp1 a.1 b.1, cmp1 a.2.1 b.2.1, cmp1 a.2.2 b.2.2] _ rfl hr3) rfl rfl ?_
  rintro _ w4 hS4 rfl
  refine jz ?_
  (apply jjW 17; (decide +kernel); exact rfl; (exact (hq2.trans hS3.ext).trans hS4.ext))
  (apply jJ; exact eI rfl; refine jz ?_)
  refine jjX (by decide +kernel) ((hq2.trans hS3.ext).trans hS4.ext) ?_
  (refine jjF ?_; refine jB rfl rfl ⟨inferInstance, ?_⟩)
  exact rfl
end Go.Proofs.YtpbkphaceljclaaGreatDoor

/- slices.IndexFunc, slices.ContainsFunc, at each element type that occurs. -/
namespace Go.Proofs.YtpbkphaceljclaaGreatDoor
open Go.RowKit

theorem IndexFunc_int {α : Type} (w : World) (v fv : Value) (enc : α → Value) (xs : List α) (p : α → Bool) (hrow : RowV w false 1 v (xs.map enc)) (hp : PredE Tryz.prog w fv enc xs p) :
    Ct Tryz.prog 92 [v, fv] w fun r _ => r = .int .i64 (idxV p xs) := by
  obtain ⟨a, c, rfl⟩ := hrow.slice
  obtain ⟨g, cap, rfl, hg, hp⟩ := hp.h
  have hlen := hrow.len
  rw [List.length_map] at hlen hrow ⊢
  refine Ct.ofW (by simp) ?_
  (refine jjB ?_; refine jjC ?_; apply jJ; exact eI rfl; refine jz ?_; refine jjB ?_; refine jjB ?_; refine jjC ?_; apply jI; exact eS rfl; refine jh rfl ?_; apply jI; exact eI rfl; refine jz ?_; refine jjD ?_)
  refine W.loop (9 :: 10 :: 5 :: 11 :: 12 :: 13 :: 14 :: 15 :: 16 :: 17 :: 4 :: 18 :: 8 :: []) (fun g s' _ => ∃ k : Nat, s' 8 = .int .i64 k ∧ g = xs.length - k ∧ k ≤ xs.length ∧ ∀ (j : Nat) (hj : j < xs.length), j < k → p xs[j] = false) xs.length ?_ ?_
  · exact ⟨0, rfl, by omega, by omega, by intros; omega⟩
  · rintro _ d w' hS ⟨k, h8, rfl, hk, hpre⟩
    refine W.fix h8 ?_
    repeat' (first|((first|apply jI|apply jJ); (first|exact eI rfl|exact eS rfl|exact eF rfl))|(refine jW ?_; refine jX rfl rfl ?_)|refine jz ?_|(refine jjA ?_; (first|refine jjB ?_|refine jjC ?_|refine jjD ?_|refine jjE ?_|refine jjF ?_|refine jjG ?_))|(refine jjA ?_; (refine jjN rfl ?_ ?_ <;> intro _))|refine jB rfl rfl ⟨inferInstance, ?_⟩)
    · have hk' : k < xs.length := by omega
      refine Ops.indexRow rfl rfl (hrow.ext inferInstance) rfl (map_get hk') ?_
      intro b o hA
      refine Ops.loadV rfl hA (by exact hrow.get (List.getElem_mem hk')) ?_
      refine jjQ (hp _ _ (List.getElem_mem hk') inferInstance) rfl rfl ?_
      rintro v w2 hS2 rfl
      repeat' (first|((first|apply jI|apply jJ); exact eI rfl)|(refine jW ?_; refine jY rfl rfl (by omega) ?_)|refine jz ?_|(refine jjA ?_; (first|refine jjB ?_|refine jjC ?_|refine jjF ?_|refine jjG ?_))|(refine jjA ?_; (refine jjO rfl ?_ ?_ <;> intro _))|refine jB rfl rfl ⟨inferInstance, ?_⟩)
      · exact congrArg _ (idxV_hit hk' ‹_› hpre).symm
      · refine ⟨rfl, by ((refine Same.upd rfl ?_; refine Same.upd rfl ?_; refine Same.upd rfl ?_; refine Same.upd rfl ?_; refine Same.upd rfl ?_; refine Same.upd rfl ?_; refine Same.upd rfl ?_; refine Same.upd rfl ?_; refine Same.upd rfl ?_; refine Same.upd rfl ?_; refine Same.upd rfl ?_; refine Same.upd rfl ?_; exact Same.ovN)), xs.length - (k + 1), by omega, inferInstance, k + 1, rfl, rfl, by omega, fun j hj hjk => ?_⟩
        by_cases e : j = k
        · subst e; assumption
        · exact hpre j hj (by omega)
    · exact congrArg _ (idxV_miss fun j hj => hpre j hj (by omega)).symm


theorem IndexFunc_Slip {α : Type} (w : World) (v fv : Value) (enc : α → Value) (xs : List α) (p : α → Bool) (hrow : RowV w true 6 v (xs.map enc)) (hp : PredE Tryz.prog w fv enc xs p) :
    Ct Tryz.prog 116 [v, fv] w fun r _ => r = .int .i64 (idxV p xs) := by
  obtain ⟨a, c, rfl⟩ := hrow.slice
  obtain ⟨g, cap, rfl, hg, hp⟩ := hp.h
  have hlen := hrow.len
  rw [List.length_map] at hlen hrow ⊢
  refine Ct.ofW (by simp) ?_
  (refine jjB ?_; refine jjC ?_; apply jJ; exact eI rfl; refine jz ?_; refine jjB ?_; refine jjB ?_; refine jjC ?_; apply jI; exact eS rfl; refine jh rfl ?_; apply jI; exact eI rfl; refine jz ?_; refine jjD ?_)
  refine W.loop (9 :: 10 :: 5 :: 11 :: 12 :: 13 :: 14 :: 15 :: 16 :: 17 :: 4 :: 18 :: 8 :: []) (fun g s' _ => ∃ k : Nat, s' 8 = .int .i64 k ∧ g = xs.length - k ∧ k ≤ xs.length ∧ ∀ (j : Nat) (hj : j < xs.length), j < k → p xs[j] = false) xs.length ?_ ?_
  · exact ⟨0, rfl, by omega, by omega, by intros; omega⟩
  · rintro _ d w' hS ⟨k, h8, rfl, hk, hpre⟩
    refine W.fix h8 ?_
    repeat' (first|((first|apply jI|apply jJ); (first|exact eI rfl|exact eS rfl|exact eF rfl))|(refine jW ?_; refine jX rfl rfl ?_)|refine jz ?_|(refine jjA ?_; (first|refine jjB ?_|refine jjC ?_|refine jjD ?_|refine jjE ?_|refine jjF ?_|refine jjG ?_))|(refine jjA ?_; (refine jjN rfl ?_ ?_ <;> intro _))|refine jB rfl rfl ⟨inferInstance, ?_⟩)
    · have hk' : k < xs.length := by omega
      refine Ops.indexRow rfl rfl (hrow.ext inferInstance) rfl (map_get hk') ?_
      intro b o hA
      refine Ops.loadV rfl hA (by exact hrow.get (List.getElem_mem hk')) ?_
      refine jjQ (hp _ _ (List.getElem_mem hk') inferInstance) rfl rfl ?_
      rintro v w2 hS2 rfl
      repeat' (first|((first|apply jI|apply jJ); exact eI rfl)|(refine jW ?_; refine jY rfl rfl (by omega) ?_)|refine jz ?_|(refine jjA ?_; (first|refine jjB ?_|refine jjC ?_|refine jjF ?_|refine jjG ?_))|(refine jjA ?_; (refine jjO rfl ?_ ?_ <;> intro _))|refine jB rfl rfl ⟨inferInstance, ?_⟩)
      · exact congrArg _ (idxV_hit hk' ‹_› hpre).symm
      · refine ⟨rfl, by ((refine Same.upd rfl ?_; refine Same.upd rfl ?_; refine Same.upd rfl ?_; refine Same.upd rfl ?_; refine Same.upd rfl ?_; refine Same.upd rfl ?_; refine Same.upd rfl ?_; refine Same.upd rfl ?_; refine Same.upd rfl ?_; refine Same.upd rfl ?_; refine Same.upd rfl ?_; refine Same.upd rfl ?_; exact Same.ovN)), xs.length - (k + 1), by omega, inferInstance, k + 1, rfl, rfl, by omega, fun j hj hjk => ?_⟩
        by_cases e : j = k
        · subst e; assumption
        · exact hpre j hj (by omega)
    · exact congrArg _ (idxV_miss fun j hj => hpre j hj (by omega)).symm


theorem IndexFunc_byte {α : Type} (w : World) (v fv : Value) (enc : α → Value) (xs : List α) (p : α → Bool) (hrow : RowV w false 1 v (xs.map enc)) (hp : PredE Tryz.prog w fv enc xs p) :
    Ct Tryz.prog 124 [v, fv] w fun r _ => r = .int .i64 (idxV p xs) := by
  obtain ⟨a, c, rfl⟩ := hrow.slice
  obtain ⟨g, cap, rfl, hg, hp⟩ := hp.h
  have hlen := hrow.len
  rw [List.length_map] at hlen hrow ⊢
  refine Ct.ofW (by simp) ?_
  (refine jjB ?_; refine jjC ?_; apply jJ; exact eI rfl; refine jz ?_; refine jjB ?_; refine jjB ?_; refine jjC ?_; apply jI; exact eS rfl; refine jh rfl ?_; apply jI; exact eI rfl; refine jz ?_; refine jjD ?_)
  refine W.loop (9 :: 10 :: 5 :: 11 :: 12 :: 13 :: 14 :: 15 :: 16 :: 17 :: 4 :: 18 :: 8 :: []) (fun g s' _ => ∃ k : Nat, s' 8 = .int .i64 k ∧ g = xs.length - k ∧ k ≤ xs.length ∧ ∀ (j : Nat) (hj : j < xs.length), j < k → p xs[j] = false) xs.length ?_ ?_
  · exact ⟨0, rfl, by omega, by omega, by intros; omega⟩
  · rintro _ d w' hS ⟨k, h8, rfl, hk, hpre⟩
    refine W.fix h8 ?_
    repeat' (first|((first|apply jI|apply jJ); (first|exact eI rfl|exact eS rfl|exact eF rfl))|(refine jW ?_; refine jX rfl rfl ?_)|refine jz ?_|(refine jjA ?_; (first|refine jjB ?_|refine jjC ?_|refine jjD ?_|refine jjE ?_|refine jjF ?_|refine jjG ?_))|(refine jjA ?_; (refine jjN rfl ?_ ?_ <;> intro _))|refine jB rfl rfl ⟨inferInstance, ?_⟩)
    · have hk' : k < xs.length := by omega
      refine Ops.indexRow rfl rfl (hrow.ext inferInstance) rfl (map_get hk') ?_
      intro b o hA
      refine Ops.loadV rfl hA (by exact hrow.get (List.getElem_mem hk')) ?_
      refine jjQ (hp _ _ (List.getElem_mem hk') inferInstance) rfl rfl ?_
      rintro v w2 hS2 rfl
      repeat' (first|((first|apply jI|apply jJ); exact eI rfl)|(refine jW ?_; refine jY rfl rfl (by omega) ?_)|refine jz ?_|(refine jjA ?_; (first|refine jjB ?_|refine jjC ?_|refine jjF ?_|refine jjG ?_))|(refine jjA ?_; (refine jjO rfl ?_ ?_ <;> intro _))|refine jB rfl rfl ⟨inferInstance, ?_⟩)
      · exact congrArg _ (idxV_hit hk' ‹_› hpre).symm
      · refine ⟨rfl, by ((refine Same.upd rfl ?_; refine Same.upd rfl ?_; refine Same.upd rfl ?_; refine Same.upd rfl ?_; refine Same.upd rfl ?_; refine Same.upd rfl ?_; refine Same.upd rfl ?_; refine Same.upd rfl ?_; refine Same.upd rfl ?_; refine Same.upd rfl ?_; refine Same.upd rfl ?_; refine Same.upd rfl ?_; exact Same.ovN)), xs.length - (k + 1), by omega, inferInstance, k + 1, rfl, rfl, by omega, fun j hj hjk => ?_⟩
        by_cases e : j = k
        · subst e; assumption
        · exact hpre j hj (by omega)
    · exact congrArg _ (idxV_miss fun j hj => hpre j hj (by omega)).symm


theorem IndexFunc_string {α : Type} (w : World) (v fv : Value) (enc : α → Value) (xs : List α) (p : α → Bool) (hrow : RowV w false 1 v (xs.map enc)) (hp : PredE Tryz.prog w fv enc xs p) :
    Ct Tryz.prog 127 [v, fv] w fun r _ => r = .int .i64 (idxV p xs) := by
  obtain ⟨a, c, rfl⟩ := hrow.slice
  obtain ⟨g, cap, rfl, hg, hp⟩ := hp.h
  have hlen := hrow.len
  rw [List.length_map] at hlen hrow ⊢
  refine Ct.ofW (by simp) ?_
  (refine jjB ?_; refine jjC ?_; apply jJ; exact eI rfl; refine jz ?_; refine jjB ?_; refine jjB ?_; refine jjC ?_; apply jI; exact eS rfl; refine jh rfl ?_; apply jI; exact eI rfl; refine jz ?_; refine jjD ?_)
  refine W.loop (9 :: 10 :: 5 :: 11 :: 12 :: 13 :: 14 :: 15 :: 16 :: 17 :: 4 :: 18 :: 8 :: []) (fun g s' _ => ∃ k : Nat, s' 8 = .int .i64 k ∧ g = xs.length - k ∧ k ≤ xs.length ∧ ∀ (j : Nat) (hj : j < xs.length), j < k → p xs[j] = false) xs.length ?_ ?_
  · exact ⟨0, rfl, by omega, by omega, by intros; omega⟩
  · rintro _ d w' hS ⟨k, h8, rfl, hk, hpre⟩
    refine W.fix h8 ?_
    repeat' (first|((first|apply jI|apply jJ); (first|exact eI rfl|exact eS rfl|exact eF rfl))|(refine jW ?_; refine jX rfl rfl ?_)|refine jz ?_|(refine jjA ?_; (first|refine jjB ?_|refine jjC ?_|refine jjD ?_|refine jjE ?_|refine jjF ?_|refine jjG ?_))|(refine jjA ?_; (refine jjN rfl ?_ ?_ <;> intro _))|refine jB rfl rfl ⟨inferInstance, ?_⟩)
    · have hk' : k < xs.length := by omega
      refine Ops.indexRow rfl rfl (hrow.ext inferInstance) rfl (map_get hk') ?_
      intro b o hA
      refine Ops.loadV rfl hA (by exact hrow.get (List.getElem_mem hk')) ?_
      refine jjQ (hp _ _ (List.getElem_mem hk') inferInstance) rfl rfl ?_
      rintro v w2 hS2 rfl
      repeat' (first|((first|apply jI|apply jJ); exact eI rfl)|(refine jW ?_; refine jY rfl rfl (by omega) ?_)|refine jz ?_|(refine jjA ?_; (first|refine jjB ?_|refine jjC ?_|refine jjF ?_|refine jjG ?_))|(refine jjA ?_; (refine jjO rfl ?_ ?_ <;> intro _))|refine jB rfl rfl ⟨inferInstance, ?_⟩)
      · exact congrArg _ (idxV_hit hk' ‹_› hpre).symm
      · refine ⟨rfl, by ((refine Same.upd rfl ?_; refine Same.upd rfl ?_; refine Same.upd rfl ?_; refine Same.upd rfl ?_; refine Same.upd rfl ?_; refine Same.upd rfl ?_; refine Same.upd rfl ?_; refine Same.upd rfl ?_; refine Same.upd rfl ?_; refine Same.upd rfl ?_; refine Same.upd rfl ?_; refine Same.upd rfl ?_; exact Same.ovN)), xs.length - (k + 1), by omega, inferInstance, k + 1, rfl, rfl, by omega, fun j hj hjk => ?_⟩
        by_cases e : j = k
        · subst e; assumption
        · exact hpre j hj (by omega)
    · exact congrArg _ (idxV_miss fun j hj => hpre j hj (by omega)).symm


theorem IndexFunc_Slstring {α : Type} (w : World) (v fv : Value) (enc : α → Value) (xs : List α) (p : α → Bool) (hrow : RowV w false 1 v (xs.map enc)) (hp : PredE Tryz.prog w fv enc xs p) :
    Ct Tryz.prog 166 [v, fv] w fun r _ => r = .int .i64 (idxV p xs) := by
  obtain ⟨a, c, rfl⟩ := hrow.slice
  obtain ⟨g, cap, rfl, hg, hp⟩ := hp.h
  have hlen := hrow.len
  rw [List.length_map] at hlen hrow ⊢
  refine Ct.ofW (by simp) ?_
  (refine jjB ?_; refine jjC ?_; apply jJ; exact eI rfl; refine jz ?_; refine jjB ?_; refine jjB ?_; refine jjC ?_; apply jI; exact eS rfl; refine jh rfl ?_; apply jI; exact eI rfl; refine jz ?_; refine jjD ?_)
  refine W.loop (9 :: 10 :: 5 :: 11 :: 12 :: 13 :: 14 :: 15 :: 16 :: 17 :: 4 :: 18 :: 8 :: []) (fun g s' _ => ∃ k : Nat, s' 8 = .int .i64 k ∧ g = xs.length - k ∧ k ≤ xs.length ∧ ∀ (j : Nat) (hj : j < xs.length), j < k → p xs[j] = false) xs.length ?_ ?_
  · exact ⟨0, rfl, by omega, by omega, by intros; omega⟩
  · rintro _ d w' hS ⟨k, h8, rfl, hk, hpre⟩
    refine W.fix h8 ?_
    repeat' (first|((first|apply jI|apply jJ); (first|exact eI rfl|exact eS rfl|exact eF rfl))|(refine jW ?_; refine jX rfl rfl ?_)|refine jz ?_|(refine jjA ?_; (first|refine jjB ?_|refine jjC ?_|refine jjD ?_|refine jjE ?_|refine jjF ?_|refine jjG ?_))|(refine jjA ?_; (refine jjN rfl ?_ ?_ <;> intro _))|refine jB rfl rfl ⟨inferInstance, ?_⟩)
    · have hk' : k < xs.length := by omega
      refine Ops.indexRow rfl rfl (hrow.ext inferInstance) rfl (map_get hk') ?_
      intro b o hA
      refine Ops.loadV rfl hA (by exact hrow.get (List.getElem_mem hk')) ?_
      refine jjQ (hp _ _ (List.getElem_mem hk') inferInstance) rfl rfl ?_
      rintro v w2 hS2 rfl
      repeat' (first|((first|apply jI|apply jJ); exact eI rfl)|(refine jW ?_; refine jY rfl rfl (by omega) ?_)|refine jz ?_|(refine jjA ?_; (first|refine jjB ?_|refine jjC ?_|refine jjF ?_|refine jjG ?_))|(refine jjA ?_; (refine jjO rfl ?_ ?_ <;> intro _))|refine jB rfl rfl ⟨inferInstance, ?_⟩)
      · exact congrArg _ (idxV_hit hk' ‹_› hpre).symm
      · refine ⟨rfl, by ((refine Same.upd rfl ?_; refine Same.upd rfl ?_; refine Same.upd rfl ?_; refine Same.upd rfl ?_; refine Same.upd rfl ?_; refine Same.upd rfl ?_; refine Same.upd rfl ?_; refine Same.upd rfl ?_; refine Same.upd rfl ?_; refine Same.upd rfl ?_; refine Same.upd rfl ?_; refine Same.upd rfl ?_; exact Same.ovN)), xs.length - (k + 1), by omega, inferInstance, k + 1, rfl, rfl, by omega, fun j hj hjk => ?_⟩
        by_cases e : j = k
        · subst e; assumption
        · exact hpre j hj (by omega)
    · exact congrArg _ (idxV_miss fun j hj => hpre j hj (by omega)).symm


theorem ContainsFunc_int {α : Type} (w : World) (v fv : Value) (enc : α → Value) (xs : List α) (p : α → Bool) (hrow : RowV w false 1 v (xs.map enc)) (hp : PredE Tryz.prog w fv enc xs p) :
    Ct Tryz.prog 56 [v, fv] w fun r _ => r = .bool (xs.any p) := by
  refine Ct.ofW (by simp) ?_
  (refine jjB ?_; refine jjC ?_; apply jJ; exact eB rfl; refine jz ?_; refine jjB ?_; refine jjC ?_; apply jI; exact rfl; apply jI; exact rfl)
  refine jjQ (IndexFunc_int _ _ _ enc _ _ (hrow.ext inferInstance) (hp.ext inferInstance)) rfl rfl ?_
  rintro _ w2 hS2 rfl
  (refine jf rfl rfl ?_; apply jJ; exact eB rfl; refine jz ?_; refine jjF ?_; refine jB rfl rfl ⟨inferInstance, ?_⟩)
  exact congrArg Value.bool (idxV_nonneg p xs)


theorem ContainsFunc_Slip {α : Type} (w : World) (v fv : Value) (enc : α → Value) (xs : List α) (p : α → Bool) (hrow : RowV w true 6 v (xs.map enc)) (hp : PredE Tryz.prog w fv enc xs p) :
    Ct Tryz.prog 81 [v, fv] w fun r _ => r = .bool (xs.any p) := by
  refine Ct.ofW (by simp) ?_
  (refine jjB ?_; refine jjC ?_; apply jJ; exact eB rfl; refine jz ?_; refine jjB ?_; refine jjC ?_; apply jI; exact rfl; apply jI; exact rfl)
  refine jjQ (IndexFunc_Slip _ _ _ enc _ _ (hrow.ext inferInstance) (hp.ext inferInstance)) rfl rfl ?_
  rintro _ w2 hS2 rfl
  (refine jf rfl rfl ?_; apply jJ; exact eB rfl; refine jz ?_; refine jjF ?_; refine jB rfl rfl ⟨inferInstance, ?_⟩)
  exact congrArg Value.bool (idxV_nonneg p xs)


theorem ContainsFunc_byte {α : Type} (w : World) (v fv : Value) (enc : α → Value) (xs : List α) (p : α → Bool) (hrow : RowV w false 1 v (xs.map enc)) (hp : PredE Tryz.prog w fv enc xs p) :
    Ct Tryz.prog 97 [v, fv] w fun r _ => r = .bool (xs.any p) := by
  refine Ct.ofW (by simp) ?_
  (refine jjB ?_; refine jjC ?_; apply jJ; exact eB rfl; refine jz ?_; refine jjB ?_; refine jjC ?_; apply jI; exact rfl; apply jI; exact rfl)
  refine jjQ (IndexFunc_byte _ _ _ enc _ _ (hrow.ext inferInstance) (hp.ext inferInstance)) rfl rfl ?_
  rintro _ w2 hS2 rfl
  (refine jf rfl rfl ?_; apply jJ; exact eB rfl; refine jz ?_; refine jjF ?_; refine jB rfl rfl ⟨inferInstance, ?_⟩)
  exact congrArg Value.bool (idxV_nonneg p xs)


theorem ContainsFunc_string {α : Type} (w : World) (v fv : Value) (enc : α → Value) (xs : List α) (p : α → Bool) (hrow : RowV w false 1 v (xs.map enc)) (hp : PredE Tryz.prog w fv enc xs p) :
    Ct Tryz.prog 106 [v, fv] w fun r _ => r = .bool (xs.any p) := by
  refine Ct.ofW (by simp) ?_
  (refine jjB ?_; refine jjC ?_; apply jJ; exact eB rfl; refine jz ?_; refine jjB ?_; refine jjC ?_; apply jI; exact rfl; apply jI; exact rfl)
  refine jjQ (IndexFunc_string _ _ _ enc _ _ (hrow.ext inferInstance) (hp.ext inferInstance)) rfl rfl ?_
  rintro _ w2 hS2 rfl
  (refine jf rfl rfl ?_; apply jJ; exact eB rfl; refine jz ?_; refine jjF ?_; refine jB rfl rfl ⟨inferInstance, ?_⟩)
  exact congrArg Value.bool (idxV_nonneg p xs)


theorem ContainsFunc_Slstring {α : Type} (w : World) (v fv : Value) (enc : α → Value) (xs : List α) (p : α → Bool) (hrow : RowV w false 1 v (xs.map enc)) (hp : PredE Tryz.prog w fv enc xs p) :
    Ct Tryz.prog 146 [v, fv] w fun r _ => r = .bool (xs.any p) := by
  refine Ct.ofW (by simp) ?_
  (refine jjB ?_; refine jjC ?_; apply jJ; exact eB rfl; refine jz ?_; refine jjB ?_; refine jjC ?_; apply jI; exact rfl; apply jI; exact rfl)
  refine jjQ (IndexFunc_Slstring _ _ _ enc _ _ (hrow.ext inferInstance) (hp.ext inferInstance)) rfl rfl ?_
  rintro _ w2 hS2 rfl
  (refine jf rfl rfl ?_; apply jJ; exact eB rfl; refine jz ?_; refine jjF ?_; refine jB rfl rfl ⟨inferInstance, ?_⟩)
  exact congrArg Value.bool (idxV_nonneg p xs)

end Go.Proofs.YtpbkphaceljclaaGreatDoor

/- in and word, of each package. -/
namespace Go.Proofs.YtpbkphaceljclaaGreatDoor
open Go.RowKit

theorem in1_leaf (n lo hi : Int) (b c : Nat) (w : World) [At w b 0 [.int .i64 lo]] [At w c 0 [.int .i64 hi]] :
    Ct Tryz.prog 126 [.int .i64 n, .pointer (some ⟨b, 0, none⟩), .pointer (some ⟨c, 0, none⟩)] w fun v _ => v = .bool (!inB lo hi n) := by
  refine Ct.ofW (by simp) ?_
  repeat' (first|((first|apply jI|apply jJ|apply jK rfl|apply jL rfl); (first|exact eI rfl|exact eB rfl))|(refine jM ?_; refine jN rfl rfl rfl ?_)|(refine jS ?_; (first|refine jT rfl rfl rfl ?_|refine jU rfl rfl rfl rfl ?_))|(refine jW ?_; (first|refine jX rfl rfl ?_|refine je rfl rfl ?_))|refine jz ?_|(refine jjA ?_; (first|refine jjB ?_|refine jjC ?_|refine jjF ?_))|(refine jS ?_; (refine jjL rfl rfl ?_ ?_ <;> intro _))|refine jB rfl rfl ⟨inferInstance, ?_⟩)
  · exact congrArg Value.bool (by simp only [inB, Bool.true_eq, Bool.not_eq_true', decide_eq_false_iff_not]; omega)
  · exact congrArg Value.bool (by rw [inB, ← decide_not, decide_eq_decide]; omega)

theorem in_leaf (lo hi : Int) (v : Value) (xs : List Int) (w : World) (hrow : RowV w false 1 v (xs.map (.int .i64))) :
    Ct Tryz.prog 105 [.int .i64 lo, .int .i64 hi, v] w fun r _ => r = .bool (xs.all (inB lo hi)) := by
  refine Ct.ofW (by simp) ?_
  (refine jjB ?_; refine jjC ?_)
  (refine jy rfl ?_; intro b1 w_b1 hb_b1 hs_b1 hS_b1 hk_b1; have hA_b1 := At.ofBlock hk_b1)
  (refine jy rfl ?_; intro b2 w_b2 hb_b2 hs_b2 hS_b2 hk_b2; have hA_b2 := At.ofBlock hk_b2)
  (apply jJ; exact eB rfl; refine jz ?_; refine jjB ?_; refine jjC ?_; apply jI; exact rfl; refine jv ?_)
  refine jjQ (ContainsFunc_int _ _ (.func (.func 126) #[] [.pointer (some ⟨b1, 0, none⟩), .pointer (some ⟨b2, 0, none⟩)].toArray) (.int .i64) xs (fun n => !inB lo hi n) (hrow.ext inferInstance) ?hp) rfl rfl ?_
  case hp =>
    refine ⟨_, _, rfl, inferInstance, fun w' y _ hs => ?_⟩
    have := hA_b2.ext hs
    have := (inferInstance : At w_b2 b1 0 _).ext hs
    exact in1_leaf y lo hi b1 b2 w'
  rintro _ w2 hS2 rfl
  (refine js rfl ?_; apply jJ; exact eB rfl; refine jz ?_; refine jjF ?_; refine jB rfl rfl ⟨inferInstance, ?_⟩)
  exact congrArg Value.bool (not_any_not _ xs)


theorem word1_leaf (n : Int) (w : World) : Ct Tryz.prog 128 [.int .u8 n] w fun v _ => v = .bool (decide (n < 97 ∨ 122 < n)) := by
  refine Ct.ofW (by simp) ?_
  repeat' (first|((first|apply jI|apply jJ|apply jK rfl|apply jL rfl); (first|exact eI rfl|exact eB rfl))|(refine jS ?_; (first|refine jT rfl rfl rfl ?_|refine jU rfl rfl rfl rfl ?_))|(refine jW ?_; (first|refine jX rfl rfl ?_|refine je rfl rfl ?_))|refine jz ?_|(refine jjA ?_; (first|refine jjB ?_|refine jjC ?_|refine jjF ?_))|(refine jS ?_; (refine jjL rfl rfl ?_ ?_ <;> intro _))|refine jB rfl rfl ⟨inferInstance, ?_⟩)
  · exact congrArg Value.bool (by simp only [Bool.true_eq, decide_eq_true_eq]; omega)
  · exact congrArg Value.bool (by rw [decide_eq_decide]; omega)

theorem word_leaf (s : ByteArray) (w : World) (hs : s.size ≤ 140737488351232) : Ct Tryz.prog 108 [.string s] w fun r _ => r = .bool (wordB s) := by
  refine Ct.ofW (by simp) ?_
  (refine jjB ?_; refine jjC ?_; apply jJ; exact eB rfl; refine jz ?_; refine jjB ?_; refine jjC ?_; apply jI; exact eT rfl; refine ji rfl ?_)
  (refine jjP (v := .int _ _) rfl (by exact rfl) (by exact rfl) (by exact rfl) (by exact rfl) ?_; intro b1 w_b1 hb_b1 hs_b1 hS_b1 hk_b1; have hR_b1 := RowV.one (agg := false) (k := 1) rfl hk_b1)
  refine jjQ (in_leaf 1 12 _ [(s.size : Int)] _ hR_b1) rfl rfl ?_
  rintro _ w2 hS2 rfl
  repeat' (first|((first|apply jI|apply jJ|apply jL rfl); (first|exact eB rfl|exact eT rfl))|(refine jS ?_; (first|refine jT rfl rfl rfl ?_|refine jU rfl rfl rfl rfl ?_))|refine jz ?_|(refine jjA ?_; refine jjF ?_)|(refine jS ?_; (refine jjM rfl rfl ?_ ?_ <;> intro _))|refine jB rfl rfl ⟨inferInstance, ?_⟩)
  · refine Ops.bytesOf rfl (by omega) ?_
    intro v w3 hS3 hR3
    (refine jT rfl rfl rfl ?_)
    refine jjQ (ContainsFunc_byte _ _ (.func (.func 128) #[] ([] : List Value).toArray) byteV s.data.toList (fun c => decide ((c.toNat : Int) < 97 ∨ 122 < (c.toNat : Int))) hR3 ?hp) rfl rfl ?_
    case hp =>
      exact ⟨_, _, rfl, inferInstance, fun w' y _ hs => word1_leaf _ w'⟩
    rintro _ w4 hS4 rfl
    (refine jT rfl rfl rfl ?_; refine js rfl ?_; apply jK rfl; exact eB rfl; apply jJ; exact eB rfl; refine jz ?_; refine jjF ?_; refine jB rfl rfl ⟨inferInstance, ?_⟩)
    exact congrArg Value.bool (word_yes s ‹_›)
  · exact congrArg Value.bool (word_no s ‹_›)


theorem in1_slip (n lo hi : Int) (b c : Nat) (w : World) [At w b 0 [.int .i64 lo]] [At w c 0 [.int .i64 hi]] :
    Ct Tryz.prog 117 [.int .i64 n, .pointer (some ⟨b, 0, none⟩), .pointer (some ⟨c, 0, none⟩)] w fun v _ => v = .bool (!inB lo hi n) := by
  refine Ct.ofW (by simp) ?_
  repeat' (first|((first|apply jI|apply jJ|apply jK rfl|apply jL rfl); (first|exact eI rfl|exact eB rfl))|(refine jM ?_; refine jN rfl rfl rfl ?_)|(refine jS ?_; (first|refine jT rfl rfl rfl ?_|refine jU rfl rfl rfl rfl ?_))|(refine jW ?_; (first|refine jX rfl rfl ?_|refine je rfl rfl ?_))|refine jz ?_|(refine jjA ?_; (first|refine jjB ?_|refine jjC ?_|refine jjF ?_))|(refine jS ?_; (refine jjL rfl rfl ?_ ?_ <;> intro _))|refine jB rfl rfl ⟨inferInstance, ?_⟩)
  · exact congrArg Value.bool (by simp only [inB, Bool.true_eq, Bool.not_eq_true', decide_eq_false_iff_not]; omega)
  · exact congrArg Value.bool (by rw [inB, ← decide_not, decide_eq_decide]; omega)

theorem in_slip (lo hi : Int) (v : Value) (xs : List Int) (w : World) (hrow : RowV w false 1 v (xs.map (.int .i64))) :
    Ct Tryz.prog 87 [.int .i64 lo, .int .i64 hi, v] w fun r _ => r = .bool (xs.all (inB lo hi)) := by
  refine Ct.ofW (by simp) ?_
  (refine jjB ?_; refine jjC ?_)
  (refine jy rfl ?_; intro b1 w_b1 hb_b1 hs_b1 hS_b1 hk_b1; have hA_b1 := At.ofBlock hk_b1)
  (refine jy rfl ?_; intro b2 w_b2 hb_b2 hs_b2 hS_b2 hk_b2; have hA_b2 := At.ofBlock hk_b2)
  (apply jJ; exact eB rfl; refine jz ?_; refine jjB ?_; refine jjC ?_; apply jI; exact rfl; refine jv ?_)
  refine jjQ (ContainsFunc_int _ _ (.func (.func 117) #[] [.pointer (some ⟨b1, 0, none⟩), .pointer (some ⟨b2, 0, none⟩)].toArray) (.int .i64) xs (fun n => !inB lo hi n) (hrow.ext inferInstance) ?hp) rfl rfl ?_
  case hp =>
    refine ⟨_, _, rfl, inferInstance, fun w' y _ hs => ?_⟩
    have := hA_b2.ext hs
    have := (inferInstance : At w_b2 b1 0 _).ext hs
    exact in1_slip y lo hi b1 b2 w'
  rintro _ w2 hS2 rfl
  (refine js rfl ?_; apply jJ; exact eB rfl; refine jz ?_; refine jjF ?_; refine jB rfl rfl ⟨inferInstance, ?_⟩)
  exact congrArg Value.bool (not_any_not _ xs)


theorem word1_slip (n : Int) (w : World) : Ct Tryz.prog 129 [.int .u8 n] w fun v _ => v = .bool (decide (n < 97 ∨ 122 < n)) := by
  refine Ct.ofW (by simp) ?_
  repeat' (first|((first|apply jI|apply jJ|apply jK rfl|apply jL rfl); (first|exact eI rfl|exact eB rfl))|(refine jS ?_; (first|refine jT rfl rfl rfl ?_|refine jU rfl rfl rfl rfl ?_))|(refine jW ?_; (first|refine jX rfl rfl ?_|refine je rfl rfl ?_))|refine jz ?_|(refine jjA ?_; (first|refine jjB ?_|refine jjC ?_|refine jjF ?_))|(refine jS ?_; (refine jjL rfl rfl ?_ ?_ <;> intro _))|refine jB rfl rfl ⟨inferInstance, ?_⟩)
  · exact congrArg Value.bool (by simp only [Bool.true_eq, decide_eq_true_eq]; omega)
  · exact congrArg Value.bool (by rw [decide_eq_decide]; omega)

theorem word_slip (s : ByteArray) (w : World) (hs : s.size ≤ 140737488351232) : Ct Tryz.prog 109 [.string s] w fun r _ => r = .bool (wordB s) := by
  refine Ct.ofW (by simp) ?_
  (refine jjB ?_; refine jjC ?_; apply jJ; exact eB rfl; refine jz ?_; refine jjB ?_; refine jjC ?_; apply jI; exact eT rfl; refine ji rfl ?_)
  (refine jjP (v := .int _ _) rfl (by exact rfl) (by exact rfl) (by exact rfl) (by exact rfl) ?_; intro b1 w_b1 hb_b1 hs_b1 hS_b1 hk_b1; have hR_b1 := RowV.one (agg := false) (k := 1) rfl hk_b1)
  refine jjQ (in_slip 1 12 _ [(s.size : Int)] _ hR_b1) rfl rfl ?_
  rintro _ w2 hS2 rfl
  repeat' (first|((first|apply jI|apply jJ|apply jL rfl); (first|exact eB rfl|exact eT rfl))|(refine jS ?_; (first|refine jT rfl rfl rfl ?_|refine jU rfl rfl rfl rfl ?_))|refine jz ?_|(refine jjA ?_; refine jjF ?_)|(refine jS ?_; (refine jjM rfl rfl ?_ ?_ <;> intro _))|refine jB rfl rfl ⟨inferInstance, ?_⟩)
  · refine Ops.bytesOf rfl (by omega) ?_
    intro v w3 hS3 hR3
    (refine jT rfl rfl rfl ?_)
    refine jjQ (ContainsFunc_byte _ _ (.func (.func 129) #[] ([] : List Value).toArray) byteV s.data.toList (fun c => decide ((c.toNat : Int) < 97 ∨ 122 < (c.toNat : Int))) hR3 ?hp) rfl rfl ?_
    case hp =>
      exact ⟨_, _, rfl, inferInstance, fun w' y _ hs => word1_slip _ w'⟩
    rintro _ w4 hS4 rfl
    (refine jT rfl rfl rfl ?_; refine js rfl ?_; apply jK rfl; exact eB rfl; apply jJ; exact eB rfl; refine jz ?_; refine jjF ?_; refine jB rfl rfl ⟨inferInstance, ?_⟩)
    exact congrArg Value.bool (word_yes s ‹_›)
  · exact congrArg Value.bool (word_no s ‹_›)


end Go.Proofs.YtpbkphaceljclaaGreatDoor

/- leaf: Check. -/
namespace Go.Proofs.YtpbkphaceljclaaGreatDoor
open Go.RowKit

theorem inOne_leaf (lo hi n : Int) (b : Nat) (B : Bool) (w : World) (hB : inB lo hi n = B) (hR : RowV w false 1 (.slice (some ⟨b, 0, none⟩) 1 1) [.int .i64 n]) : Ct Tryz.prog 105 [.int .i64 lo, .int .i64 hi, .slice (some ⟨b, 0, none⟩) 1 1] w fun v _ => v = .bool B :=
  (in_leaf lo hi _ [n] w hR).mono fun v _ _ e => e.trans (by rw [all_1, hB])
theorem Check1_leaf (s : ByteArray) (w : World) (hs : s.size ≤ 1000) : Ct Tryz.prog 107 [.string s] w fun v _ => v = .bool (!wordB s) := by
  refine Ct.ofW (by simp) ?_
  (refine jjB ?_; refine jjC ?_; apply jJ; exact eB rfl; refine jz ?_; refine jjB ?_; refine jjC ?_; apply jI; exact eT rfl)
  refine jjQ (word_leaf s _ (by omega)) rfl rfl ?_
  rintro _ w2 hS2 rfl
  (refine js rfl ?_; apply jJ; exact eB rfl; refine jz ?_; refine jjF ?_; refine jB rfl rfl ⟨inferInstance, ?_⟩)
  exact rfl
theorem not_words (l : List ByteArray) : l.any (fun s => !wordB s) = !l.all wordB := by
  rw [any_not]

section
variable (a : Option Addr) (c : Nat) (cs : List Ch) (w : World) [hrow : RowI w (.slice a cs.length c) true 2 (cs.map encCh)] [hT : TextI w cs]
set_option maxHeartbeats 4000000 in
theorem Check_leaf (hs : SmallT cs) : Ct Tryz.prog 72 [.agg #[.slice a cs.length c]] w fun v _ => v = .int .i64 (if textB (txF cs) then 0 else 10) := by
  have hs1 := hs.1
  refine Ct.ofW (by simp) ?_
  (refine jjB ?_; refine jjC ?_)
  (refine jy rfl ?_; intro b1 w_b1 hb_b1 hs_b1 hS_b1 hk_b1; have hA_b1 := At.ofBlock hk_b1)
  (apply jJ; exact eI rfl; refine jz ?_; refine jjH ?_; refine jjB ?_; refine jjB ?_; refine jjC ?_; refine jm ?_; refine jn rfl ?_; refine jN rfl rfl rfl ?_; refine jh rfl ?_)
  (refine jjP (v := .int _ _) rfl (by exact rfl) (by exact rfl) (by exact rfl) (by exact rfl) ?_; intro b2 w_b2 hb_b2 hs_b2 hS_b2 hk_b2; have hR_b2 := RowV.one (agg := false) (k := 1) rfl hk_b2)
  obtain ⟨B6, h6⟩ : ∃ B, inB 1 6 (cs.length : Int) = B := ⟨_, rfl⟩
  skip
  refine jjQ (inOne_leaf 1 6 (cs.length : Int) b2 B6 _ h6 hR_b2) rfl rfl ?_
  rintro _ w2 hS2 rfl
  cases B6
  · (refine jq rfl ?_; refine jz ?_; refine jjJ rfl ?_; refine jjB ?_; refine jjC ?_; apply jJ; exact eI rfl; refine jz ?_; refine jjF ?_; refine jB rfl rfl ⟨inferInstance, ?_⟩)
    rw [textB_len h6]; exact rfl
  (refine jp rfl ?_; refine jz ?_; refine jjK rfl ?_; refine jjG ?_; refine jjB ?_; refine jjC ?_; apply jJ; exact eI rfl; refine jz ?_; refine jjB ?_; refine jjC ?_)
  refine Ops.makeMap (Value.int .i64) ?_
  intro mb w3 hmb hs3 hS3 hM3
  (apply jJ; exact eM rfl; refine jz ?_; refine jjB ?_; refine jjI ?_; refine jjB ?_; refine jjB ?_; refine jjC ?_; refine jm ?_; refine jn rfl ?_; refine jN rfl rfl rfl ?_; refine jh rfl ?_; apply jI; exact eI rfl; refine jz ?_; refine jjD ?_)
  have hE3 : Ext w w3 := inferInstance
  have hT3 : TextI w3 cs := hT.ext hE3
  have hrow3 : RowV w3 true 2 (.slice a cs.length c) (cs.map encCh) := hrow.h.ext hE3
  have zmb : w.heap.size ≤ mb := by have := (inferInstance : Ext w w2).size; omega
  refine W.keep0 [(3, .int .i64 (0 : Int)), (4, .map (some mb)), (17, .slice a cs.length c), (18, .int .i64 ((cs.length : Nat) : Int)), (19, .int .i64 ((0 : Nat) : Int))] ⟨eI rfl, eM rfl, eS rfl, eI rfl, eI rfl, trivial⟩ fun s0 => ?_
  refine W.loopG (20 :: 21 :: 22 :: 6 :: 23 :: 24 :: 25 :: 26 :: 27 :: 28 :: 29 :: 30 :: 31 :: 32 :: 33 :: 34 :: 35 :: 36 :: 37 :: 38 :: 39 :: 40 :: 41 :: 2 :: 42 :: 43 :: 44 :: 45 :: 46 :: 47 :: 48 :: 49 :: 50 :: 51 :: 8 :: 52 :: 53 :: 54 :: 55 :: 56 :: 57 :: 58 :: 59 :: 60 :: 3 :: 61 :: 62 :: 19 :: []) (fun g s' V => ∃ (k : Nat) (m : List (Int × Value)), s' 19 = .int .i64 ((k : Nat) : Int) ∧ s' 3 = .int .i64 (0 : Int) ∧ g = cs.length - k ∧ k ≤ cs.length ∧ Only mb w3 V ∧ MapE (Value.int .i64) V mb m ∧ (∀ x : Int, mget m x = if x ∈ (cs.take k).map (·.1) then some (.bool true) else none) ∧ (∀ (j : Nat) (hj : j < cs.length), j < k → chapB (txC cs[j]) = true) ∧ ∀ (i j : Nat) (hij : i < j) (hj : j < cs.length), j < k → (cs[i]'(by omega)).1 ≠ cs[j].1) cs.length ⟨0, [], rfl, rfl, rfl, Nat.zero_le _, .ofExt (.refl _), hM3, fun x => by simp [mget], by intros; omega, by intros; omega⟩ ?_
  rintro _ sd V ⟨k, m, h19, h3, rfl, hk, hOn, hM, hmg, hpre, hid⟩
  refine W.fix h19 (W.fix (d := 3) h3 ?_)
  clear h19 h3
  have hEV : Ext w V := hOn.ext hE3 zmb
  by_cases hkc : k < cs.length
  rotate_left
  · obtain rfl : k = cs.length := by omega
    (refine jjB ?_; refine jjC ?_; refine jja rfl rfl (by omega) ?_; refine jz ?_; refine jjB ?_; refine jjK rfl ?_; refine jjE ?_; refine jjB ?_; refine jjC ?_; apply jI; exact eI rfl; apply jJ; exact eI rfl; refine jz ?_; refine jjF ?_; refine jB rfl rfl ⟨inferInstance, ?_⟩)
    rw [textB_yes h6 (fun j hj => hpre j hj hj) (fun i j hij hj => hid i j hij hj hj)]; exact rfl
  have hgk := List.getElem?_eq_getElem hkc
  have hsk := hs.2 _ (List.getElem_mem hkc)
  have hno : chapB (txC cs[k]) = false → textB (txF cs) = false := textB_chap hkc
  have hrV : RowI V (.slice a cs.length c) true 2 (cs.map encCh) := ⟨hrow.h.ext hEV⟩
  (refine jjB ?_; refine jjC ?_; refine jjZ rfl rfl (by omega) ?_; refine jz ?_; refine jjB ?_; refine jjJ rfl ?_; refine jjG ?_; refine jjB ?_; refine jjD ?_; refine jjB ?_; refine jjC ?_; refine jF rfl rfl rfl (map_get (by omega)) ?_; intro _ _ _; refine jQ rfl rfl ?_)
  (apply jjR rfl; (intro _; first|exact eI rfl|exact eB rfl|exact eP rfl|exact eS rfl|exact eT rfl|exact eA rfl|exact eU rfl|exact eF rfl|exact eM rfl|exact eN rfl|exact rfl); exact rfl; exact rfl; exact rfl; exact rfl; intro b6 w_b6 hb_b6 hs_b6 hS_b6 hk_b6; have hA_b6 := Bk.of hk_b6)
  (refine jz ?_; refine jjB ?_; refine jjB ?_; refine jjC ?_; refine jm ?_; refine jn rfl ?_; refine jN rfl rfl rfl ?_)
  (refine jjP (v := .int _ _) rfl (by exact rfl) (by exact rfl) (by exact rfl) (by exact rfl) ?_; intro b7 w_b7 hb_b7 hs_b7 hS_b7 hk_b7; have hR_b7 := RowV.one (agg := false) (k := 1) rfl hk_b7)
  obtain ⟨Bi, hi⟩ : ∃ B, inB 0 9999 cs[k].1 = B := ⟨_, rfl⟩
  skip
  refine jjQ (inOne_leaf 0 9999 cs[k].1 b7 Bi _ hi hR_b7) rfl rfl ?_
  rintro _ w8 hS8 rfl
  cases Bi
  · (refine jq rfl ?_; apply jI; exact eB rfl; refine jU rfl rfl rfl rfl ?_; refine jU rfl rfl rfl rfl ?_; refine jU rfl rfl rfl rfl ?_; refine jU rfl rfl rfl rfl ?_; apply jK rfl; exact eB rfl; apply jI; exact eB rfl; refine jU rfl rfl rfl rfl ?_; refine jU rfl rfl rfl rfl ?_; refine jU rfl rfl rfl rfl ?_; refine jU rfl rfl rfl rfl ?_; refine jU rfl rfl rfl rfl ?_; refine jU rfl rfl rfl rfl ?_; apply jK rfl; exact eB rfl; refine jz ?_; refine jjJ rfl ?_; refine jjB ?_; refine jjC ?_; apply jJ; exact eI rfl; refine jz ?_; refine jjF ?_; refine jB rfl rfl ⟨inferInstance, ?_⟩)
    rw [hno (chapB_id hi)]; exact rfl
  have hE8 : Ext V w8 := (hS_b6.ext.trans hS_b7.ext).trans hS8.ext
  have hM8 := hM.ext hE8
  (refine jp rfl ?_; apply jI; exact eB rfl; refine jT rfl rfl rfl ?_; apply jI; exact eM rfl; refine jT rfl rfl rfl ?_; refine jm ?_; refine jn rfl ?_; refine jT rfl rfl rfl ?_; refine jN rfl rfl rfl ?_; refine jT rfl rfl rfl ?_)
  refine Ops.lookup (k := cs[k].1) hM8 rfl rfl ?_
  by_cases hdup : cs[k].1 ∈ (cs.take k).map (·.1)
  · rw [hmg, if_pos hdup]
    have htb : textB (txF cs) = false := by
      obtain ⟨x, hx, hx2⟩ := List.mem_map.1 hdup
      obtain ⟨j, hj, rfl⟩ := List.mem_iff_getElem.1 hx
      rw [List.length_take] at hj
      rw [List.getElem_take] at hx2
      exact textB_dup (i := j) (by omega) hkc hx2
    (apply jL rfl; exact eB rfl; apply jI; exact eB rfl; refine jU rfl rfl rfl rfl ?_; refine jU rfl rfl rfl rfl ?_; refine jU rfl rfl rfl rfl ?_; refine jU rfl rfl rfl rfl ?_; refine jU rfl rfl rfl rfl ?_; refine jU rfl rfl rfl rfl ?_; apply jK rfl; exact eB rfl; refine jz ?_; refine jjJ rfl ?_; refine jjB ?_; refine jjC ?_; apply jJ; exact eI rfl; refine jz ?_; refine jjF ?_; refine jB rfl rfl ⟨inferInstance, ?_⟩)
    rw [htb]; exact rfl
  rw [hmg, if_neg hdup]
  (apply jL rfl; exact eB rfl; apply jI; exact eB rfl; refine jT rfl rfl rfl ?_; refine jm ?_; refine jn rfl ?_; refine jT rfl rfl rfl ?_; refine jN rfl rfl rfl ?_; refine jT rfl rfl rfl ?_; refine jh rfl ?_; refine jT rfl rfl rfl ?_)
  (refine jjP (v := .int _ _) rfl (by exact rfl) (by exact rfl) (by exact rfl) (by exact rfl) ?_; intro b9 w_b9 hb_b9 hs_b9 hS_b9 hk_b9; have hR_b9 := RowV.one (agg := false) (k := 1) rfl hk_b9)
  obtain ⟨Bl, hl⟩ : ∃ B, inB 1 10 (cs[k].2.2.2.length : Int) = B := ⟨_, rfl⟩
  (refine jT rfl rfl rfl ?_)
  refine jjQ (inOne_leaf 1 10 (cs[k].2.2.2.length : Int) b9 Bl _ hl hR_b9) rfl rfl ?_
  rintro _ w10 hS10 rfl
  cases Bl
  · (refine jT rfl rfl rfl ?_; refine jq rfl ?_; apply jL rfl; exact eB rfl; refine jz ?_; refine jjJ rfl ?_; refine jjB ?_; refine jjC ?_; apply jJ; exact eI rfl; refine jz ?_; refine jjF ?_; refine jB rfl rfl ⟨inferInstance, ?_⟩)
    rw [hno (chapB_len hl)]; exact rfl
  have hE10 : Ext V w10 := hE8.trans (hS_b9.ext.trans hS10.ext)
  (refine jT rfl rfl rfl ?_; refine jp rfl ?_; apply jL rfl; exact eB rfl; refine jz ?_; refine jjK rfl ?_; refine jjG ?_; refine jjB ?_; refine jjC ?_; apply jI; exact eM rfl; refine jm ?_; refine jn rfl ?_; refine jN rfl rfl rfl ?_)
  refine Ops.mapUpdate (k := cs[k].1) (hM.ext hE10) rfl rfl rfl ?_
  intro w11 o11 hp11 hM11
  have hOn11 : Only mb w3 w11 := (hOn.trans (.ofExt hE10)).trans (.ofPut hp11)
  have hE11 : Ext w w11 := hOn11.ext hE3 zmb
  have hne6 : b6 ≠ mb := by have := hM.lt; omega
  have hb6 : Bk w11 b6 [.int .i64 cs[k].1, .slice cs[k].2.1 cs[k].2.2.2.length cs[k].2.2.1] 63 := hp11.bk (((hA_b6.ext hS_b7.ext).ext hS8.ext).ext (hS_b9.ext.trans hS10.ext)) hne6
  have hmg11 : ∀ x : Int, mget (mset m cs[k].1 (.bool true)) x = if x ∈ (cs.take (k + 1)).map (·.1) then some (.bool true) else none := fun x => by
    rw [take_snoc_get hgk, List.map_append]
    by_cases e : x = cs[k].1
    · subst e; rw [mget_set_same, if_pos (by simp)]
    · rw [mget_set_other _ _ e, hmg]
      congr 1
      simp [e]
  have hidk : ∀ (j : Nat) (hj : j < k), (cs[j]'(by omega)).1 ≠ cs[k].1 := fun j hj he => hdup (List.mem_map.2 ⟨cs[j]'(by omega), List.mem_iff_getElem.2 ⟨j, by rw [List.length_take]; omega, by rw [List.getElem_take]⟩, he⟩)
  have hT11 : TextI w11 cs := hT.ext hE11
  clear hmg hdup hM8
  (refine jz ?_; refine jjB ?_; refine jjC ?_; refine jm ?_; refine jn rfl ?_; refine jN rfl rfl rfl ?_; refine jh rfl ?_; apply jI; exact eI rfl; refine jz ?_; refine jjD ?_)
  refine W.keep [(3, .int .i64 (0 : Int)), (4, .map (some mb)), (17, .slice a cs.length c), (18, .int .i64 ((cs.length : Nat) : Int)), (19, .int .i64 ((k : Nat) : Int)), (46, .slice cs[k].2.1 cs[k].2.2.2.length cs[k].2.2.1), (47, .int .i64 ((cs[k].2.2.2.length : Nat) : Int)), (48, .int .i64 ((0 : Nat) : Int))] (D := (20 :: 21 :: 22 :: 6 :: 23 :: 24 :: 25 :: 26 :: 27 :: 28 :: 29 :: 30 :: 31 :: 32 :: 33 :: 34 :: 35 :: 36 :: 37 :: 38 :: 39 :: 40 :: 41 :: 2 :: 42 :: 43 :: 44 :: 45 :: 46 :: 47 :: 48 :: 49 :: 50 :: 51 :: 8 :: 52 :: 53 :: 54 :: 55 :: 56 :: 57 :: 58 :: 59 :: 60 :: 3 :: 61 :: 62 :: 19 :: [])) (sO := upds s0 _) (by ((refine Same.upd rfl ?_; refine Same.upd rfl ?_; refine Same.upd rfl ?_; refine Same.upd rfl ?_; refine Same.upd rfl ?_; refine Same.upd rfl ?_; refine Same.upd rfl ?_; refine Same.upd rfl ?_; refine Same.upd rfl ?_; refine Same.upd rfl ?_; refine Same.upd rfl ?_; refine Same.upd rfl ?_; refine Same.upd rfl ?_; refine Same.upd rfl ?_; refine Same.upd rfl ?_; refine Same.upd rfl ?_; refine Same.upd rfl ?_; refine Same.upd rfl ?_; refine Same.upd rfl ?_; refine Same.upd rfl ?_; refine Same.upd rfl ?_; refine Same.upd rfl ?_; refine Same.upd rfl ?_; refine Same.upd rfl ?_; refine Same.upd rfl ?_; refine Same.upd rfl ?_; refine Same.upd rfl ?_; refine Same.upd rfl ?_; refine Same.upd rfl ?_; refine Same.upd rfl ?_; refine Same.upd rfl ?_; refine Same.upd rfl ?_; exact Same.ovN))) ⟨eI rfl, eM rfl, eS rfl, eI rfl, eI rfl, eS rfl, eI rfl, eI rfl, trivial⟩ fun s1 hs1' => ?_
  refine W.loop (49 :: 50 :: 51 :: 8 :: 52 :: 53 :: 54 :: 55 :: 56 :: 57 :: 58 :: 59 :: 60 :: 3 :: 61 :: 48 :: []) (fun g s' V => ∃ n : Nat, s' 48 = .int .i64 ((n : Nat) : Int) ∧ s' 3 = .int .i64 (0 : Int) ∧ g = cs[k].2.2.2.length - n ∧ n ≤ cs[k].2.2.2.length ∧ ∀ (j : Nat) (hj : j < cs[k].2.2.2.length), j < n → lineB cs[k].2.2.2[j].2.2 = true) cs[k].2.2.2.length ⟨0, rfl, rfl, rfl, Nat.zero_le _, by intros; omega⟩ ?_
  rintro _ sd2 w12 hS12 ⟨n, h48, h3', rfl, hn, hpre2⟩
  refine W.fix h48 (W.fix (d := 3) h3' ?_)
  clear h48 h3'
  by_cases hnl : n < cs[k].2.2.2.length
  rotate_left
  · have hyes := chapB_yes hi hl (fun j hj => hpre2 j hj (by omega))
    (refine jjB ?_; refine jjC ?_; refine jja rfl rfl (by omega) ?_; refine jz ?_; refine jjB ?_; refine jjK rfl ?_; refine jjE ?_; refine jjC ?_; refine jY rfl rfl (by omega) ?_; apply jI; exact eI rfl; refine jz ?_)
    refine ⟨rfl, by ((refine Same.upd rfl ?_; refine Same.upd rfl ?_; refine Same.upd rfl ?_; refine Same.upd rfl ?_; refine Same.upd rfl ?_; refine Same.ovN' rfl ?_; assumption)), cs.length - (k + 1), by omega, k + 1, _, congrArg (Value.int .i64) (by omega), rfl, rfl, by omega, hOn11.trans (.ofExt hS12.ext), hM11.ext hS12.ext, hmg11, fun j hj hjk => ?_, fun i' j hij hj hjk => ?_⟩
    · by_cases e : j = k
      · subst e; exact hyes
      · exact hpre j hj (by omega)
    · by_cases e : j = k
      · subst e; exact hidk i' hij
      · exact hid i' j hij hj (by omega)
  have hsn := hsk.2 _ (List.getElem_mem hnl)
  have hnoL : lineB cs[k].2.2.2[n].2.2 = false → textB (txF cs) = false := fun h => hno (chapB_line hnl h)
  have hT12 : TextI w12 cs := hT11.ext hS12.ext
  have hE12 : Ext w w12 := hE11.trans hS12.ext
  have i2 := hT12.line hkc
  have hLR := (hT12.word hkc hnl).h
  obtain ⟨Bn, hln⟩ : ∃ B, inB 1 10 (cs[k].2.2.2[n].2.2.length : Int) = B := ⟨_, rfl⟩
  (refine jjB ?_; refine jjC ?_; refine jjZ rfl rfl (by omega) ?_; refine jz ?_; refine jjB ?_; refine jjJ rfl ?_; refine jjG ?_; refine jjB ?_; refine jjD ?_; refine jjB ?_; refine jjC ?_; refine jF rfl rfl rfl (map_get (by omega)) ?_; intro _ _ _; refine jQ rfl rfl ?_; apply jJ; exact eS rfl; refine jz ?_; refine jjB ?_; refine jjC ?_; apply jI; exact eS rfl; refine jh rfl ?_)
  (refine jjP (v := .int _ _) rfl (by exact rfl) (by exact rfl) (by exact rfl) (by exact rfl) ?_; intro b13 w_b13 hb_b13 hs_b13 hS_b13 hk_b13; have hR_b13 := RowV.one (agg := false) (k := 1) rfl hk_b13)
  refine jjQ (inOne_leaf 1 10 (cs[k].2.2.2[n].2.2.length : Int) b13 Bn _ hln hR_b13) rfl rfl ?_
  rintro _ w14 hS14 rfl
  cases Bn
  · (refine jq rfl ?_; apply jI; exact eB rfl; refine jU rfl rfl rfl rfl ?_; refine jU rfl rfl rfl rfl ?_; apply jK rfl; exact eB rfl; refine jz ?_; refine jjJ rfl ?_; refine jjB ?_; refine jjC ?_; apply jJ; exact eI rfl; refine jz ?_; refine jjE ?_; refine jjB ?_; refine jjC ?_; apply jI; exact eI rfl; apply jJ; exact eI rfl; refine jz ?_; refine jjF ?_; refine jB rfl rfl ⟨inferInstance, ?_⟩)
    rw [hnoL (lineB_len hln)]; exact rfl
  have hE14 : Ext w12 w14 := hS_b13.ext.trans hS14.ext
  obtain ⟨Bw, hw⟩ : ∃ B, (cs[k].2.2.2[n].2.2).any (fun s => !wordB s) = B := ⟨_, rfl⟩
  (refine jp rfl ?_; apply jI; exact eB rfl; refine jT rfl rfl rfl ?_; apply jI; exact eS rfl; refine jT rfl rfl rfl ?_)
  refine jjQ ((ContainsFunc_string _ _ (.func (.func 107) #[] #[]) strV cs[k].2.2.2[n].2.2 (fun s => !wordB s) (hLR.ext hE14) ⟨_, [], rfl, inferInstance, fun w' x hx hs' => Check1_leaf x w' (hsn.2 x hx)⟩).mono fun v _ _ e => e.trans (by rw [hw])) rfl rfl ?_
  rintro _ w15 hS15 rfl
  rw [not_words] at hw
  cases Bw
  · have hyes : lineB cs[k].2.2.2[n].2.2 = true := by
      have : (cs[k].2.2.2[n].2.2).all wordB = true := by simpa using hw
      rw [lineB, hln, this]; rfl
    (apply jL rfl; exact eB rfl; refine jz ?_; refine jjK rfl ?_; refine jjG ?_; refine jjC ?_; refine jY rfl rfl (by omega) ?_; apply jI; exact eI rfl; refine jz ?_)
    refine ⟨rfl, by ((refine Same.upd rfl ?_; refine Same.upd rfl ?_; refine Same.upd rfl ?_; refine Same.upd rfl ?_; refine Same.upd rfl ?_; refine Same.upd rfl ?_; refine Same.upd rfl ?_; refine Same.upd rfl ?_; refine Same.upd rfl ?_; refine Same.upd rfl ?_; refine Same.upd rfl ?_; refine Same.upd rfl ?_; refine Same.upd rfl ?_; refine Same.upd rfl ?_; refine Same.upd rfl ?_; refine Same.upd rfl ?_; refine Same.upd rfl ?_; exact Same.ovN)), cs[k].2.2.2.length - (n + 1), by omega, inferInstance, n + 1, congrArg (Value.int .i64) (by omega), rfl, rfl, by omega, fun j hj hjk => ?_⟩
    by_cases e : j = n
    · subst e; exact hyes
    · exact hpre2 j hj (by omega)
  · have hbad : lineB cs[k].2.2.2[n].2.2 = false := by
      have : (cs[k].2.2.2[n].2.2).all wordB = false := by simpa using hw
      rw [lineB, this, Bool.and_false]
    (apply jL rfl; exact eB rfl; refine jz ?_; refine jjJ rfl ?_; refine jjB ?_; refine jjC ?_; apply jJ; exact eI rfl; refine jz ?_; refine jjE ?_; refine jjB ?_; refine jjC ?_; apply jI; exact eI rfl; apply jJ; exact eI rfl; refine jz ?_; refine jjF ?_; refine jB rfl rfl ⟨inferInstance, ?_⟩)
    rw [hnoL hbad]; exact rfl
end
end Go.Proofs.YtpbkphaceljclaaGreatDoor

/- The reference of leaf: Great. -/
namespace Go.Proofs.YtpbkphaceljclaaGreatDoor
open Go.RowKit

section
variable (a : Option Addr) (c : Nat) (cs : List Ch) (w : World) [hrow : RowI w (.slice a cs.length c) true 2 (cs.map encCh)] [hT : TextI w cs]
set_option maxHeartbeats 2000000 in
theorem Great_ref1 : Ct Tryz.prog 7 [.agg #[.slice a cs.length c]] w fun v _ => v = .bool (greatT (txF cs)) := by
  have hlen : (txF cs).length = cs.length := by simp [txF]
  refine Ct.ofW (by simp) ?_
  (refine jjB ?_; refine jjC ?_)
  (refine jy rfl ?_; intro b1 w_b1 hb_b1 hs_b1 hS_b1 hk_b1; have hA_b1 := At.ofBlock hk_b1)
  by_cases h10 : 10 < cs.length
  · (apply jJ; exact eB rfl; refine jz ?_; refine jjB ?_; refine jjB ?_; refine jjC ?_; refine jm ?_; refine jn rfl ?_; refine jN rfl rfl rfl ?_; refine jh rfl ?_; refine jjd rfl rfl (by omega) ?_; refine jz ?_; refine jjJ rfl ?_; refine jjB ?_; refine jjC ?_; apply jJ; exact eB rfl; refine jz ?_; refine jjF ?_; refine jB rfl rfl ⟨inferInstance, ?_⟩)
    have : greatT (txF cs) = true := by rw [greatT, hlen, decide_eq_true h10, Bool.true_or]
    rw [this]; exact rfl
  (apply jJ; exact eB rfl; refine jz ?_; refine jjB ?_; refine jjB ?_; refine jjC ?_; refine jm ?_; refine jn rfl ?_; refine jN rfl rfl rfl ?_; refine jh rfl ?_; refine jje rfl rfl (by omega) ?_; refine jz ?_; refine jjK rfl ?_; refine jjG ?_; refine jjB ?_; refine jjB ?_; refine jjC ?_; apply jJ; exact eI rfl; refine jz ?_; refine jjD ?_)
  have hC : ∀ (k : Nat) (hk : k < cs.length), greatC (cs[k].1, cs[k].2.2.2.map (·.2.2)) = true → greatT (txF cs) = true := fun k hk h => by
    have : (txF cs).any greatC = true := any_hit (k := k) (by rw [hlen]; exact hk) (by simpa [txF] using h)
    rw [greatT, this, Bool.or_true]
  refine W.keep0 [(1, .pointer (some ⟨b1, 0, none⟩)), (3, .int .i64 ((0 : Nat) : Int))] ⟨eP rfl, eI rfl, trivial⟩ fun s0 => ?_
  refine W.loop (10 :: 11 :: 12 :: 13 :: 14 :: 17 :: 18 :: 19 :: 20 :: 21 :: 22 :: 23 :: 24 :: 2 :: 4 :: 25 :: 26 :: 27 :: 28 :: 29 :: 30 :: 31 :: 32 :: 33 :: 36 :: 37 :: 38 :: 39 :: 40 :: 41 :: 42 :: 43 :: 44 :: 45 :: 46 :: 5 :: 47 :: 48 :: 49 :: 50 :: 51 :: 52 :: 53 :: 54 :: 55 :: 56 :: 57 :: 58 :: 61 :: 62 :: 63 :: 64 :: 65 :: 66 :: 67 :: 68 :: 69 :: 70 :: 71 :: 72 :: 73 :: 74 :: 59 :: 60 :: 34 :: 35 :: 15 :: 16 :: 3 :: []) (fun g s' V => ∃ k : Nat, s' 3 = .int .i64 ((k : Nat) : Int) ∧ g = cs.length - k ∧ k ≤ cs.length ∧ ∀ (j : Nat) (hj : j < cs.length), j < k → greatC (cs[j].1, cs[j].2.2.2.map (·.2.2)) = false) cs.length ⟨0, rfl, rfl, Nat.zero_le _, by intros; omega⟩ ?_
  rintro _ sd w1 hS1 ⟨k, h3, rfl, hk, hpre⟩
  refine W.fix h3 ?_
  clear h3
  by_cases hkc : k < cs.length
  rotate_left
  · obtain rfl : k = cs.length := by omega
    have : greatT (txF cs) = false := by
      have h1 : (txF cs).any greatC = false := any_miss fun j hj => by
        have hj' : j < cs.length := by rw [← hlen]; exact hj
        simpa [txF] using hpre j hj' hj'
      rw [greatT, h1, hlen, decide_eq_false h10]; rfl
    (refine jjB ?_; refine jjB ?_; refine jjC ?_; apply jI; exact eI rfl; refine jm ?_; refine jn rfl ?_; refine jN rfl rfl rfl ?_; refine jh rfl ?_; refine jja rfl rfl (by omega) ?_; refine jz ?_; refine jjK rfl ?_; refine jjE ?_; refine jjB ?_; refine jjC ?_; apply jJ; exact eB rfl; refine jz ?_; refine jjF ?_; refine jB rfl rfl ⟨inferInstance, ?_⟩)
    rw [this]; exact rfl
  have hTk : TextI w1 cs := inferInstance
  have i1 := hTk.line hkc
  have hCk := hC k hkc
  by_cases h15 : 15 < cs[k].2.2.2.length
  · (refine jjB ?_; refine jjB ?_; refine jjC ?_; apply jI; exact eI rfl; refine jm ?_; refine jn rfl ?_; refine jN rfl rfl rfl ?_; refine jh rfl ?_; refine jjZ rfl rfl (by omega) ?_; refine jz ?_; refine jjJ rfl ?_; refine jjG ?_; refine jjB ?_; refine jjD ?_; refine jjB ?_; refine jjB ?_; refine jjC ?_; refine jm ?_; refine jn rfl ?_; refine jN rfl rfl rfl ?_; apply jI; exact eI rfl; refine jF rfl rfl rfl (map_get (by omega)) ?_; intro _ _ _; refine jm ?_; refine jn rfl ?_; refine jP rfl rfl rfl ?_; refine jh rfl ?_; refine jjd rfl rfl (by omega) ?_; refine jz ?_; refine jjJ rfl ?_; refine jjB ?_; refine jjC ?_; apply jJ; exact eB rfl; refine jz ?_; refine jjF ?_; refine jB rfl rfl ⟨inferInstance, ?_⟩)
    rw [hCk (by rw [greatC, List.length_map, decide_eq_true h15, Bool.true_or])]; exact rfl
  (refine jjB ?_; refine jjB ?_; refine jjC ?_; apply jI; exact eI rfl; refine jm ?_; refine jn rfl ?_; refine jN rfl rfl rfl ?_; refine jh rfl ?_; refine jjZ rfl rfl (by omega) ?_; refine jz ?_; refine jjJ rfl ?_; refine jjG ?_; refine jjB ?_; refine jjD ?_; refine jjB ?_; refine jjB ?_; refine jjC ?_; refine jm ?_; refine jn rfl ?_; refine jN rfl rfl rfl ?_; apply jI; exact eI rfl; refine jF rfl rfl rfl (map_get (by omega)) ?_; intro _ _ _; refine jm ?_; refine jn rfl ?_; refine jP rfl rfl rfl ?_; refine jh rfl ?_; refine jje rfl rfl (by omega) ?_; refine jz ?_; refine jjK rfl ?_; refine jjG ?_; refine jjB ?_; refine jjC ?_; apply jJ; exact eI rfl; refine jz ?_; refine jjD ?_)
  refine W.keep [(1, .pointer (some ⟨b1, 0, none⟩)), (3, .int .i64 ((k : Nat) : Int)), (4, .int .i64 ((0 : Nat) : Int))] (D := (10 :: 11 :: 12 :: 13 :: 14 :: 17 :: 18 :: 19 :: 20 :: 21 :: 22 :: 23 :: 24 :: 2 :: 4 :: 25 :: 26 :: 27 :: 28 :: 29 :: 30 :: 31 :: 32 :: 33 :: 36 :: 37 :: 38 :: 39 :: 40 :: 41 :: 42 :: 43 :: 44 :: 45 :: 46 :: 5 :: 47 :: 48 :: 49 :: 50 :: 51 :: 52 :: 53 :: 54 :: 55 :: 56 :: 57 :: 58 :: 61 :: 62 :: 63 :: 64 :: 65 :: 66 :: 67 :: 68 :: 69 :: 70 :: 71 :: 72 :: 73 :: 74 :: 59 :: 60 :: 34 :: 35 :: 15 :: 16 :: 3 :: [])) (sO := upds s0 _) (by ((refine Same.upd rfl ?_; refine Same.upd rfl ?_; refine Same.upd rfl ?_; refine Same.upd rfl ?_; refine Same.upd rfl ?_; refine Same.upd rfl ?_; refine Same.upd rfl ?_; refine Same.upd rfl ?_; refine Same.upd rfl ?_; refine Same.upd rfl ?_; refine Same.upd rfl ?_; refine Same.upd rfl ?_; refine Same.upd rfl ?_; refine Same.upd rfl ?_; refine Same.upd rfl ?_; exact Same.ovN))) ⟨eP rfl, eI rfl, eI rfl, trivial⟩ fun s1 hs1 => ?_
  refine W.loop (25 :: 26 :: 27 :: 28 :: 29 :: 30 :: 31 :: 32 :: 33 :: 36 :: 37 :: 38 :: 39 :: 40 :: 41 :: 42 :: 43 :: 44 :: 45 :: 46 :: 2 :: 5 :: 47 :: 48 :: 49 :: 50 :: 51 :: 52 :: 53 :: 54 :: 55 :: 56 :: 57 :: 58 :: 61 :: 62 :: 63 :: 64 :: 65 :: 66 :: 67 :: 68 :: 69 :: 70 :: 71 :: 72 :: 73 :: 74 :: 59 :: 60 :: 34 :: 35 :: 4 :: []) (fun g s' V => ∃ n : Nat, s' 4 = .int .i64 ((n : Nat) : Int) ∧ g = cs[k].2.2.2.length - n ∧ n ≤ cs[k].2.2.2.length ∧ ∀ (j : Nat) (hj : j < cs[k].2.2.2.length), j < n → greatL cs[k].2.2.2[j].2.2 = false) cs[k].2.2.2.length ⟨0, rfl, rfl, Nat.zero_le _, by intros; omega⟩ ?_
  rintro _ sd2 w2 hS2 ⟨n, h4, rfl, hn, hpre2⟩
  refine W.fix h4 ?_
  clear h4
  by_cases hnl : n < cs[k].2.2.2.length
  rotate_left
  · have hne : n = cs[k].2.2.2.length := by omega
    have hCf : greatC (cs[k].1, cs[k].2.2.2.map (·.2.2)) = false := by
      have h1 : (cs[k].2.2.2.map (·.2.2)).any greatL = false := any_miss fun j hj => by
        rw [List.length_map] at hj
        rw [List.getElem_map]
        exact hpre2 j hj (by omega)
      rw [greatC, h1, List.length_map, decide_eq_false h15]; rfl
    (refine jjB ?_; refine jjB ?_; refine jjC ?_; apply jI; exact eI rfl; refine jm ?_; refine jn rfl ?_; refine jN rfl rfl rfl ?_; apply jI; exact eI rfl; refine jF rfl rfl rfl (map_get (by omega)) ?_; intro _ _ _; refine jm ?_; refine jn rfl ?_; refine jP rfl rfl rfl ?_; refine jh rfl ?_; refine jja rfl rfl (by omega) ?_; refine jz ?_; refine jjK rfl ?_; refine jjE ?_; refine jjC ?_; apply jI; exact eI rfl; refine jY rfl rfl (by omega) ?_; apply jJ; exact eI rfl; refine jz ?_)
    refine ⟨rfl, by ((refine Same.upd rfl ?_; refine Same.upd rfl ?_; refine Same.upd rfl ?_; refine Same.upd rfl ?_; refine Same.upd rfl ?_; refine Same.upd rfl ?_; refine Same.upd rfl ?_; refine Same.upd rfl ?_; refine Same.upd rfl ?_; refine Same.upd rfl ?_; refine Same.upd rfl ?_; refine Same.upd rfl ?_; refine Same.upd rfl ?_; refine Same.ovN' rfl ?_; assumption)), cs.length - (k + 1), by omega, inferInstance, k + 1, congrArg (Value.int .i64) (by omega), rfl, by omega, fun j hj hjk => ?_⟩
    by_cases e : j = k
    · subst e; exact hCf
    · exact hpre j hj (by omega)
  have hTk2 : TextI w2 cs := inferInstance
  have i2 := hTk2.line hkc
  have i3 := hTk2.word hkc hnl
  have hLk : greatL cs[k].2.2.2[n].2.2 = true → greatT (txF cs) = true := fun h => hCk (by
    have : (cs[k].2.2.2.map (·.2.2)).any greatL = true := any_hit (k := n) (by rw [List.length_map]; exact hnl) (by rw [List.getElem_map]; exact h)
    rw [greatC, this, Bool.or_true])
  by_cases h15' : 15 < cs[k].2.2.2[n].2.2.length
  · (refine jjB ?_; refine jjB ?_; refine jjC ?_; apply jI; exact eI rfl; refine jm ?_; refine jn rfl ?_; refine jN rfl rfl rfl ?_; apply jI; exact eI rfl; refine jF rfl rfl rfl (map_get (by omega)) ?_; intro _ _ _; refine jm ?_; refine jn rfl ?_; refine jP rfl rfl rfl ?_; refine jh rfl ?_; refine jjZ rfl rfl (by omega) ?_; refine jz ?_; refine jjJ rfl ?_; refine jjG ?_; refine jjB ?_; refine jjD ?_; refine jjB ?_; refine jjB ?_; refine jjC ?_; refine jm ?_; refine jn rfl ?_; refine jN rfl rfl rfl ?_; apply jI; exact eI rfl; refine jF rfl rfl rfl (map_get (by omega)) ?_; intro _ _ _; refine jm ?_; refine jn rfl ?_; refine jP rfl rfl rfl ?_; apply jI; exact eI rfl; refine jF rfl rfl rfl (map_get (by omega)) ?_; intro _ _ _; refine jQ rfl rfl ?_; refine jh rfl ?_; refine jjd rfl rfl (by omega) ?_; refine jz ?_; refine jjJ rfl ?_; refine jjB ?_; refine jjC ?_; apply jJ; exact eB rfl; refine jz ?_; refine jjF ?_; refine jB rfl rfl ⟨inferInstance, ?_⟩)
    rw [hLk (by rw [greatL, decide_eq_true h15', Bool.true_or])]; exact rfl
  (refine jjB ?_; refine jjB ?_; refine jjC ?_; apply jI; exact eI rfl; refine jm ?_; refine jn rfl ?_; refine jN rfl rfl rfl ?_; apply jI; exact eI rfl; refine jF rfl rfl rfl (map_get (by omega)) ?_; intro _ _ _; refine jm ?_; refine jn rfl ?_; refine jP rfl rfl rfl ?_; refine jh rfl ?_; refine jjZ rfl rfl (by omega) ?_; refine jz ?_; refine jjJ rfl ?_; refine jjG ?_; refine jjB ?_; refine jjD ?_; refine jjB ?_; refine jjB ?_; refine jjC ?_; refine jm ?_; refine jn rfl ?_; refine jN rfl rfl rfl ?_; apply jI; exact eI rfl; refine jF rfl rfl rfl (map_get (by omega)) ?_; intro _ _ _; refine jm ?_; refine jn rfl ?_; refine jP rfl rfl rfl ?_; apply jI; exact eI rfl; refine jF rfl rfl rfl (map_get (by omega)) ?_; intro _ _ _; refine jQ rfl rfl ?_; refine jh rfl ?_; refine jje rfl rfl (by omega) ?_; refine jz ?_; refine jjK rfl ?_; refine jjG ?_; refine jjB ?_; refine jjC ?_; apply jJ; exact eI rfl; refine jz ?_; refine jjD ?_)
  refine W.keep [(1, .pointer (some ⟨b1, 0, none⟩)), (3, .int .i64 ((k : Nat) : Int)), (4, .int .i64 ((n : Nat) : Int)), (5, .int .i64 ((0 : Nat) : Int))] (D := (25 :: 26 :: 27 :: 28 :: 29 :: 30 :: 31 :: 32 :: 33 :: 36 :: 37 :: 38 :: 39 :: 40 :: 41 :: 42 :: 43 :: 44 :: 45 :: 46 :: 2 :: 5 :: 47 :: 48 :: 49 :: 50 :: 51 :: 52 :: 53 :: 54 :: 55 :: 56 :: 57 :: 58 :: 61 :: 62 :: 63 :: 64 :: 65 :: 66 :: 67 :: 68 :: 69 :: 70 :: 71 :: 72 :: 73 :: 74 :: 59 :: 60 :: 34 :: 35 :: 4 :: [])) (sO := upds s1 _) (by ((refine Same.upd rfl ?_; refine Same.upd rfl ?_; refine Same.upd rfl ?_; refine Same.upd rfl ?_; refine Same.upd rfl ?_; refine Same.upd rfl ?_; refine Same.upd rfl ?_; refine Same.upd rfl ?_; refine Same.upd rfl ?_; refine Same.upd rfl ?_; refine Same.upd rfl ?_; refine Same.upd rfl ?_; refine Same.upd rfl ?_; refine Same.upd rfl ?_; refine Same.upd rfl ?_; refine Same.upd rfl ?_; refine Same.upd rfl ?_; refine Same.upd rfl ?_; refine Same.upd rfl ?_; refine Same.upd rfl ?_; refine Same.upd rfl ?_; refine Same.upd rfl ?_; exact Same.ovN))) ⟨eP rfl, eI rfl, eI rfl, eI rfl, trivial⟩ fun s2 hs2 => ?_
  refine W.loop (47 :: 48 :: 49 :: 50 :: 51 :: 52 :: 53 :: 54 :: 55 :: 56 :: 57 :: 58 :: 61 :: 62 :: 63 :: 64 :: 65 :: 66 :: 67 :: 68 :: 69 :: 70 :: 71 :: 72 :: 73 :: 74 :: 2 :: 59 :: 60 :: 5 :: []) (fun g s' V => ∃ q : Nat, s' 5 = .int .i64 ((q : Nat) : Int) ∧ g = cs[k].2.2.2[n].2.2.length - q ∧ q ≤ cs[k].2.2.2[n].2.2.length ∧ ∀ (j : Nat) (hj : j < cs[k].2.2.2[n].2.2.length), j < q → ¬ 40 < cs[k].2.2.2[n].2.2[j].size) cs[k].2.2.2[n].2.2.length ⟨0, rfl, rfl, Nat.zero_le _, by intros; omega⟩ ?_
  rintro _ sd3 w3 hS3 ⟨q, h5, rfl, hq, hpre3⟩
  refine W.fix h5 ?_
  clear h5
  have hTk3 : TextI w3 cs := inferInstance
  have i4 := hTk3.line hkc
  have i5 := hTk3.word hkc hnl
  by_cases hql : q < cs[k].2.2.2[n].2.2.length
  · by_cases h40 : 40 < cs[k].2.2.2[n].2.2[q].size
    · (refine jjB ?_; refine jjB ?_; refine jjC ?_; apply jI; exact eI rfl; refine jm ?_; refine jn rfl ?_; refine jN rfl rfl rfl ?_; apply jI; exact eI rfl; refine jF rfl rfl rfl (map_get (by omega)) ?_; intro _ _ _; refine jm ?_; refine jn rfl ?_; refine jP rfl rfl rfl ?_; apply jI; exact eI rfl; refine jF rfl rfl rfl (map_get (by omega)) ?_; intro _ _ _; refine jQ rfl rfl ?_; refine jh rfl ?_; refine jjZ rfl rfl (by omega) ?_; refine jz ?_; refine jjJ rfl ?_; refine jjG ?_; refine jjB ?_; refine jjD ?_; refine jjB ?_; refine jjC ?_; refine jm ?_; refine jn rfl ?_; refine jN rfl rfl rfl ?_; apply jI; exact eI rfl; refine jF rfl rfl rfl (map_get (by omega)) ?_; intro _ _ _; refine jm ?_; refine jn rfl ?_; refine jP rfl rfl rfl ?_; apply jI; exact eI rfl; refine jF rfl rfl rfl (map_get (by omega)) ?_; intro _ _ _; refine jQ rfl rfl ?_; apply jI; exact eI rfl; refine jF rfl rfl rfl (map_get (by omega)) ?_; intro _ _ _; refine jQ rfl rfl ?_; refine ji rfl ?_; refine jjd rfl rfl (by omega) ?_; refine jz ?_; refine jjJ rfl ?_; refine jjB ?_; refine jjC ?_; apply jJ; exact eB rfl; refine jz ?_; refine jjF ?_; refine jB rfl rfl ⟨inferInstance, ?_⟩)
      rw [hLk (by
        have : (cs[k].2.2.2[n].2.2).any (fun s => decide (40 < s.size)) = true := any_hit hql (decide_eq_true h40)
        rw [greatL, this, Bool.or_true])]; exact rfl
    · (refine jjB ?_; refine jjB ?_; refine jjC ?_; apply jI; exact eI rfl; refine jm ?_; refine jn rfl ?_; refine jN rfl rfl rfl ?_; apply jI; exact eI rfl; refine jF rfl rfl rfl (map_get (by omega)) ?_; intro _ _ _; refine jm ?_; refine jn rfl ?_; refine jP rfl rfl rfl ?_; apply jI; exact eI rfl; refine jF rfl rfl rfl (map_get (by omega)) ?_; intro _ _ _; refine jQ rfl rfl ?_; refine jh rfl ?_; refine jjZ rfl rfl (by omega) ?_; refine jz ?_; refine jjJ rfl ?_; refine jjG ?_; refine jjB ?_; refine jjD ?_; refine jjB ?_; refine jjC ?_; refine jm ?_; refine jn rfl ?_; refine jN rfl rfl rfl ?_; apply jI; exact eI rfl; refine jF rfl rfl rfl (map_get (by omega)) ?_; intro _ _ _; refine jm ?_; refine jn rfl ?_; refine jP rfl rfl rfl ?_; apply jI; exact eI rfl; refine jF rfl rfl rfl (map_get (by omega)) ?_; intro _ _ _; refine jQ rfl rfl ?_; apply jI; exact eI rfl; refine jF rfl rfl rfl (map_get (by omega)) ?_; intro _ _ _; refine jQ rfl rfl ?_; refine ji rfl ?_; refine jje rfl rfl (by omega) ?_; refine jz ?_; refine jjK rfl ?_; refine jjG ?_; refine jjC ?_; apply jI; exact eI rfl; refine jY rfl rfl (by omega) ?_; apply jJ; exact eI rfl; refine jz ?_)
      refine ⟨rfl, by ((refine Same.upd rfl ?_; refine Same.upd rfl ?_; refine Same.upd rfl ?_; refine Same.upd rfl ?_; refine Same.upd rfl ?_; refine Same.upd rfl ?_; refine Same.upd rfl ?_; refine Same.upd rfl ?_; refine Same.upd rfl ?_; refine Same.upd rfl ?_; refine Same.upd rfl ?_; refine Same.upd rfl ?_; refine Same.upd rfl ?_; refine Same.upd rfl ?_; refine Same.upd rfl ?_; refine Same.upd rfl ?_; refine Same.upd rfl ?_; refine Same.upd rfl ?_; refine Same.upd rfl ?_; refine Same.upd rfl ?_; refine Same.upd rfl ?_; refine Same.upd rfl ?_; refine Same.upd rfl ?_; refine Same.upd rfl ?_; refine Same.upd rfl ?_; refine Same.upd rfl ?_; refine Same.upd rfl ?_; refine Same.upd rfl ?_; refine Same.upd rfl ?_; refine Same.upd rfl ?_; exact Same.ovN)), cs[k].2.2.2[n].2.2.length - (q + 1), by omega, inferInstance, q + 1, congrArg (Value.int .i64) (by omega), rfl, by omega, fun j hj hjk => ?_⟩
      by_cases e : j = q
      · subst e; exact h40
      · exact hpre3 j hj (by omega)
  · have hLf : greatL cs[k].2.2.2[n].2.2 = false := by
      have h1 : (cs[k].2.2.2[n].2.2).any (fun s => decide (40 < s.size)) = false := any_miss fun j hj => decide_eq_false (hpre3 j hj (by omega))
      rw [greatL, h1, decide_eq_false h15']; rfl
    (refine jjB ?_; refine jjB ?_; refine jjC ?_; apply jI; exact eI rfl; refine jm ?_; refine jn rfl ?_; refine jN rfl rfl rfl ?_; apply jI; exact eI rfl; refine jF rfl rfl rfl (map_get (by omega)) ?_; intro _ _ _; refine jm ?_; refine jn rfl ?_; refine jP rfl rfl rfl ?_; apply jI; exact eI rfl; refine jF rfl rfl rfl (map_get (by omega)) ?_; intro _ _ _; refine jQ rfl rfl ?_; refine jh rfl ?_; refine jja rfl rfl (by omega) ?_; refine jz ?_; refine jjK rfl ?_; refine jjE ?_; refine jjC ?_; apply jI; exact eI rfl; refine jY rfl rfl (by omega) ?_; apply jJ; exact eI rfl; refine jz ?_)
    refine ⟨rfl, by ((refine Same.upd rfl ?_; refine Same.upd rfl ?_; refine Same.upd rfl ?_; refine Same.upd rfl ?_; refine Same.upd rfl ?_; refine Same.upd rfl ?_; refine Same.upd rfl ?_; refine Same.upd rfl ?_; refine Same.upd rfl ?_; refine Same.upd rfl ?_; refine Same.upd rfl ?_; refine Same.upd rfl ?_; refine Same.upd rfl ?_; refine Same.upd rfl ?_; refine Same.upd rfl ?_; refine Same.upd rfl ?_; refine Same.ovN' rfl ?_; assumption)), cs[k].2.2.2.length - (n + 1), by omega, inferInstance, n + 1, congrArg (Value.int .i64) (by omega), rfl, by omega, fun j hj hjk => ?_⟩
    by_cases e : j = n
    · subst e; exact hLf
    · exact hpre2 j hj (by omega)
end
end Go.Proofs.YtpbkphaceljclaaGreatDoor

/- within and Word of the reference. -/
namespace Go.Proofs.YtpbkphaceljclaaGreatDoor
open Go.RowKit

theorem within_postilref01 (n lo hi : Int) (w : World) : Ct Tryz.prog 83 [.int .i64 n, .int .i64 lo, .int .i64 hi] w fun v _ => v = .bool (inB lo hi n) := by
  refine Ct.ofW (by simp) ?_
  repeat' (first|((first|apply jI|apply jJ|apply jK rfl|apply jL rfl); (first|exact eI rfl|exact eB rfl))|(refine jS ?_; (first|refine jT rfl rfl rfl ?_|refine jU rfl rfl rfl rfl ?_))|(refine jW ?_; (first|refine jd rfl rfl ?_|refine jf rfl rfl ?_))|refine jz ?_|(refine jjA ?_; (first|refine jjB ?_|refine jjC ?_|refine jjF ?_))|(refine jS ?_; (refine jjL rfl rfl ?_ ?_ <;> intro _))|refine jB rfl rfl ⟨inferInstance, ?_⟩)
  · exact congrArg Value.bool (by simp only [inB, decide_eq_decide]; omega)
  · exact congrArg Value.bool (by simp only [inB, Bool.false_eq, decide_eq_false_iff_not]; omega)


theorem within_postilref03 (n lo hi : Int) (w : World) : Ct Tryz.prog 84 [.int .i64 n, .int .i64 lo, .int .i64 hi] w fun v _ => v = .bool (inB lo hi n) := by
  refine Ct.ofW (by simp) ?_
  repeat' (first|((first|apply jI|apply jJ|apply jK rfl|apply jL rfl); (first|exact eI rfl|exact eB rfl))|(refine jS ?_; (first|refine jT rfl rfl rfl ?_|refine jU rfl rfl rfl rfl ?_))|(refine jW ?_; (first|refine jd rfl rfl ?_|refine jf rfl rfl ?_))|refine jz ?_|(refine jjA ?_; (first|refine jjB ?_|refine jjC ?_|refine jjF ?_))|(refine jS ?_; (refine jjL rfl rfl ?_ ?_ <;> intro _))|refine jB rfl rfl ⟨inferInstance, ?_⟩)
  · exact congrArg Value.bool (by simp only [inB, decide_eq_decide]; omega)
  · exact congrArg Value.bool (by simp only [inB, Bool.false_eq, decide_eq_false_iff_not]; omega)


theorem word_low {s : ByteArray} (h : ∀ j (hj : j < s.size), lowB s[j] = true) : s.data.toList.all lowB = true := by
  rw [List.all_eq_true]
  intro c hc
  obtain ⟨j, hj, rfl⟩ := List.getElem_of_mem hc
  exact h j (by simpa using hj)
theorem word_bad {s : ByteArray} {j : Nat} (hj : j < s.size) (h : lowB s[j] = false) : false = wordB s := by
  have : s.data.toList.all lowB = false := by
    rw [List.all_eq_false]
    exact ⟨s[j], by simp [ByteArray.getElem_eq_getElem_data], by simp [h]⟩
  simp [wordB, this]
theorem lowB_no {c : UInt8} (h : (c.toNat : Int) < 97 ∨ 122 < (c.toNat : Int)) : lowB c = false := by simp only [lowB, decide_eq_false_iff_not]; omega
theorem lowB_yes {c : UInt8} (h1 : ¬ (c.toNat : Int) < 97) (h2 : ¬ 122 < (c.toNat : Int)) : lowB c = true := by simp only [lowB, decide_eq_true_eq]; omega

theorem Word_ref (s : ByteArray) (w : World) (hs : s.size ≤ 140737488355328) : Ct Tryz.prog 53 [.string s] w fun v _ => v = .bool (wordB s) := by
  refine Ct.ofW (by simp) ?_
  (refine jjB ?_; refine jjC ?_; apply jJ; exact eB rfl; refine jz ?_; refine jjB ?_; refine jjB ?_; refine jjC ?_; apply jJ; exact eI rfl; refine jz ?_; refine jjD ?_)
  refine W.loop (4 :: 5 :: 6 :: 7 :: 10 :: 11 :: 12 :: 13 :: 14 :: 15 :: 16 :: 17 :: 18 :: 19 :: 2 :: 8 :: 9 :: 3 :: []) (fun g s' _ => ∃ k : Nat, s' 3 = .int .i64 k ∧ g = s.size - k ∧ k ≤ s.size ∧ ∀ (j : Nat) (hj : j < s.size), j < k → lowB s[j] = true) s.size ⟨0, rfl, by omega, by omega, by intros; omega⟩ ?_
  rintro _ d w' hS ⟨k, h3, rfl, hk, hpre⟩
  refine W.fix h3 ?_
  repeat' (first|((first|apply jI|apply jJ|apply jK rfl|apply jL rfl); (first|exact eI rfl|exact eB rfl|exact eT rfl))|(refine jS ?_; (first|refine jT rfl rfl rfl ?_|refine jU rfl rfl rfl rfl ?_))|(refine jW ?_; (first|refine jX rfl rfl ?_|refine jY rfl rfl (by omega) ?_|refine je rfl rfl ?_))|(refine jg ?_; refine ji rfl ?_)|refine jt rfl rfl rfl (by omega) ?_|refine jz ?_|(refine jjA ?_; (first|refine jjB ?_|refine jjC ?_|refine jjD ?_|refine jjE ?_|refine jjF ?_|refine jjG ?_|refine jjJ rfl ?_))|(refine jS ?_; (refine jjL rfl rfl ?_ ?_ <;> intro _))|(refine jjA ?_; (refine jjN rfl ?_ ?_ <;> intro _))|refine jB rfl rfl ⟨inferInstance, ?_⟩)
  · exact congrArg Value.bool (word_bad (j := k) (by omega) (lowB_no (.inl ‹_›)))
  · exact congrArg Value.bool (word_bad (j := k) (by omega) (lowB_no (.inr ‹_›)))
  · refine ⟨rfl, by ((refine Same.upd rfl ?_; refine Same.upd rfl ?_; refine Same.upd rfl ?_; refine Same.upd rfl ?_; refine Same.upd rfl ?_; refine Same.upd rfl ?_; refine Same.upd rfl ?_; refine Same.upd rfl ?_; refine Same.upd rfl ?_; refine Same.upd rfl ?_; refine Same.upd rfl ?_; refine Same.upd rfl ?_; refine Same.upd rfl ?_; refine Same.upd rfl ?_; refine Same.upd rfl ?_; refine Same.upd rfl ?_; refine Same.upd rfl ?_; refine Same.upd rfl ?_; refine Same.upd rfl ?_; exact Same.ovN)), s.size - (k + 1), by omega, inferInstance, k + 1, rfl, rfl, by omega, fun j hj hjk => ?_⟩
    by_cases e : j = k
    · subst e; exact lowB_yes ‹_› ‹_›
    · exact hpre j hj (by omega)
  · refine jjQ (within_postilref01 _ 1 12 _) rfl rfl ?_
    rintro _ w2 hS2 rfl
    (apply jJ; exact eB rfl; refine jz ?_; refine jjF ?_; refine jB rfl rfl ⟨inferInstance, ?_⟩)
    have := word_low (s := s) fun j hj => hpre j hj (by omega)
    exact congrArg Value.bool (by simp only [wordB, this, inB, Bool.and_true, decide_eq_decide]; omega)

end Go.Proofs.YtpbkphaceljclaaGreatDoor
