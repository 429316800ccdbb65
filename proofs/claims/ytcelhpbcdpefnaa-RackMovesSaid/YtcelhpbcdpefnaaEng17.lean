/- The proof engine, part 17: a slice of the call's own in a field. -/
import Derived.Test.YtcelhpbcdpefnaaEng16
namespace Go.Proofs.Ytcelhpbcdpefnaa
open Go.RowKit

theorem Bk.cellO {w : World} {b e o : Nat} {cs : List Value} {v : Value} (h : Bk w b cs e) (hv : cs[o]? = some v) : w.cell? ⟨b, o, none⟩ = some v := by have := (Bk.toAt (h := h)).h o v hv; simpa using this
/-- The blocks below N, and the block of the slice that lies at place o of block b. -/
def MO (N b o : Nat) (V : World) (k : Nat) : Prop := k < N ∨ ∃ v, V.cell? ⟨b, o, none⟩ = some v ∧ v.ownBlock = some k
theorem MO.lt {N b o : Nat} {V : World} {v : Value} {k : Nat} (hN : N ≤ V.heap.size) (hb : V.cell? ⟨b, o, none⟩ = some v) (ho : ∀ g, v.ownBlock = some g → g < V.heap.size) (h : MO N b o V k) : k < V.heap.size := by
  rcases h with h | ⟨v', hv, hk⟩
  · omega
  · rw [hb] at hv; cases hv
    exact ho k hk
theorem MO.back {N n b o : Nat} {V V' : World} {v : Value} {k : Nat} (hb : V.cell? ⟨b, o, none⟩ = some v) (g : Grow n V V') (h : MO N b o V' k) : MO N b o V k := by
  rcases h with h | ⟨v', hv, hk⟩
  · exact .inl h
  · rw [g.cell hb] at hv; cases hv
    exact .inr ⟨v, hb, hk⟩
theorem MO.grow {N b o : Nat} {V V' : World} {k : Nat} (hb : b < N) (g : Grow N V V') (h : MO N b o V' k) : MO N b o V k := by
  rcases h with h | ⟨v', hv, hk⟩
  · exact .inl h
  · refine .inr ⟨v', ?_, hk⟩
    rw [← hv]
    exact (World.cell?_of_block (a := ⟨b, o, none⟩) (g.old b hb)).symm
/-- A round: what it keeps, and what the slice is behind it. -/
theorem MO.fr {N b o : Nat} {V V' : World} {v v' : Value} (hs : V.heap.size ≤ V'.heap.size) (hb : V.cell? ⟨b, o, none⟩ = some v) (hb' : V'.cell? ⟨b, o, none⟩ = some v') (hk : ∀ k ob, V.heap[k]? = some ob → N ≤ k → v.ownBlock ≠ some k → V'.heap[k]? = some ob)
    (hw : v'.ownBlock = v.ownBlock ∨ ∃ g, v'.ownBlock = some g ∧ V.heap.size ≤ g) : Fr (MO N b o) V V' :=
  ⟨hs, fun k ob h1 _ hm => hk k ob h1 (Nat.le_of_not_lt fun h => hm (.inl h)) (fun e => hm (.inr ⟨v, hb, e⟩)), fun k h => by
    rcases h with h | ⟨u, hu, hk'⟩
    · exact .inl (.inl h)
    · rw [hb'] at hu; cases hu
      rcases hw with e | ⟨g, e, hg⟩
      · exact .inl (.inr ⟨v, hb, by rw [← e]; exact hk'⟩)
      · rw [e] at hk'; cases hk'; exact .inr hg⟩
/-- A number put into a slice that lies in one block. -/
theorem Bk.setI {w : World} {b e i : Nat} {xs : List Int} {y : Int} (hi : i < xs.length) (h : Bk w b ((xs.map intV).take i ++ [intV y] ++ (xs.map intV).drop (i + 1)) e) : Bk w b ((xs.set i y).map intV) e := by
  have : (xs.map intV).take i ++ [intV y] ++ (xs.map intV).drop (i + 1) = (xs.set i y).map intV := by
    rw [List.map_set, List.set_eq_take_append_cons_drop, if_pos (by simpa using hi)]; simp
  rw [← this]; exact h
/-! ### Rows of rows of numbers -/
abbrev Rw := Option Addr × Nat × List Int
abbrev encW (x : Rw) : Value := .slice x.1 x.2.2.length x.2.1
class RowsI (w : World) (rs : List Rw) : Prop where
  h : ∀ x ∈ rs, RowV w false 1 (encW x) (x.2.2.map intV)
instance RowsI.step {w w' : World} {rs : List Rw} [hs : Step w w'] [h : RowsI w rs] : RowsI w' rs := ⟨fun x hx => (h.h x hx).ext ⟨hs.b⟩⟩
theorem RowsI.ext {w w' : World} {rs : List Rw} (h : RowsI w rs) (hs : Ext w w') : RowsI w' rs := ⟨fun x hx => (h.h x hx).ext hs⟩
theorem RowsI.get {w : World} {rs : List Rw} (h : RowsI w rs) {i : Nat} (hi : i < rs.length) : RowI w (.slice rs[i].1 rs[i].2.2.length rs[i].2.1) false 1 (rs[i].2.2.map intV) := ⟨h.h _ (List.getElem_mem hi)⟩
theorem OwnL.ne {w : World} {B B' e e' : Nat} {agg agg' : Bool} {k k' : Nat} {v v' : Value} {xs ys : List Value} (h : OwnL w B e agg k v xs) (h' : OwnL w B' e' agg' k' v' ys) (he : e ≠ e') : ∀ g, v.ownBlock = some g → v'.ownBlock ≠ some g := fun g hg hg' => by
  rcases h.own.2 with ⟨rfl, _⟩ | ⟨g1, cap1, cur1, rfl, _, h1, _⟩
  · simp [Value.ownBlock] at hg
  · rcases h'.own.2 with ⟨rfl, _⟩ | ⟨g2, cap2, cur2, rfl, _, h2, _⟩
    · simp [Value.ownBlock] at hg'
    · simp only [Value.ownBlock, Option.some.injEq] at hg hg'
      subst hg; subst hg'
      rw [h1] at h2
      simp only [Option.some.injEq, Obj.cells.injEq] at h2
      exact he h2.2.1
/-- Rows of rows of the call's own. -/
structure OwnW (w : World) (B e1 e2 : Nat) (v : Value) (rs : List Rw) : Prop where
  out : OwnL w B e1 false 1 v (rs.map encW)
  ins : ∀ x ∈ rs, OwnL w B e2 false 1 (encW x) (x.2.2.map intV)
theorem OwnW.rows {w : World} {B e1 e2 : Nat} {v : Value} {rs : List Rw} (h : OwnW w B e1 e2 v rs) : RowsI w rs := ⟨fun x hx => (h.ins x hx).row⟩
theorem OwnW.ext {w w' : World} {B e1 e2 : Nat} {v : Value} {rs : List Rw} (h : OwnW w B e1 e2 v rs) (hs : Ext w w') : OwnW w' B e1 e2 v rs := ⟨h.out.ext hs, fun x hx => (h.ins x hx).ext hs⟩
theorem OwnW.nil (w : World) (B e1 e2 : Nat) : OwnW w B e1 e2 (.slice none 0 0) [] := ⟨OwnL.nil _ _ _ _ _, by simp⟩
theorem all_encW (rs : List Rw) : (rs.map encW).all (fun v => v.cells.toList.all (·.oneCell')) = true := by
  rw [List.all_eq_true]; intro q hq; obtain ⟨y, _, rfl⟩ := List.mem_map.1 hq; rfl
/-- One more row. -/
theorem OwnW.snoc {w w' : World} {B e1 e2 : Nat} {v v' : Value} {rs : List Rw} {x : Rw} (h : OwnW w B e1 e2 v rs) (hx : OwnL w B e2 false 1 (encW x) (x.2.2.map intV)) (hA : App B w w' v) (hO : OwnL w' B e1 false 1 v' (rs.map encW ++ [encW x])) (he : e2 ≠ e1) : OwnW w' B e1 e2 v' (rs ++ [x]) :=
  ⟨by rw [List.map_append]; exact hO, fun y hy => by
    rcases List.mem_append.1 hy with hy | hy
    · exact (h.ins y hy).app hA ((h.ins y hy).ne h.out he)
    · have : y = x := by simpa using hy
      subst this
      exact hx.app hA (hx.ne h.out he)⟩
end Go.Proofs.Ytcelhpbcdpefnaa
