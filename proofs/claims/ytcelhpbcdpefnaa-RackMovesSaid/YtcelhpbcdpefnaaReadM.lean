/- What readings of slices of moves say. -/
import Derived.Test.YtcelhpbcdpefnaaRows
import Derived.Lib.SmallJoins
import Derived.Test.YtcelhpbcdpefnaaReadC
import Derived.Test.YtcelhpbcdpefnaaEng11
namespace Go.Proofs.Ytcelhpbcdpefnaa
open Go.ChangeShapes Go.WideShapes Go.ChangeAt Go.RowKit Go.WideElems

theorem read_move {H : Type} {enc : TypeId × Value → H} {W : World} {sp : Nat → Bool} {n : Nat} {y : Value} {z : DataW H × List MemPlace} (hf : fitsV true 2 y = true) (h : DataW.trod enc Try.prog W 0 sp true n 86 y.cells.toList = some z) : ∃ b : Int × Int, y = encII b := by
  cases y <;> simp [fitsV] at hf
  case agg cs =>
    obtain ⟨c0, c1, rfl⟩ := Joins.array2 hf
    obtain ⟨y0, y1, n', rfl, _, h0, h1⟩ := trod_struct2 Try.underlying86 h
    have k3 : Try.prog.cellsOf 3 = 1 := by kernel_rfl
    have h0' : DataW.trod enc Try.prog W 0 sp true n' 3 [c0] = some y0 := by simpa [Value.cells, k3] using h0
    have h1' : DataW.trod enc Try.prog W 0 sp true n' 3 [c1] = some y1 := by simpa [Value.cells, k3] using h1
    obtain ⟨s, e0, _, _⟩ := DataW.trod_int Try.underlying3 h0'
    obtain ⟨m, e1, _, _⟩ := DataW.trod_int Try.underlying3 h1'
    cases e0; cases e1
    exact ⟨(s, m), rfl⟩
set_option maxRecDepth 100000 in
theorem read_moves {H : Type} {enc : TypeId × Value → H} {W : World} {base : Nat} {v : Value} {d : DataW H} {p : List MemPlace} (hv : Value.okWide Try.prog W .any base 55 v) (h : DataW.Trod enc Try.prog W 0 (fun _ => true) true 55 v d p)
    (hw : ∀ q ∈ d.weights Try.prog 55, q ≤ reachBytes) : ∃ (a : Option Addr) (c : Nat) (l : List (Int × Int)), v = .slice a l.length c ∧ RowV W true 2 (.slice a l.length c) (l.map encII) := by
  obtain ⟨a0, l0, c0, rfl⟩ := okWide_slice Try.underlying55 hv
  obtain ⟨fuel, hf⟩ := h
  have hf' : DataW.trod enc Try.prog W 0 (fun _ => true) true fuel 55 [.slice a0 l0 c0] = some (d, p) := hf
  obtain ⟨a, c, vs, e, hR, hE⟩ := rowV_of_trod (t := 55) (k := 2) (agg := true) (by kernel_rfl) (by omega) (fun e => by cases e) (fun _ _ _ e => by cases e) (of_decide_eq_true (by kernel_rfl)) hf' hw
  obtain ⟨l, rfl, _⟩ := exists_map (enc := encII) (Q := fun _ => True) (vs := vs) fun y hy => by
    obtain ⟨n', z, hz, _⟩ := hE y hy
    obtain ⟨b, e⟩ := read_move (hR.fit y hy) hz
    exact ⟨b, e, trivial⟩
  rw [e] at hR ⊢
  rw [List.length_map] at hR ⊢
  exact ⟨a, c, l, rfl, hR⟩
end Go.Proofs.Ytcelhpbcdpefnaa
