/- What readings of integers and of slices of integers say. -/
import Derived.Test.YtcelhpbcdpefnaaEng13
import Derived.Test.YtcelhpbcdpefnaaEng16
import Derived.Test.YtcelhpbcdpefnaaTypes
namespace Go.Proofs.Ytcelhpbcdpefnaa
open Go.ChangeShapes Go.WideShapes Go.ChangeAt Go.RowKit Go.WideElems

set_option maxRecDepth 100000 in
theorem read_ints {H : Type} {enc : TypeId × Value → H} {W : World} {base : Nat} {v : Value} {d : DataW H} {p : List MemPlace} (hv : Value.okWide Try.prog W .any base 22 v) (h : DataW.Trod enc Try.prog W 0 (fun _ => true) true 22 v d p)
    (hw : ∀ q ∈ d.weights Try.prog 22, q ≤ reachBytes) : ∃ (a : Option Addr) (c : Nat) (l : List Int), v = .slice a l.length c ∧ RowV W false 1 (.slice a l.length c) (l.map intV) := by
  obtain ⟨a0, l0, c0, rfl⟩ := okWide_slice Try.underlying22 hv
  obtain ⟨fuel, hf⟩ := h
  have hf' : DataW.trod enc Try.prog W 0 (fun _ => true) true fuel 22 [.slice a0 l0 c0] = some (d, p) := hf
  obtain ⟨a, c, vs, e, hR, hE⟩ := rowV_of_trod (t := 22) (k := 1) (agg := false) (by kernel_rfl) (by omega) (fun _ => rfl) (fun _ _ _ _ e => by
    obtain ⟨m, e, _, _⟩ := DataW.trod_int Try.underlying3 e
    cases e; rfl) (of_decide_eq_true (by kernel_rfl)) hf' hw
  obtain ⟨l, rfl, _⟩ := exists_map (enc := intV) (Q := fun _ => True) (vs := vs) fun y hy => by
    obtain ⟨n', z, hz, _⟩ := hE y hy
    have hfit := hR.fit y hy
    have hc : y.cells.toList = [y] := by cases y <;> simp [fitsV] at hfit <;> rfl
    rw [hc] at hz
    obtain ⟨m, e, _, _⟩ := DataW.trod_int Try.underlying3 hz
    cases e
    exact ⟨m, rfl, trivial⟩
  rw [e] at hR ⊢
  rw [List.length_map] at hR ⊢
  exact ⟨a, c, l, rfl, hR⟩
end Go.Proofs.Ytcelhpbcdpefnaa
