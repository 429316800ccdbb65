/- What readings of slices of slices of integers say. -/
import Derived.Test.YtcelhpbcdpefnaaReadC
import Derived.Test.YtcelhpbcdpefnaaEng17
namespace Go.Proofs.Ytcelhpbcdpefnaa
open Go.ChangeShapes Go.WideShapes Go.ChangeAt Go.RowKit Go.WideElems

theorem read_ints' {H : Type} {enc : TypeId × Value → H} {W : World} {n : Nat} {v : Value} {z : DataW H × List MemPlace} (h : DataW.trod enc Try.prog W 0 (fun _ => true) true n 22 [v] = some z)
    (hw : ∀ q ∈ z.1.weights Try.prog 22, q ≤ reachBytes) : ∃ (a : Option Addr) (c : Nat) (l : List Int), v = .slice a l.length c ∧ RowV W false 1 (.slice a l.length c) (l.map intV) := by
  obtain ⟨a, c, vs, e, hR, hE⟩ := rowV_of_trod (t := 22) (k := 1) (agg := false) (by kernel_rfl) (by omega) (fun _ => rfl) (fun _ _ _ _ e => by
    obtain ⟨m, e, _, _⟩ := DataW.trod_int Try.underlying3 e
    cases e; rfl) (of_decide_eq_true (by kernel_rfl)) h hw
  obtain ⟨l, rfl, _⟩ := exists_map (enc := intV) (Q := fun _ => True) (vs := vs) fun y hy => by
    obtain ⟨n', z, hz, _⟩ := hE y hy
    have hfit := hR.fit y hy
    have hc : y.cells.toList = [y] := by cases y <;> simp [fitsV] at hfit <;> rfl
    rw [hc] at hz
    obtain ⟨m, e, _, _⟩ := DataW.trod_int Try.underlying3 hz
    cases e
    exact ⟨m, rfl, trivial⟩
  rw [e] at hR
  rw [List.length_map] at hR e
  exact ⟨a, c, l, e, hR⟩
set_option maxRecDepth 100000 in
theorem read_rows {H : Type} {enc : TypeId × Value → H} {W : World} {base : Nat} {v : Value} {d : DataW H} {p : List MemPlace} (hv : Value.okWide Try.prog W .any base 23 v) (h : DataW.Trod enc Try.prog W 0 (fun _ => true) true 23 v d p)
    (hw : ∀ q ∈ d.weights Try.prog 23, q ≤ reachBytes) : ∃ (a : Option Addr) (c : Nat) (rs : List Rw), v = .slice a rs.length c ∧ RowV W false 1 (.slice a rs.length c) (rs.map encW) ∧ RowsI W rs := by
  obtain ⟨a0, l0, c0, rfl⟩ := okWide_slice Try.underlying23 hv
  obtain ⟨fuel, hf⟩ := h
  have hf' : DataW.trod enc Try.prog W 0 (fun _ => true) true fuel 23 [.slice a0 l0 c0] = some (d, p) := hf
  obtain ⟨a, c, vs, e, hR, hE⟩ := rowV_of_trod (t := 23) (k := 1) (agg := false) (by kernel_rfl) (by omega) (fun _ => rfl) (fun _ _ _ _ e => by
    rcases Deep.open_slice Try.underlying22 e with ⟨hcs, _⟩ | ⟨a, len, cap, m, n', D, Pl, hcs, _⟩ <;> cases hcs <;> rfl) (of_decide_eq_true (by kernel_rfl)) hf' hw
  obtain ⟨l, rfl, hq⟩ := exists_map (enc := encW) (Q := fun x => RowV W false 1 (encW x) (x.2.2.map intV)) (vs := vs) fun y hy => by
    obtain ⟨n', z, hz, hzw⟩ := hE y hy
    have hfit := hR.fit y hy
    have hc : y.cells.toList = [y] := by cases y <;> simp [fitsV] at hfit <;> rfl
    rw [hc] at hz
    obtain ⟨a', c', l', rfl, hR'⟩ := read_ints' hz hzw
    exact ⟨(a', c', l'), rfl, hR'⟩
  rw [e] at hR ⊢
  rw [List.length_map] at hR ⊢
  exact ⟨a, c, l, rfl, hR, ⟨hq⟩⟩
end Go.Proofs.Ytcelhpbcdpefnaa
