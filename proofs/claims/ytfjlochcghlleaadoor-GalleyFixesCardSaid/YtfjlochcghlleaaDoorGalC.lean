/- What readings of galleys say; what the package's variables hold when the call begins. -/
import Derived.Test.YtfjlochcghlleaaDoorRows
import Derived.Lib.SmallJoins
import Derived.Test.YtfjlochcghlleaaDoorEng13
import Derived.Test.YtfjlochcghlleaaDoorGal3
namespace Go.Proofs.YtfjlochcghlleaaDoor
open Go.ChangeShapes Go.WideShapes Go.ChangeAt Go.RowKit Go.WideElems

theorem read_blk {H : Type} {enc : TypeId × Value → H} {W : World} {sp : Nat → Bool} {n : Nat} {y : Value} {z : DataW H × List MemPlace} (hf : fitsV true 2 y = true) (h : DataW.trod enc Tryd.prog W 0 sp true n 56 y.cells.toList = some z) : ∃ b : Blk, y = encB b := by
  cases y <;> simp [fitsV] at hf
  case agg cs =>
    obtain ⟨c0, c1, rfl⟩ := Joins.array2 hf
    obtain ⟨y0, y1, n', rfl, _, h0, h1⟩ := trod_struct2 Tryd.underlying56 h
    have k9 : Tryd.prog.cellsOf 9 = 1 := by kernel_rfl
    have k3 : Tryd.prog.cellsOf 3 = 1 := by kernel_rfl
    have h0' : DataW.trod enc Tryd.prog W 0 sp true n' 9 [c0] = some y0 := by simpa [Value.cells, k9] using h0
    have h1' : DataW.trod enc Tryd.prog W 0 sp true n' 3 [c1] = some y1 := by simpa [Value.cells, k3] using h1
    obtain ⟨s, e0, _, _⟩ := DataW.trod_string Tryd.underlying9 h0'
    obtain ⟨m, e1, _, _⟩ := DataW.trod_int Tryd.underlying3 h1'
    cases e0; cases e1
    exact ⟨(s, m), rfl⟩
set_option maxRecDepth 100000 in
theorem read_galley {H : Type} {enc : TypeId × Value → H} {W : World} {base : Nat} {v : Value} {d : DataW H} {p : List MemPlace} (hv : Value.okWide Tryd.prog W .any base 24 v) (h : DataW.Trod enc Tryd.prog W 0 (fun _ => true) true 24 v d p)
    (hw : ∀ q ∈ d.weights Tryd.prog 24, q ≤ reachBytes) : ∃ (hh : Int) (a : Option Addr) (c : Nat) (bs : List Blk), v = .agg #[.int .i64 hh, .slice a bs.length c] ∧ RowV W true 2 (.slice a bs.length c) (bs.map encB) := by
  obtain ⟨v0, v1, y0, y1, n, rfl, rfl, _, h0, h1⟩ := Joins.open_agg2 Tryd.underlying24 (by kernel_rfl) (by kernel_rfl) hv h
  obtain ⟨hh, e0, _, _⟩ := DataW.trod_int Tryd.underlying3 h0
  cases e0
  obtain ⟨a, c, vs, rfl, hR, hE⟩ := rowV_of_trod (t := 22) (k := 2) (agg := true) (by kernel_rfl) (by omega) (fun e => by cases e) (fun _ _ _ e => by cases e) (of_decide_eq_true (by kernel_rfl)) h1 (fun q hq => hw q (by
    simp only [DataW.weights, Tryd.underlying24, DataW.weightsEach, List.map_cons, List.map_nil, List.mem_append]
    exact .inr (.inl hq)))
  obtain ⟨bs, rfl, _⟩ := exists_map (enc := encB) (Q := fun _ => True) (vs := vs) fun y hy => by
    obtain ⟨n', z, hz, _⟩ := hE y hy
    obtain ⟨b, e⟩ := read_blk (hR.fit y hy) hz
    exact ⟨b, e, trivial⟩
  rw [List.length_map] at hR ⊢
  exact ⟨hh, a, c, bs, rfl, hR⟩

theorem g_torn : Tryd.prog.globalNamed "postil/galley.torn" = some 1 := by kernel_rfl
theorem t_torn : (Tryd.prog.globals[1]?).map (·.type) = some 111 := by kernel_rfl
theorem torn_laid {W : World} {laid : List (String × DataW Unit)} (h : laidMetH Tryd.prog laid W) (hx : ("postil/galley.torn", Rows.laid_postil_galley_torn) ∈ laid) : At W 1 0 tornC := by
  obtain ⟨g, t, cs, fuel, p, hg, ht, hv, hd⟩ := laidMetH.funcs (d := .agg [.agg [.iface "func" (.lit (.string [112, 111, 115, 116, 105, 108, 47, 103, 97, 108, 108, 101, 121, 46, 116, 111, 114, 110, 36, 49]))], .agg [.iface "func" (.lit (.string [112, 111, 115, 116, 105, 108, 47, 103, 97, 108, 108, 101, 121, 46, 116, 111, 114, 110, 36, 50]))]]) h hx
  obtain rfl := Option.some.inj (g_torn.symm.trans hg)
  obtain rfl := Option.some.inj (t_torn.symm.trans ht)
  have hd' : DataW.trod (funcToken Tryd.prog) Tryd.prog W 0 (fun _ => true) true fuel 111 cs.toList = some (.agg [.agg [.held [112, 111, 115, 116, 105, 108, 47, 103, 97, 108, 108, 101, 121, 46, 116, 111, 114, 110, 36, 49]], .agg [.held [112, 111, 115, 116, 105, 108, 47, 103, 97, 108, 108, 101, 121, 46, 116, 111, 114, 110, 36, 50]]], p) := hd
  obtain ⟨xs, m, _, hxs, hl, hn, hel⟩ := DataW.trod_array Tryd.underlying111 hd'
  have kT : Tryd.prog.cellsOf 111 = 2 := by kernel_rfl
  have kE : Tryd.prog.cellsOf 110 = 1 := by kernel_rfl
  have kF : Tryd.prog.cellsOf 91 = 1 := by kernel_rfl
  obtain ⟨c0, c1, rfl⟩ := Joins.array2 (cs := cs) (by simpa [kT] using hl)
  simp only [Prod.mk.injEq, DataW.agg.injEq] at hxs
  have key : ∀ (i : Nat) (c : Value) (b : List UInt8), i < 2 → (([c0, c1].drop (i * 1)).take 1) = [c] → (xs.map (·.1))[i]? = some (.agg [.held b]) → ∃ n q, DataW.trod (funcToken Tryd.prog) Tryd.prog W 0 (fun _ => true) true n 91 [c] = some (.held b, q) := fun i c b hi hc hb => by
    have h0 := hel i hi
    rw [kE, hc] at h0
    rw [List.getElem?_map] at hb
    obtain ⟨x, hx1, hx2⟩ := Option.map_eq_some_iff.1 hb
    rw [hx1] at h0
    obtain ⟨y0, n, e, _, h1⟩ := trod_struct1 Tryd.underlying110 h0
    rw [e] at hx2
    simp only [DataW.agg.injEq, List.cons.injEq, and_true] at hx2
    obtain ⟨y1, y2⟩ := y0
    simp only at hx2
    subst hx2
    exact ⟨n, y2, by simpa [kF] using h1⟩
  obtain ⟨n0, q0, k0⟩ := key 0 c0 [112, 111, 115, 116, 105, 108, 47, 103, 97, 108, 108, 101, 121, 46, 116, 111, 114, 110, 36, 49] (by omega) rfl (by rw [← hxs.1]; rfl)
  obtain ⟨n1, q1, k1⟩ := key 1 c1 [112, 111, 115, 116, 105, 108, 47, 103, 97, 108, 108, 101, 121, 46, 116, 111, 114, 110, 36, 50] (by omega) rfl (by rw [← hxs.1]; rfl)
  obtain rfl := func_of_trod (f0 := 98) Tryd.underlying91 (by kernel_rfl) k0
  obtain rfl := func_of_trod (f0 := 99) Tryd.underlying91 (by kernel_rfl) k1
  exact ⟨fun i v hv' => by have := World.var?_cell hg hv i; rw [Nat.zero_add, this]; simpa using hv'⟩

theorem g_none : Tryd.prog.globalNamed "postil/galley.none" = some 0 := by kernel_rfl
theorem t_none : (Tryd.prog.globals[0]?).map (·.type) = some 94 := by kernel_rfl
theorem none_laid {W : World} {rest : List (String × DataW Unit)} (h : laidMet Tryd.prog (("postil/galley.none", Rows.laid_postil_galley_none) :: rest) W) : At W 0 0 [.int .i64 (-1), .int .i64 (-1)] := by
  obtain ⟨ps, ⟨g, t, cs, fuel, p, q, hg, ht, hv, hd, _⟩, _⟩ := h
  obtain rfl := Option.some.inj (g_none.symm.trans hg)
  obtain rfl := Option.some.inj (t_none.symm.trans ht)
  have hd' : DataW.trod (fun _ => ()) Tryd.prog W 0 (fun _ => true) false fuel 94 cs.toList = some (.agg [.lit (.int .i64 (-1)), .lit (.int .i64 (-1))], p) := hd
  obtain ⟨y0, y1, n', e, hl, h0, h1⟩ := trod_struct2 Tryd.underlying94 hd'
  have kT : Tryd.prog.cellsOf 94 = 2 := by kernel_rfl
  have k3 : Tryd.prog.cellsOf 3 = 1 := by kernel_rfl
  obtain ⟨c0, c1, rfl⟩ := Joins.array2 (cs := cs) (by simpa [kT] using hl)
  have h0' : DataW.trod (fun _ => ()) Tryd.prog W 0 (fun _ => true) false n' 3 [c0] = some y0 := by simpa [k3] using h0
  have h1' : DataW.trod (fun _ => ()) Tryd.prog W 0 (fun _ => true) false n' 3 [c1] = some y1 := by simpa [k3] using h1
  obtain ⟨a0, e0, f0, _⟩ := DataW.trod_int Tryd.underlying3 h0'
  obtain ⟨a1, e1, f1, _⟩ := DataW.trod_int Tryd.underlying3 h1'
  cases e0; cases e1
  subst f0 f1
  simp only [Prod.mk.injEq, DataW.agg.injEq, List.cons.injEq, DataW.lit.injEq, Lit.int.injEq, true_and, and_true] at e
  obtain ⟨⟨e0, e1⟩, _⟩ := e
  subst e0 e1
  exact ⟨fun i v hv' => by have := World.var?_cell hg hv i; rw [Nat.zero_add, this]; simpa using hv'⟩
end Go.Proofs.YtfjlochcghlleaaDoor
