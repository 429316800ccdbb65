/- TopPieces: each slip of a text is among those of each part of a round that has its line, and of no other one; those that no part makes are those of the gaps; what is in doubt is all of these, and whole lines, whatever the round and the cut; nothing that came in is changed. Condition: package-level variables hold what the program's text lays (the card ties that). -/
import Derived.Test.YtbafmbpmiiplkaaGreatDoorCards
import Derived.Test.YtbafmbpmiiplkaaGreatDoorTie
import Derived.OpenShut
import Derived.Lay
import Derived.LaidMore
import Derived.Deep.DeepHandedRow
import Derived.Deep.DeepWitnessRowRef
import Derived.Test.YtbafmbpmiiplkaaGreatDoorTP8
namespace Go.Proofs.YtbafmbpmiiplkaaGreatDoor.TopPieces
open Go.ChangeShapes Go.WideShapes Go.ChangeAt Go.RowKit Go.Deep

theorem own : ownKnob Tryz.prog.godebug = none := by kernel_rfl
set_option maxRecDepth 100000 in
theorem contract (H : Type) (enc : TypeId × Value → H) (W : World) (base : Nat) (args : Array Value) (ds gs : List (DataW H)) (before : List MemPlace)
    (hval : ∀ (j : Nat) t v, Tryz.f3.params[j]? = some t → args[j]? = some v → Value.okWide Tryz.prog W .any base t v)
    (hW : DataW.Whole enc Tryz.prog Tryz.f3.params.toList Rows.topPiecesSpec.vars false W args.toList ds gs before)
    (hz : (DataW.weightsEach Tryz.prog (Tryz.f3.params.toList ++ (OpenSpec.ofChange Rows.topPiecesSpec).bare.plain.varTypes Tryz.prog) (ds ++ gs)).all (· ≤ reachBytes) = true)
    (hL : laidMetH Tryz.prog Rows.topPiecesRow.laid W) :
    Calls Tryz.prog 3 args W fun e W' => ∃ v, e = .returned v ∧ Rows.topPiecesSpec.post enc Tryz.prog Tryz.f3 false true false false W args v W' := by
  have hW' := hW
  obtain ⟨p, q, hA0, hV, rfl, hfz, hnd⟩ := hW
  have hA : DataW.TrodAll enc Tryz.prog W 0 (fun _ => true) true Tryz.f3.params.toList args.toList ds p := hA0
  have hz' := List.all_eq_true.1 hz
  rw [Tryz.params3] at hA hval hz'
  obtain ⟨v0, vs0, d0, ds0, p0, q0, hargs, rfl, rfl, h0, r0⟩ := trodAll_cons hA
  obtain ⟨v1, vs1, d1, ds1, p1, q1, rfl, rfl, rfl, h1, r1⟩ := trodAll_cons r0
  obtain ⟨rfl, rfl, rfl⟩ := trodAll_nil r1
  obtain rfl : args = #[v0, v1] := Array.ext' hargs
  obtain ⟨rfl, rfl⟩ := trodVars_none hV
  obtain ⟨ta, tc, cs, ha, hc, hs, sa, sc, ss, xa, xc, xs, rfl, ⟨hR0, hT0⟩, hRh0, hRs0, hRx0, hXI0⟩ := read_round (hval 0 29 v0 rfl rfl) h0 (fun q hq => by
    have := hz' q (DataW.weights_mem_each (j := 0) (t := 29) rfl rfl q hq)
    simpa using this)
  have hi0 := RowI.mk hR0
  have hih0 := RowI.mk hRh0
  have his0 := RowI.mk hRs0
  have hix0 := RowI.mk hRx0
  obtain ⟨wd, side, rfl, hd1⟩ := read_cut (hval 1 31 v1 rfl rfl) h1
  refine law_calls (tb := 4) hW' rfl rfl (by kernel_rfl) Tryz.underlying4 (by kernel_rfl) ?_ (TopPieces_law ta tc cs ha hc hs sa sc ss xa xc xs wd side W (hgs := sides_laid hL (by simp [Rows.topPiecesRow])) (hgk := kinds_laid hL (by simp [Rows.topPiecesRow])) (hgc := checks_laid hL (by simp [Rows.topPiecesRow])) (hst := steps_laid hL (by simp [Rows.topPiecesRow])) hd1)
  intro t ht
  rw [Tryz.params3] at ht
  have ht' : t = 29 ∨ t = 31 := by simpa using ht
  rcases ht' with rfl | rfl <;> exact ⟨by kernel_rfl, of_decide_eq_true (by kernel_rfl)⟩

/-- What the row lists of plain data. -/
def datas : List (String × DataW Unit) := Rows.topPiecesRow.laid.filter fun x => x.2.handleName?.isNone
/-- A world of the kind that the row speaks of: the program's own start, the plain data laid in it. -/
noncomputable def wit (os : Os) : World := (World.doorLaid Tryz.prog 2000 os).layVars Tryz.prog datas
theorem laid_data (os : Os) (args : Array Value) : laidMet Tryz.prog datas ((wit os).forCall (fun _ _ => 0) ⟨#[], args, []⟩).memory := by
  have e1 : (datas.filter fun x => (datas.map (·.1)).contains x.1) = datas := List.filter_eq_self.2 fun x hx => List.contains_iff_mem.2 (List.mem_map.2 ⟨x, hx, rfl⟩)
  have e2 : (datas.filter fun x => !(datas.map (·.1)).contains x.1) = [] := List.filter_eq_nil_iff.2 fun x hx => by rw [List.contains_iff_mem.2 (List.mem_map.2 ⟨x, hx, rfl⟩)]; simp
  have hf : (World.doorLaid Tryz.prog 2000 os).layFits Tryz.prog datas [] = true := by kernel_rfl
  have hi : (World.doorLaid Tryz.prog 2000 os).layIfaces Tryz.prog datas (wit os) = true := by kernel_rfl
  have h : laidMet Tryz.prog datas (wit os) := laidMet_layVars (w0 := World.doorLaid Tryz.prog 2000 os) (datas.map (·.1)) [] (by rw [e1]; rfl) (by rw [e1]; exact hf) (by rw [e1]; exact hi) (by rw [e2]; exact LaidIn.none)
  exact h.of_heap (by simp [World.memory, World.forCall, Input.heap])
theorem laid_met (os : Os) (args : Array Value) : laidMetH Tryz.prog Rows.topPiecesRow.laid ((wit os).forCall (fun _ _ => 0) ⟨#[], args, []⟩).memory :=
  laidMetH_of_parts3 (fuel := 8) (laid_data os args) (by kernel_rfl) (by kernel_rfl)
theorem reads (os : Os) {H : Type} (enc : TypeId × Value → H) : ∃ places, DataW.whole enc Tryz.prog ((wit os).forCall (fun _ _ => 0) ⟨#[], #[.agg #[.slice none 0 0, .slice none 0 0, .slice none 0 0, .slice none 0 0], .agg #[.int .i64 0, .int .u8 0]], []⟩).memory Tryz.f3.params.toList Rows.topPiecesSpec.vars false ((#[.agg #[.slice none 0 0, .slice none 0 0, .slice none 0 0, .slice none 0 0], .agg #[.int .i64 0, .int .u8 0]]) : Array Value).toList 8 = some ([.agg [.agg [.nil], .nil, .nil, .nil], .agg [.lit (.int .i64 0), .lit (.int .u8 0)]], [], places) :=
  ⟨[], by kernel_rfl⟩

set_option maxRecDepth 100000 in
theorem lifted (os : Os) (started : os.Started) (H : Type) (enc : TypeId × Value → H) (F : Stop.Interp) :
    ReturnsInHanded {} Tryz.checked os 3 .any ((OpenSpec.ofChange Rows.topPiecesSpec).preRow enc Tryz.prog Tryz.f3 Rows.topPiecesRow.domain false Rows.topPiecesRow.laid) (((OpenSpec.ofChange Rows.topPiecesSpec).at F).post enc Tryz.prog Tryz.f3 false true false false) := by
  obtain ⟨places, hx⟩ := reads os enc
  refine returnsInHanded_of_row (C := Tryz.checked) (s := OpenSpec.ofChange Rows.topPiecesSpec) own started (by kernel_rfl) Tryz.func3
    (witness_row_atRef (enc := enc) (C := Tryz.checked) false (wit os) #[.agg #[.slice none 0 0, .slice none 0 0, .slice none 0 0, .slice none 0 0], .agg #[.int .i64 0, .int .u8 0]] (World.layVars_os _ _ _) (by kernel_rfl) (by kernel_rfl) (by kernel_rfl)
      (OpenSpec.preRow_of_cond 8 hx (by kernel_rfl) (fun k hk => by cases hk) (by kernel_rfl) (laid_met os _))) ?_
  intro W base args ds gs before hval hW _ _ hz hL _ _
  exact contract H enc W base args ds gs before hval hW hz hL

theorem said : Rows.TopPiecesSaid :=
  OpenClaim.holds_of_cond 3 Tryz.f3 rfl rfl rfl rfl rfl rfl rfl ⟨rfl, rfl, rfl, rfl, rfl⟩ rfl rfl rfl rfl rfl (by kernel_rfl) Tryz.func3 (by kernel_rfl)
    (of_decide_eq_true (by kernel_rfl)) (by unfold Func.isWrapper; first | (rw [if_pos (by decide +kernel)]; kernel_rfl) | (rw [if_neg (by decide +kernel)]; exact ⟨rfl, rfl⟩))
    (fun os started H enc _ F => by rw [OpenClaim.pre_eq_preRow]; exact lifted os started H enc F)

theorem plain (f : FuncId) (fn : Func) (hf : Tryz.pinned.checked.prog.funcNamed "postil/postiltop.TopPieces" = some f) (hfn : Tryz.pinned.checked.prog.funcs[f]? = some fn) :
    false = Tryz.pinned.checked.prog.looks [] ∧ ∀ (j : Nat) t, fn.params[j]? = some t → Tryz.pinned.checked.prog.wantsStandIn t = false := by
  obtain rfl : f = 3 := Option.some.inj ((show Tryz.prog.funcNamed "postil/postiltop.TopPieces" = some 3 by kernel_rfl).symm.trans hf) |>.symm
  obtain rfl : fn = Tryz.f3 := (Option.some.inj (Tryz.func3.symm.trans hfn)).symm
  refine ⟨by kernel_rfl, fun j t ht => ?_⟩
  rw [Tryz.params3] at ht
  have ht' : t = 29 ∨ t = 31 := by simpa using Array.mem_of_getElem? ht
  rcases ht' with rfl | rfl <;> exact (show Tryz.prog.wantsStandIn _ = false by kernel_rfl)
end Go.Proofs.YtbafmbpmiiplkaaGreatDoor.TopPieces
namespace Go.Proofs.YtbafmbpmiiplkaaGreatDoor
theorem topPieces_holds : Rows.TopPiecesCardSaid :=
  Claim7.holds_tied_plain_at .later [] _ _ _ _ TopPieces.said (fun _ h => by cases h) (by kernel_rfl) (fun _ h => by cases h) topPieces_row_tie rfl ⟨rfl, rfl⟩ (by kernel_rfl) rfl TopPieces.plain (by kernel_rfl)
#print axioms topPieces_holds
end Go.Proofs.YtbafmbpmiiplkaaGreatDoor
