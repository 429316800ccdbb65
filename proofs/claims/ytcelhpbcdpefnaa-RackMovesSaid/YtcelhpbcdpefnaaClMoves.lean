/- RackMoves: what is kept, the chains, the moves that put a deck right, and how slips lie after moves, or the errors, are the specification's, whatever the slips and the moves; nothing that came in is changed. No condition. -/
import Derived.Test.YtcelhpbcdpefnaaRows
import Derived.OpenShut
import Derived.LaidMore
import Derived.Deep.DeepHandedRow
import Derived.Deep.DeepWitnessRowRef
import Derived.Test.YtcelhpbcdpefnaaEng13
import Derived.Test.YtcelhpbcdpefnaaReadM
import Derived.Test.YtcelhpbcdpefnaaLawM
namespace Go.Proofs.Ytcelhpbcdpefnaa.RackMoves
open Go.ChangeShapes Go.WideShapes Go.ChangeAt Go.RowKit Go.Deep

theorem own : ownKnob Try.prog.godebug = none := by kernel_rfl
set_option maxRecDepth 100000 in
theorem contract (H : Type) (enc : TypeId × Value → H) (W : World) (base : Nat) (args : Array Value) (ds gs : List (DataW H)) (before : List MemPlace)
    (hval : ∀ (j : Nat) t v, Try.f5.params[j]? = some t → args[j]? = some v → Value.okWide Try.prog W .any base t v)
    (hW : DataW.Whole enc Try.prog Try.f5.params.toList Rows.rackMovesSpec.vars false W args.toList ds gs before)
    (hz : (DataW.weightsEach Try.prog (Try.f5.params.toList ++ (OpenSpec.ofChange Rows.rackMovesSpec).bare.plain.varTypes Try.prog) (ds ++ gs)).all (· ≤ reachBytes) = true)
    (hL : laidMetH Try.prog Rows.rackMovesRow.laid W) :
    Calls Try.prog 5 args W fun e W' => ∃ v, e = .returned v ∧ Rows.rackMovesSpec.post enc Try.prog Try.f5 false true false false W args v W' := by
  have hW' := hW
  obtain ⟨p, q, hA0, hV, rfl, hfz, hnd⟩ := hW
  have hA : DataW.TrodAll enc Try.prog W 0 (fun _ => true) true Try.f5.params.toList args.toList ds p := hA0
  have hz' := List.all_eq_true.1 hz
  rw [Try.params5] at hA hval hz'
  obtain ⟨v0, vs0, d0, ds0, p0, q0, hargs, rfl, rfl, h0, r0⟩ := trodAll_cons hA
  obtain ⟨v1, vs1, d1, ds1, p1, q1, rfl, rfl, rfl, h1, r1⟩ := trodAll_cons r0
  obtain ⟨rfl, rfl, rfl⟩ := trodAll_nil r1
  obtain rfl : args = #[v0, v1] := Array.ext' hargs
  obtain ⟨rfl, rfl⟩ := trodVars_none hV
  obtain ⟨la, lc, l, rfl, hR0⟩ := read_ints (hval 0 22 v0 rfl rfl) h0 (fun q hq => by
    have := hz' q (DataW.weights_mem_each (j := 0) (t := 22) rfl rfl q hq)
    simpa using this)
  have hi0 := RowI.mk hR0
  obtain ⟨ma, mc, ms, rfl, hR1⟩ := read_moves (hval 1 55 v1 rfl rfl) h1 (fun q hq => by
    have := hz' q (DataW.weights_mem_each (j := 1) (t := 55) rfl rfl q hq)
    simpa using this)
  have hi1 := RowI.mk hR1
  refine law_calls (tb := 4) hW' rfl rfl (by kernel_rfl) Try.underlying4 (by kernel_rfl) ?_ (RackMoves_law la ma lc mc l ms W)
  intro t ht
  rw [Try.params5] at ht
  have ht' : t = 22 ∨ t = 55 := by simpa using ht
  rcases ht' with rfl | rfl <;> exact ⟨by kernel_rfl, of_decide_eq_true (by kernel_rfl)⟩

theorem laid_met (os : Os) (args : Array Value) : laidMetH Try.prog Rows.rackMovesRow.laid ((World.doorLaid Try.prog 2000 os).forCall (fun _ _ => 0) ⟨#[], args, []⟩).memory :=
  laidMetH_of_parts3 (fuel := 8) (laidMet_of_run' 8 (by kernel_rfl) (by kernel_rfl)) (by kernel_rfl) (by kernel_rfl)
theorem reads (os : Os) {H : Type} (enc : TypeId × Value → H) : ∃ places, DataW.whole enc Try.prog ((World.doorLaid Try.prog 2000 os).forCall (fun _ _ => 0) ⟨#[], #[.slice none 0 0, .slice none 0 0], []⟩).memory Try.f5.params.toList Rows.rackMovesSpec.vars false ((#[.slice none 0 0, .slice none 0 0]) : Array Value).toList 8 = some ([.nil, .nil], [], places) :=
  ⟨[], by kernel_rfl⟩

set_option maxRecDepth 100000 in
theorem lifted (os : Os) (started : os.Started) (H : Type) (enc : TypeId × Value → H) (F : Stop.Interp) :
    ReturnsInHanded {} Try.checked os 5 .any ((OpenSpec.ofChange Rows.rackMovesSpec).preRow enc Try.prog Try.f5 Rows.rackMovesRow.domain false Rows.rackMovesRow.laid) (((OpenSpec.ofChange Rows.rackMovesSpec).at F).post enc Try.prog Try.f5 false true false false) := by
  obtain ⟨places, hx⟩ := reads os enc
  refine returnsInHanded_of_row (C := Try.checked) (s := OpenSpec.ofChange Rows.rackMovesSpec) own started (by kernel_rfl) Try.func5
    (witness_row_atRef (enc := enc) (C := Try.checked) false (World.doorLaid Try.prog 2000 os) #[.slice none 0 0, .slice none 0 0] rfl (by kernel_rfl) (by kernel_rfl) (by kernel_rfl)
      (OpenSpec.preRow_of_cond 8 hx (by kernel_rfl) (fun k hk => by cases hk) (by kernel_rfl) (laid_met os _))) ?_
  intro W base args ds gs before hval hW _ _ hz hL _ _
  exact contract H enc W base args ds gs before hval hW hz hL

theorem said : Rows.RackMovesSaid :=
  OpenClaim.holds_of_cond 5 Try.f5 rfl rfl rfl rfl rfl rfl rfl ⟨rfl, rfl, rfl, rfl, rfl⟩ rfl rfl rfl rfl rfl (by kernel_rfl) Try.func5 (by kernel_rfl)
    (of_decide_eq_true (by kernel_rfl)) (by unfold Func.isWrapper; first | (rw [if_pos (by decide +kernel)]; kernel_rfl) | (rw [if_neg (by decide +kernel)]; exact ⟨rfl, rfl⟩))
    (fun os started H enc _ F => by rw [OpenClaim.pre_eq_preRow]; exact lifted os started H enc F)

end Go.Proofs.Ytcelhpbcdpefnaa.RackMoves
namespace Go.Proofs.Ytcelhpbcdpefnaa
theorem rackMoves_holds : Rows.RackMovesSaid := RackMoves.said
#print axioms rackMoves_holds
end Go.Proofs.Ytcelhpbcdpefnaa
