/- The proof engine, part 4: conversions. -/
import Derived.Test.YtcelhpbcdpefnaaData
namespace Go.Proofs.Ytcelhpbcdpefnaa
open Go.RowKit

def byteV (c : UInt8) : Value := .int .u8 c.toNat

section rules
variable {P : Program} {ro : Option Nat} {n : Nat} {all rest : List Oper} {K : Sl → World → Prop} {s : Sl} {w : World} {d : Nat} {ty : Nat} {pos : String} {af : Array Edge}
variable {x : Operand} {src dst e : Nat}

/-- A string's bytes in a new slice. -/
theorem Ops.bytesOf {b : ByteArray} (hx : ev n s x = .string b) (hlen : b.size ≤ 140737488355328) [hs : TU P src .string] [hd : TSl P dst e] [he : TU P e (.int .u8)]
    (h : ∀ v w', Step w w' → RowV w' false 1 v (b.data.toList.map byteV) → Ops P ro n all rest K (upd s d v) w') :
    Ops P ro n all (⟨some d, .convert src dst x, ty, pos, af, none⟩ :: rest) K s w := by
  have hr := run_bytes_of_string w src dst e b hs.h hd.h he.h
  refine Ops.ofRun rfl (by simp [execOp, hx, hr]; exact ⟨rfl, rfl⟩) (h _ _ ⟨?_⟩ ?_)
  · exact ((Below.refl _ w).drew).alloc (Nat.le_refl _) _
  · refine ⟨by simpa using hlen, ?_, ?_⟩
    · intro y hy
      obtain ⟨c, _, rfl⟩ := List.mem_map.1 hy
      rfl
    · refine .inr ⟨w.heap.size, 0, _, by simp; rfl, by simpa using grownCap_ge w b.size 0 e, fun j y hy => ⟨fun i v hv => ?_⟩⟩
      have hy' : ∃ c, b.data[j]? = some c ∧ byteV c = y := by simpa using hy
      obtain ⟨c, hc, rfl⟩ := hy'
      have hj : j < b.data.size := (Array.getElem?_eq_some_iff.1 hc).1
      cases i with
      | succ i => simp [byteV, Value.cells] at hv
      | zero =>
        have hv' : byteV c = v := by simpa [byteV, Value.cells] using hv
        subst hv'
        simp only [Nat.zero_add, Nat.mul_one, Nat.add_zero]
        have hb : (w.drew.alloc (.cells (bytesRow b (grownCap w b.size 0 e)) e ((bytesRow b (grownCap w b.size 0 e)).size, (bytesRow b (grownCap w b.size 0 e)).size + 1))).heap[w.heap.size]? = some (.cells (bytesRow b (grownCap w b.size 0 e)) e ((bytesRow b (grownCap w b.size 0 e)).size, (bytesRow b (grownCap w b.size 0 e)).size + 1)) := by
          have := World.alloc_heap_new w.drew (.cells (bytesRow b (grownCap w b.size 0 e)) e ((bytesRow b (grownCap w b.size 0 e)).size, (bytesRow b (grownCap w b.size 0 e)).size + 1))
          exact this
        simp only [World.cell?, hb]
        simp [bytesRow, byteV, hc, Array.getElem?_append]
        intro h
        have : b.data.size = b.size := rfl
        omega

/-- An integer into another kind that holds it. -/
theorem Ops.convI {k k' : IntKind} {i : Int} {du : TypeDesc} (hx : ev n s x = .int k i) [hs : TU P src du] (hsu : TypeDesc.isInt du = true) [hd : TU P dst (.int k')] (hw : IntKind.wrap k' i = i) (h : Ops P ro n all rest K (upd s d (.int k' i)) w) :
    Ops P ro n all (⟨some d, .convert src dst x, ty, pos, af, none⟩ :: rest) K s w :=
  Ops.ofRun rfl (by
    cases du <;> simp [TypeDesc.isInt] at hsu
    simp [execOp, hx, convert, run_underlying hs.h, run_underlying hd.h, Conv.intToInt, hw]) h
end rules
end Go.Proofs.Ytcelhpbcdpefnaa
