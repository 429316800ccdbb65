/- Texts of the proof, part 3: RefB, Tr2, Ts1, ReadT, SpW, ShJ, Eng25, ShP, Tp2, RdS, EqP, Eng21, Eng22, Eng23, Lf1, Lf2, ReadO, ReadG, Uv, ReadV, ReadU, SlS, SlX, Sl1, SlM, PlB, SlW, SlO, PlC, PlD, Eng24, LibC, SlN, SrW, CmpL, SrO, Sl2, Sl3, Sl4, Sl5, Sl6, Sl7, LibS, Sl8, Sl9, Sw5, PlF, PlJ, Lf3, Eng26, KeyP, Tr3, Lf4, Lf5, Lf6, Sr1, Sr2, Sr3, Sr4, Sr5, Sr6, Sw1, PlK. -/
import Derived.Test.YtfebegbjggoijaaGreatDoorRows
import Derived.Lib.SmallJoins
import Derived.LaidMore
import Derived.Lib.SplitLaws
import Derived.Shelf.Strings.OnBuilder
import Derived.Shelf.Strings.Split
import Derived.Laws.Concat
import Derived.ShapedOpen
import Derived.Deep.Strs
import Derived.LaidSub
import Derived.MakeChecks
import Derived.Lib.AppendZerosOnto
import Derived.Test.YtfebegbjggoijaaGreatDoorGC2
/- within and Word of the reference. -/
namespace Go.Proofs.YtfebegbjggoijaaGreatDoor
open Go.RowKit

theorem within_postilref01 (n lo hi : Int) (w : World) : Ct Tryz.prog 77 [.int .i64 n, .int .i64 lo, .int .i64 hi] w fun v _ => v = .bool (inB lo hi n) := by
  refine Ct.ofW (by simp) ?_
  repeat' (first|((first|apply jI|apply jJ|apply jK rfl|apply jL rfl); (first|exact eI rfl|exact eB rfl))|(refine jS ?_; (first|refine jT rfl rfl rfl ?_|refine jU rfl rfl rfl rfl ?_))|(refine jW ?_; (first|refine jd rfl rfl ?_|refine jf rfl rfl ?_))|refine jz ?_|(refine jjA ?_; (first|refine jjB ?_|refine jjC ?_|refine jjF ?_))|(refine jS ?_; (refine jjL rfl rfl ?_ ?_ <;> intro _))|refine jB rfl rfl ⟨inferInstance, ?_⟩)
  · exact congrArg Value.bool (by simp only [inB, decide_eq_decide]; omega)
  · exact congrArg Value.bool (by simp only [inB, Bool.false_eq, decide_eq_false_iff_not]; omega)


theorem within_postilref08 (n lo hi : Int) (w : World) : Ct Tryz.prog 45 [.int .i64 n, .int .i64 lo, .int .i64 hi] w fun v _ => v = .bool (inB lo hi n) := by
  refine Ct.ofW (by simp) ?_
  repeat' (first|((first|apply jI|apply jJ|apply jK rfl|apply jL rfl); (first|exact eI rfl|exact eB rfl))|(refine jS ?_; (first|refine jT rfl rfl rfl ?_|refine jU rfl rfl rfl rfl ?_))|(refine jW ?_; (first|refine jd rfl rfl ?_|refine jf rfl rfl ?_))|refine jz ?_|(refine jjA ?_; (first|refine jjB ?_|refine jjC ?_|refine jjF ?_))|(refine jS ?_; (refine jjL rfl rfl ?_ ?_ <;> intro _))|refine jB rfl rfl ⟨inferInstance, ?_⟩)
  · exact congrArg Value.bool (by simp only [inB, decide_eq_decide]; omega)
  · exact congrArg Value.bool (by simp only [inB, Bool.false_eq, decide_eq_false_iff_not]; omega)


theorem word_low {s : ByteArray} (h : ∀ j (hj : j < s.size), lowB s[j] = true) : s.data.toList.all lowB = true := by
  rw [List.all_eq_true]
  intro c hc
  obtain ⟨j, hj, rfl⟩ := List.getElem_of_mem hc
  exact h j (by simpa using hj)
theorem word_bad {s : ByteArray} {j : Nat} (hj : j < s.size) (h : lowB s[j] = false) : false = wordB s := by
  have : s.data.toList.all lowB = false := by
    rw [List.all_eq_false]
    exact ⟨s[j], by simp [ByteArray.getElem_eq_getElem_data], by simp [h]⟩
  simp [wordB, this]
theorem lowB_no {c : UInt8} (h : (c.toNat : Int) < 97 ∨ 122 < (c.toNat : Int)) : lowB c = false := by simp only [lowB, decide_eq_false_iff_not]; omega
theorem lowB_yes {c : UInt8} (h1 : ¬ (c.toNat : Int) < 97) (h2 : ¬ 122 < (c.toNat : Int)) : lowB c = true := by simp only [lowB, decide_eq_true_eq]; omega

theorem Word_ref (s : ByteArray) (w : World) (hs : s.size ≤ 140737488355328) : Ct Tryz.prog 46 [.string s] w fun v _ => v = .bool (wordB s) := by
  refine Ct.ofW (by simp) ?_
  (refine jjB ?_; refine jjC ?_; apply jJ; exact eB rfl; refine jz ?_; refine jjB ?_; refine jjB ?_; refine jjC ?_; apply jJ; exact eI rfl; refine jz ?_; refine jjD ?_)
  refine W.loop (4 :: 5 :: 6 :: 7 :: 10 :: 11 :: 12 :: 13 :: 14 :: 15 :: 16 :: 17 :: 18 :: 19 :: 2 :: 8 :: 9 :: 3 :: []) (fun g s' _ => ∃ k : Nat, s' 3 = .int .i64 k ∧ g = s.size - k ∧ k ≤ s.size ∧ ∀ (j : Nat) (hj : j < s.size), j < k → lowB s[j] = true) s.size ⟨0, rfl, by omega, by omega, by intros; omega⟩ ?_
  rintro _ d w' hS ⟨k, h3, rfl, hk, hpre⟩
  refine W.fix h3 ?_
  repeat' (first|((first|apply jI|apply jJ|apply jK rfl|apply jL rfl); (first|exact eI rfl|exact eB rfl|exact eT rfl))|(refine jS ?_; (first|refine jT rfl rfl rfl ?_|refine jU rfl rfl rfl rfl ?_))|(refine jW ?_; (first|refine jX rfl rfl ?_|refine jY rfl rfl (by omega) ?_|refine je rfl rfl ?_))|(refine jg ?_; refine ji rfl ?_)|refine jt rfl rfl rfl (by omega) ?_|refine jz ?_|(refine jjA ?_; (first|refine jjB ?_|refine jjC ?_|refine jjD ?_|refine jjE ?_|refine jjF ?_|refine jjG ?_|refine jjJ rfl ?_))|(refine jS ?_; (refine jjL rfl rfl ?_ ?_ <;> intro _))|(refine jjA ?_; (refine jjN rfl ?_ ?_ <;> intro _))|refine jB rfl rfl ⟨inferInstance, ?_⟩)
  · exact congrArg Value.bool (word_bad (j := k) (by omega) (lowB_no (.inl ‹_›)))
  · exact congrArg Value.bool (word_bad (j := k) (by omega) (lowB_no (.inr ‹_›)))
  · refine ⟨rfl, by ((refine Same.upd rfl ?_; refine Same.upd rfl ?_; refine Same.upd rfl ?_; refine Same.upd rfl ?_; refine Same.upd rfl ?_; refine Same.upd rfl ?_; refine Same.upd rfl ?_; refine Same.upd rfl ?_; refine Same.upd rfl ?_; refine Same.upd rfl ?_; refine Same.upd rfl ?_; refine Same.upd rfl ?_; refine Same.upd rfl ?_; refine Same.upd rfl ?_; refine Same.upd rfl ?_; refine Same.upd rfl ?_; refine Same.upd rfl ?_; refine Same.upd rfl ?_; refine Same.upd rfl ?_; exact Same.ovN)), s.size - (k + 1), by omega, inferInstance, k + 1, rfl, rfl, by omega, fun j hj hjk => ?_⟩
    by_cases e : j = k
    · subst e; exact lowB_yes ‹_› ‹_›
    · exact hpre j hj (by omega)
  · refine jjQ (within_postilref01 _ 1 12 _) rfl rfl ?_
    rintro _ w2 hS2 rfl
    (apply jJ; exact eB rfl; refine jz ?_; refine jjF ?_; refine jB rfl rfl ⟨inferInstance, ?_⟩)
    have := word_low (s := s) fun j hj => hpre j hj (by omega)
    exact congrArg Value.bool (by simp only [wordB, this, inB, Bool.and_true, decide_eq_decide]; omega)

end Go.Proofs.YtfebegbjggoijaaGreatDoor

/- The reference of leaf: Text, Check. -/
namespace Go.Proofs.YtfebegbjggoijaaGreatDoor
open Go.RowKit

section
variable (a : Option Addr) (c : Nat) (cs : List Ch) (w : World) [hrow : RowI w (.slice a cs.length c) true 2 (cs.map encCh)] [hT : TextI w cs]
end
end Go.Proofs.YtfebegbjggoijaaGreatDoor

/- slip: Check, open; the reference: Cut, Check, asked. -/
namespace Go.Proofs.YtfebegbjggoijaaGreatDoor
open Go.RowKit

theorem inOne_slip (lo hi n : Int) (b : Nat) (B : Bool) (w : World) (hB : inB lo hi n = B) (hR : RowV w false 1 (.slice (some ⟨b, 0, none⟩) 1 1) [.int .i64 n]) : Ct Tryz.prog 109 [.int .i64 lo, .int .i64 hi, .slice (some ⟨b, 0, none⟩) 1 1] w fun v _ => v = .bool B :=
  (in_slip lo hi _ [n] w hR).mono fun v _ _ e => e.trans (by rw [all_1, hB])
/-- A cut: its width and its side. -/
abbrev encCut (width side : Int) : Value := .agg #[.int .i64 width, .int .u8 side]
def cutB (width side : Int) : Bool := inB 12 80 width && inB 1 3 side
/-- The error of a text and a cut. -/
def askE (t : Tx) (width side : Int) : Int := if textB t then (if cutB width side then 0 else 30) else 10

theorem Check_slip (width side : Int) (hs : 0 ≤ side ∧ side ≤ 255) (w : World) : Ct Tryz.prog 94 [encCut width side] w fun v _ => v = .int .i64 (if cutB width side then 0 else 30) := by
  refine Ct.ofW (by simp) ?_
  (refine jjB ?_; refine jjC ?_)
  (refine jy rfl ?_; intro b1 w_b1 hb_b1 hs_b1 hS_b1 hk_b1; have hA_b1 := At.ofBlock hk_b1)
  (apply jJ; exact eI rfl; refine jz ?_; refine jjB ?_; refine jjB ?_; refine jjC ?_; refine jm ?_; refine jn rfl ?_; refine jN rfl rfl rfl ?_)
  (refine jjP (v := .int _ _) rfl (by exact rfl) (by exact rfl) (by exact rfl) (by exact rfl) ?_; intro b2 w_b2 hb_b2 hs_b2 hS_b2 hk_b2; have hR_b2 := RowV.one (agg := false) (k := 1) rfl hk_b2)
  obtain ⟨B1, h1⟩ : ∃ B, inB 12 80 width = B := ⟨_, rfl⟩
  refine jjQ (inOne_slip 12 80 width b2 B1 _ h1 hR_b2) rfl rfl ?_
  rintro _ w2 hS2 rfl
  cases B1
  · (refine jq rfl ?_; apply jI; exact eB rfl; refine jU rfl rfl rfl rfl ?_; refine jU rfl rfl rfl rfl ?_; refine jU rfl rfl rfl rfl ?_; refine jU rfl rfl rfl rfl ?_; refine jU rfl rfl rfl rfl ?_; refine jU rfl rfl rfl rfl ?_; apply jK rfl; exact eB rfl; refine jz ?_; refine jjJ rfl ?_; refine jjB ?_; refine jjC ?_; apply jJ; exact eI rfl; refine jz ?_; refine jjF ?_; refine jB rfl rfl ⟨inferInstance, ?_⟩)
    rw [cutB, h1]; exact rfl
  (refine jp rfl ?_; apply jI; exact eB rfl; refine jT rfl rfl rfl ?_; refine jm ?_; refine jn rfl ?_; refine jT rfl rfl rfl ?_; refine jN rfl rfl rfl ?_; refine jT rfl rfl rfl ?_)
  refine Ops.convI rfl rfl (wrapi (by omega) (by omega)) ?_
  (refine jT rfl rfl rfl ?_)
  (refine jjP (v := .int _ _) rfl (by exact rfl) (by exact rfl) (by exact rfl) (by exact rfl) ?_; intro b3 w_b3 hb_b3 hs_b3 hS_b3 hk_b3; have hR_b3 := RowV.one (agg := false) (k := 1) rfl hk_b3)
  obtain ⟨B2, h2⟩ : ∃ B, inB 1 3 side = B := ⟨_, rfl⟩
  (refine jT rfl rfl rfl ?_)
  refine jjQ (inOne_slip 1 3 side b3 B2 _ h2 hR_b3) rfl rfl ?_
  rintro _ w3 hS3 rfl
  cases B2
  · (refine jT rfl rfl rfl ?_; refine jq rfl ?_; apply jL rfl; exact eB rfl; refine jz ?_; refine jjJ rfl ?_; refine jjB ?_; refine jjC ?_; apply jJ; exact eI rfl; refine jz ?_; refine jjF ?_; refine jB rfl rfl ⟨inferInstance, ?_⟩)
    rw [cutB, h1, h2]; exact rfl
  · (refine jT rfl rfl rfl ?_; refine jp rfl ?_; apply jL rfl; exact eB rfl; refine jz ?_; refine jjK rfl ?_; refine jjG ?_; refine jjB ?_; refine jjC ?_; apply jJ; exact eI rfl; refine jz ?_; refine jjF ?_; refine jB rfl rfl ⟨inferInstance, ?_⟩)
    rw [cutB, h1, h2]; exact rfl
section
variable (a : Option Addr) (c : Nat) (cs : List Ch) (width side : Int) (w : World) [hrow : RowI w (.slice a cs.length c) true 2 (cs.map encCh)] [hT : TextI w cs]
theorem open_slip (hs : SmallT cs) (hd : 0 ≤ side ∧ side ≤ 255) : Ct Tryz.prog 73 [.agg #[.slice a cs.length c], encCut width side] w fun v _ => v = .int .i64 (askE (txF cs) width side) := by
  refine Ct.ofW (by simp) ?_
  (refine jjB ?_; refine jjC ?_)
  (refine jy rfl ?_; intro b1 w_b1 hb_b1 hs_b1 hS_b1 hk_b1; have hA_b1 := At.ofBlock hk_b1)
  skip
  (refine jy rfl ?_; intro b2 w_b2 hb_b2 hs_b2 hS_b2 hk_b2; have hA_b2 := At.ofBlock hk_b2)
  (apply jJ; exact eI rfl; refine jz ?_; refine jjB ?_; refine jjB ?_; refine jjC ?_; refine jO rfl rfl rfl rfl ?_)
  refine jjQ (Check_leaf a c cs _ hs) rfl rfl ?_
  rintro _ w2 hS2 rfl
  cases ht : textB (txF cs)
  · (apply jJ; exact eI rfl; refine jz ?_; refine jjB ?_; refine jjC ?_; apply jI; exact eI rfl; refine jc rfl rfl ?_; refine jz ?_; refine jjJ rfl ?_; refine jjB ?_; refine jjC ?_; apply jI; exact eI rfl; apply jJ; exact eI rfl; refine jz ?_; refine jjF ?_; refine jB rfl rfl ⟨inferInstance, ?_⟩)
    rw [askE, ht]; exact rfl
  · (apply jJ; exact eI rfl; refine jz ?_; refine jjB ?_; refine jjC ?_; apply jI; exact eI rfl; refine jc rfl rfl ?_; refine jz ?_; refine jjK rfl ?_; refine jjG ?_; refine jjB ?_; refine jjC ?_; refine jO rfl rfl rfl rfl ?_)
    refine jjQ (Check_slip width side hd _) rfl rfl ?_
    rintro _ w3 hS3 rfl
    (apply jJ; exact eI rfl; refine jz ?_; refine jjF ?_; refine jB rfl rfl ⟨inferInstance, ?_⟩)
    rw [askE, ht]; exact rfl
end
end Go.Proofs.YtfebegbjggoijaaGreatDoor

/- What readings of texts, cuts and places say; what the table of sides holds when the call begins. -/
namespace Go.Proofs.YtfebegbjggoijaaGreatDoor
open Go.ChangeShapes Go.WideShapes Go.ChangeAt Go.RowKit Go.WideElems

theorem nilf_of_trod {H : Type} {tok : TypeId × Value → H} {P : Program} {w : World} {base : Nat} {sp : Nat → Bool} {fuel : Nat} {t : TypeId} {ps rs : Array TypeId} {va : Bool} {v : Value} {q : List MemPlace}
    (ht : P.underlying t = some (.func ps rs va)) (h : DataW.trod tok P w base sp true fuel t [v] = some (.nil, q)) : v = .nilFunc := by
  cases fuel with
  | zero => simp [DataW.trod] at h
  | succ n => cases v <;> simp [DataW.trod, ht] at h <;> rfl

abbrev sidesC' : List Value := [.nilFunc, .func (.func 167) #[] ([] : List Value).toArray, .func (.func 168) #[] ([] : List Value).toArray, .func (.func 169) #[] ([] : List Value).toArray]
theorem g_sides : Tryz.prog.globalNamed "postil/slip.sides" = some 2 := by kernel_rfl
theorem t_sides : (Tryz.prog.globals[2]?).map (·.type) = some 181 := by kernel_rfl
theorem sides_laid {W : World} {laid : List (String × DataW Unit)} (h : laidMetH Tryz.prog laid W) (hx : ("postil/slip.sides", Rows.laid_postil_slip_sides) ∈ laid) : At W 2 0 sidesC' := by
  obtain ⟨g, t, cs, fuel, p, hg, ht, hv, hd⟩ := laidMetH.funcs (d := .agg [.agg [.nil], .agg [.iface "func" (.lit (.string [112, 111, 115, 116, 105, 108, 47, 115, 108, 105, 112, 46, 115, 105, 100, 101, 115, 36, 49]))], .agg [.iface "func" (.lit (.string [112, 111, 115, 116, 105, 108, 47, 115, 108, 105, 112, 46, 115, 105, 100, 101, 115, 36, 50]))], .agg [.iface "func" (.lit (.string [112, 111, 115, 116, 105, 108, 47, 115, 108, 105, 112, 46, 115, 105, 100, 101, 115, 36, 51]))]]) h hx
  obtain rfl := Option.some.inj (g_sides.symm.trans hg)
  obtain rfl := Option.some.inj (t_sides.symm.trans ht)
  have hd' : DataW.trod (funcToken Tryz.prog) Tryz.prog W 0 (fun _ => true) true fuel 181 cs.toList = some (.agg [.agg [.nil], .agg [.held [112, 111, 115, 116, 105, 108, 47, 115, 108, 105, 112, 46, 115, 105, 100, 101, 115, 36, 49]], .agg [.held [112, 111, 115, 116, 105, 108, 47, 115, 108, 105, 112, 46, 115, 105, 100, 101, 115, 36, 50]], .agg [.held [112, 111, 115, 116, 105, 108, 47, 115, 108, 105, 112, 46, 115, 105, 100, 101, 115, 36, 51]]], p) := hd
  obtain ⟨xs, m, _, hxs, hl, hn, hel⟩ := DataW.trod_array Tryz.underlying181 hd'
  have kT : Tryz.prog.cellsOf 181 = 4 := by kernel_rfl
  have kE : Tryz.prog.cellsOf 180 = 1 := by kernel_rfl
  have kF : Tryz.prog.cellsOf 179 = 1 := by kernel_rfl
  obtain ⟨c0, c1, c2, c3, rfl⟩ := Joins.array4 (cs := cs) (by simpa [kT] using hl)
  simp only [Prod.mk.injEq, DataW.agg.injEq] at hxs
  have key : ∀ (i : Nat) (c : Value) (b : DataW (List UInt8)), i < 4 → (([c0, c1, c2, c3].drop (i * 1)).take 1) = [c] → (xs.map (·.1))[i]? = some (.agg [b]) → ∃ n q, DataW.trod (funcToken Tryz.prog) Tryz.prog W 0 (fun _ => true) true n 179 [c] = some (b, q) := fun i c b hi hc hb => by
    have h0 := hel i hi
    rw [kE, hc] at h0
    rw [List.getElem?_map] at hb
    obtain ⟨x, hx1, hx2⟩ := Option.map_eq_some_iff.1 hb
    rw [hx1] at h0
    obtain ⟨y0, n, e, _, h1⟩ := trod_struct1 Tryz.underlying180 h0
    rw [e] at hx2
    simp only [DataW.agg.injEq, List.cons.injEq, and_true] at hx2
    obtain ⟨y1, y2⟩ := y0
    simp only at hx2
    subst hx2
    exact ⟨n, y2, by simpa [kF] using h1⟩
  obtain ⟨n0, q0, k0⟩ := key 0 c0 .nil (by omega) rfl (by rw [← hxs.1]; rfl)
  obtain ⟨n1, q1, k1⟩ := key 1 c1 (.held [112, 111, 115, 116, 105, 108, 47, 115, 108, 105, 112, 46, 115, 105, 100, 101, 115, 36, 49]) (by omega) rfl (by rw [← hxs.1]; rfl)
  obtain ⟨n2, q2, k2⟩ := key 2 c2 (.held [112, 111, 115, 116, 105, 108, 47, 115, 108, 105, 112, 46, 115, 105, 100, 101, 115, 36, 50]) (by omega) rfl (by rw [← hxs.1]; rfl)
  obtain ⟨n3, q3, k3⟩ := key 3 c3 (.held [112, 111, 115, 116, 105, 108, 47, 115, 108, 105, 112, 46, 115, 105, 100, 101, 115, 36, 51]) (by omega) rfl (by rw [← hxs.1]; rfl)
  obtain rfl := nilf_of_trod Tryz.underlying179 k0
  obtain rfl := func_of_trod (f0 := 167) Tryz.underlying179 (by kernel_rfl) k1
  obtain rfl := func_of_trod (f0 := 168) Tryz.underlying179 (by kernel_rfl) k2
  obtain rfl := func_of_trod (f0 := 169) Tryz.underlying179 (by kernel_rfl) k3
  exact ⟨fun i v hv' => by have := World.var?_cell hg hv i; rw [Nat.zero_add, this]; simpa using hv'⟩
end Go.Proofs.YtfebegbjggoijaaGreatDoor

/- Plain law: words with a space between them. -/
namespace Go.Proofs.YtfebegbjggoijaaGreatDoor
open Go.RowKit

def spl : List UInt8 → List (List UInt8)
  | [] => [[]]
  | c :: l => if c = 32 then [] :: spl l else match spl l with
    | [] => [[c]]
    | x :: r => (c :: x) :: r
abbrev bytesL (l : List UInt8) : ByteArray := ⟨l.toArray⟩
def splB (s : ByteArray) : List ByteArray := (spl s.data.toList).map bytesL
theorem bytesL_data (s : ByteArray) : bytesL s.data.toList = s := by
  apply ByteArray.ext; simp
/-- Whether a text is words with one space between them, or empty. -/
def wordsB (s : ByteArray) : Bool := decide (s.size = 0) || (decide (s.size ≤ 80) && (splB s).all wordB)
end Go.Proofs.YtfebegbjggoijaaGreatDoor

/- strings.Join: the contract of the library's shelf at this program. -/
namespace Go.Proofs.YtfebegbjggoijaaGreatDoor
open Go.Shelf Go.RowKit
def sh_lays156_ren : Go.Shelf.Ren := ⟨fun | 156 => 114 | 165 => 123 | 166 => 124 | 169 => 125 | 240 => 136 | 241 => 137 | 276 => 143 | 277 => 144 | n => n, fun | 31 => 71 | 9 => 9 | 3 => 3 | 4 => 4 | 0 => 0 | 20 => 20 | 72 => 190 | 76 => 194 | 70 => 188 | 37 => 150 | 75 => 193 | 127 => 207 | 164 => 214 | 5 => 5 | 80 => 196 | n => n, fun | n => n⟩

theorem sh_lays156 : Go.Proofs.Lays.n156 Tryz.prog sh_lays156_ren := {
  mixed := by kernel_rfl
  f156 := Tryz.func114.trans (congrArg some (by kernel_rfl))
  f165 := Tryz.func123.trans (congrArg some (by kernel_rfl))
  f166 := Tryz.func124.trans (congrArg some (by kernel_rfl))
  f169 := Tryz.func125.trans (congrArg some (by kernel_rfl))
  f240 := Tryz.func136.trans (congrArg some (by kernel_rfl))
  f241 := Tryz.func137.trans (congrArg some (by kernel_rfl))
  f276 := Tryz.func143.trans (congrArg some (by kernel_rfl))
  f277 := Tryz.func144.trans (congrArg some (by kernel_rfl))
  t0 := Tryz.underlying0
  a0 := Tryz.isAgg0
  z0 := Tryz.sizeOf0
  v0 := Tryz.zeroValue0
  t3 := Tryz.underlying3
  a3 := Tryz.isAgg3
  z3 := Tryz.sizeOf3
  v3 := Tryz.zeroValue3
  t4 := Tryz.underlying4
  a4 := Tryz.isAgg4
  z4 := Tryz.sizeOf4
  v4 := Tryz.zeroValue4
  t9 := Tryz.underlying9
  a9 := Tryz.isAgg9
  z9 := Tryz.sizeOf9
  v9 := Tryz.zeroValue9
  t20 := Tryz.underlying20
  a20 := Tryz.isAgg20
  z20 := Tryz.sizeOf20
  v20 := Tryz.zeroValue20
  t31 := Tryz.underlying71
  a31 := Tryz.isAgg71
  z31 := Tryz.sizeOf71
  v31 := Tryz.zeroValue71
  t37 := Tryz.underlying150
  a37 := Tryz.isAgg150
  z37 := Tryz.sizeOf150
  v37 := Tryz.zeroValue150
  t70 := Tryz.underlying188
  a70 := Tryz.isAgg188
  z70 := Tryz.sizeOf188
  v70 := Tryz.zeroValue188
  t72 := Tryz.underlying190
  a72 := Tryz.isAgg190
  z72 := Tryz.sizeOf190
  v72 := Tryz.zeroValue190
  t75 := Tryz.underlying193
  a75 := Tryz.isAgg193
  z75 := Tryz.sizeOf193
  v75 := Tryz.zeroValue193
  t76 := Tryz.underlying194
  a76 := Tryz.isAgg194
  z76 := Tryz.sizeOf194
  v76 := Tryz.zeroValue194
  t127 := Tryz.underlying207
  a127 := Tryz.isAgg207
  z127 := Tryz.sizeOf207
  v127 := Tryz.zeroValue207
  t164 := Tryz.underlying214
  a164 := Tryz.isAgg214
  z164 := Tryz.sizeOf214
  v164 := Tryz.zeroValue214 }

theorem sh_Builder_Extra_156 : Builder.Extra Tryz.prog sh_lays156_ren := {
  sizeBuilder := by kernel_rfl
  liesBuilder := by kernel_rfl
  t5 := Tryz.underlying5
  a5 := Tryz.isAgg5
  z5 := Tryz.sizeOf5
  v5 := Tryz.zeroValue5
  infoByte := by kernel_rfl
  cellsByte := by kernel_rfl
  sizeByte := by kernel_rfl
  neB5 := by decide }

theorem sh_strings_Join_none (a : Option Addr) (c : Nat) (sep : ByteArray) (w : World) :
    Calls Tryz.prog 114 #[.slice a 0 c, .string sep] w fun e w' => e = .returned (.string ⟨#[]⟩) ∧ w' = w := Any.strings_Join_none sh_lays156 sh_Builder_Extra_156 a c sep w

theorem sh_strings_Join (bk o c : Nat) (xs : List ByteArray) (sep : ByteArray) (w : World) (hcells : ∀ (j : Nat) x, xs[j]? = some x → w.cell? ⟨bk, o + j, none⟩ = some (.string x)) (hbk : bk < w.heap.size) (hN : xs.length ≤ 140737488355328) (hcap : xs.length ≤ c) (hlen : (Lib.join (xs.map (·.data.toList)) sep.data.toList).length ≤ 140737488355328) :
    Calls Tryz.prog 114 #[.slice (some ⟨bk, o, none⟩) xs.length c, .string sep] w fun e w' => e = .returned (.string ⟨(Lib.join (xs.map (·.data.toList)) sep.data.toList).toArray⟩) ∧ Below w.heap.size w w' := Any.strings_Join sh_lays156 sh_Builder_Extra_156 bk o c xs sep w hcells hbk hN hcap hlen

/-- Words with a space between them. -/
def joinB (ws : List ByteArray) : ByteArray := ⟨(Lib.join (ws.map (·.data.toList)) [32]).toArray⟩
theorem joinB_size (ws : List ByteArray) {m : Nat} (h : ∀ s ∈ ws, s.size ≤ m) : (joinB ws).size ≤ ws.length * (m + 1) := by
  have hl : ∀ l : List ByteArray, (∀ s ∈ l, s.size ≤ m) → Lib.lens (l.map (·.data.toList)) ≤ l.length * m := fun l => by
    induction l with
    | nil => intro _; simp [Lib.lens]
    | cons x l ih =>
      intro h
      have h1 := ih fun s hs => h s (List.mem_cons_of_mem _ hs)
      have h2 := h x (by simp)
      have e : x.data.toList.length = x.size := by rw [Array.length_toList]; rfl
      simp only [Lib.lens, List.map_cons, List.sum_cons, List.length_cons] at h1 ⊢
      rw [Nat.add_mul, e]
      omega
  cases ws with
  | nil => exact Nat.zero_le _
  | cons x r =>
    have e : (joinB (x :: r)).size = (Lib.join ((x :: r).map (·.data.toList)) [32]).length := by simp [joinB, ByteArray.size]
    have h1 := hl (x :: r) h
    rw [e, List.map_cons, Lib.join_length]
    rw [List.map_cons] at h1
    simp only [List.length_cons, List.length_nil, List.length_map] at h1 ⊢
    rw [Nat.mul_add]
    omega
theorem Join_str (a : Option Addr) (c n : Nat) (ws : List ByteArray) (w : World) (hn : ws.length = n) (hrow : RowV w false 1 (.slice a n c) (ws.map strV)) (hl : (joinB ws).size ≤ 140737488355328) : Ct Tryz.prog 114 [.slice a n c, .string ⟨#[32]⟩] w fun v _ => v = .string (joinB ws) := by
  subst hn
  unfold Ct
  have hlen := hrow.len
  rw [List.length_map] at hlen
  rcases hrow.at_ with ⟨h0, _⟩ | ⟨b, o, c', hv, hc, hA⟩
  · obtain rfl : ws = [] := by simpa using h0
    exact (sh_strings_Join_none a c ⟨#[32]⟩ w).mono fun e w' ⟨h1, h2⟩ => ⟨_, h1, by subst h2; exact Ext.refl _, rfl⟩
  · simp only [Value.slice.injEq] at hv
    obtain ⟨rfl, _, rfl⟩ := hv
    rw [List.length_map] at hc
    cases ws with
    | nil => exact (sh_strings_Join_none _ c ⟨#[32]⟩ w).mono fun e w' ⟨h1, h2⟩ => ⟨_, h1, by subst h2; exact Ext.refl _, rfl⟩
    | cons x r =>
      have hcell : ∀ (j : Nat) y, (x :: r)[j]? = some y → w.cell? ⟨b, o + j, none⟩ = some (.string y) := fun j y hy => by
        have := (hA j (strV y) (by rw [List.getElem?_map, hy]; rfl)).h 0 (strV y) rfl
        simpa using this
      have e : (joinB (x :: r)).size = (Lib.join ((x :: r).map (·.data.toList)) [32]).length := by simp [joinB, ByteArray.size]
      refine (sh_strings_Join b o c (x :: r) ⟨#[32]⟩ w hcell (lt_of_cell (hcell 0 x rfl)) hlen hc ?_).mono fun e w' ⟨h1, h2⟩ => ⟨_, h1, ⟨h2⟩, rfl⟩
      rw [← e]; exact hl
end Go.Proofs.YtfebegbjggoijaaGreatDoor

/- The proof engine, part 25: slices of the call's own, by their block. -/
namespace Go.Proofs.YtfebegbjggoijaaGreatDoor
open Go.RowKit

/-! ### Slices of the call's own, by their block -/
theorem OwnL.cells {w : World} {B e n c g : Nat} {l : List Value} (h : OwnL w B e false 1 (.slice (some ⟨g, 0, none⟩) n c) l) : ∃ cs, Bk w g cs e ∧ cs.length = c ∧ n ≤ c ∧ c ≤ maxLen ∧ l.length = n ∧ cs.take n = l ∧ B ≤ g := by
  have hf : ∀ xs : List Value, (∀ x ∈ xs, fitsV false 1 x = true) → xs.flatMap (·.cells.toList) = xs := by
    intro xs
    induction xs with
    | nil => intro _; rfl
    | cons y xs ih =>
      intro hx
      have hy := hx y List.mem_cons_self
      have hc : y.cells.toList = [y] := by cases y <;> simp [fitsV] at hy <;> rfl
      rw [List.flatMap_cons, hc, ih fun z hz => hx z (List.mem_cons_of_mem _ hz)]; rfl
  have e1 := hf l h.fit
  rcases h.own.2 with ⟨e0, _⟩ | ⟨g', cap, cur, e0, hB, hg, hn, hm, hs, ht⟩
  · simp at e0
  · simp only [Value.slice.injEq, Option.some.injEq, Addr.mk.injEq] at e0
    obtain ⟨⟨rfl, _⟩, rfl, rfl⟩ := e0
    rw [e1, Nat.mul_one] at ht
    exact ⟨cur.toList, ⟨by simpa using hg⟩, by simpa using hs, hn, hm, rfl, ht, hB⟩
theorem OwnL.ofCells {w : World} {B e n c g : Nat} {l cs : List Value} (hB : Bk w g cs e) (hc : cs.length = c) (hn : n ≤ c) (hm : c ≤ maxLen) (ht : cs.take n = l) (hn' : n ≤ 140737488355328) (hg : B ≤ g) (hf : ∀ x ∈ l, fitsV false 1 x = true) : OwnL w B e false 1 (.slice (some ⟨g, 0, none⟩) n c) l := by
  have hl : l.length = n := by rw [← ht, List.length_take]; omega
  have hfl : ∀ xs : List Value, (∀ x ∈ xs, fitsV false 1 x = true) → xs.flatMap (·.cells.toList) = xs := by
    intro xs
    induction xs with
    | nil => intro _; rfl
    | cons y xs ih =>
      intro hx
      have hy := hx y List.mem_cons_self
      have hc : y.cells.toList = [y] := by cases y <;> simp [fitsV] at hy <;> rfl
      rw [List.flatMap_cons, hc, ih fun z hz => hx z (List.mem_cons_of_mem _ hz)]; rfl
  refine ⟨⟨by rw [hfl l hf, hl, Nat.mul_one], .inr ⟨g, c, cs.toArray, by rw [hl], hg, hB.h, by omega, hm, by simp [hc], ?_⟩⟩, hf, by rw [hl]; exact hn'⟩
  rw [hfl l hf, hl, Nat.mul_one]; exact ht
end Go.Proofs.YtfebegbjggoijaaGreatDoor

/- strings.Split: the contract of the library's shelf at this program. -/
namespace Go.Proofs.YtfebegbjggoijaaGreatDoor
open Go.Shelf Go.RowKit

/-- The library's own length of what it finds at once. -/
class MxI (w : World) : Prop where
  h : ∃ m, At w 3 0 [.int .i64 m]
theorem MxI.ext {w w' : World} (h : MxI w) (e : Ext w w') : MxI w' := by
  obtain ⟨m, hm⟩ := h.h
  exact ⟨m, hm.ext e⟩
instance MxI.step {w w' : World} [hs : Step w w'] [h : MxI w] : MxI w' := h.ext ⟨hs.b⟩
end Go.Proofs.YtfebegbjggoijaaGreatDoor

/- The reference: line, Place. -/
namespace Go.Proofs.YtfebegbjggoijaaGreatDoor
open Go.RowKit

section
variable (a : Option Addr) (c : Nat) (cs : List Ch) (w : World) [hrow : RowI w (.slice a cs.length c) true 2 (cs.map encCh)] [hT : TextI w cs]
end
end Go.Proofs.YtfebegbjggoijaaGreatDoor

/- Plain law: readings, copies, what a copy has in a line, where words stand in it. -/
namespace Go.Proofs.YtfebegbjggoijaaGreatDoor
open Go.RowKit

/-- The line of a place. -/
def lineT (t : Tx) (p : Pl) : Option (List ByteArray) := if 0 ≤ p.1 ∧ 0 ≤ p.2.1 then (t[p.1.toNat]?).bind fun x => x.2[p.2.1.toNat]? else none
def placeB (t : Tx) (p : Pl) : Bool := match lineT t p with
  | none => false
  | some l => inB 0 ((l.length : Int) - 1) p.2.2
def wordT (t : Tx) (p : Pl) : ByteArray := ((lineT t p).getD []).getD p.2.2.toNat ⟨#[]⟩
theorem befP_iff (a b : Pl) : befP a b = true ↔ a.1 < b.1 ∨ a.1 = b.1 ∧ (a.2.1 < b.2.1 ∨ a.2.1 = b.2.1 ∧ a.2.2 < b.2.2) := by
  by_cases h1 : a.1 = b.1 <;> by_cases h2 : a.2.1 = b.2.1 <;> simp [befP, h1, h2]
theorem befP_irr (a : Pl) : befP a a = false := by unfold befP; simp
end Go.Proofs.YtfebegbjggoijaaGreatDoor

/- Equality of places and of slips. -/
namespace Go.Proofs.YtfebegbjggoijaaGreatDoor
open Go.RowKit

section
variable {P : Program}
theorem eqFields_cons {w : World} {f : Field} {fs : List Field} {xs ys : Array Value} {d : Nat} {a b : Value} {r : Bool} (hn : f.name ≠ "_") (pa : (part f.type xs f.offset).run P w = .ok a w) (pb : (part f.type ys f.offset).run P w = .ok b w)
    (he : (Op.equalIn d f.type a b).run P w = .ok r w) : (Op.eqFields d xs ys (f :: fs)).run P w = if r then (Op.eqFields d xs ys fs).run P w else .ok false w := by
  simp only [Op.eqFields, if_pos hn, Sem.run_bind, pa, pb, he, Result.andThen_ok]
  cases r <;> simp
theorem part_cell {t : Nat} {w : World} {dd : TypeDesc} (u : TU P t dd) (hag : TypeDesc.isAgg dd = false) {cs : Array Value} {off : Nat} {v : Value} (h : cs[off]? = some v) : (part t cs off).run P w = .ok v w := by
  simp [part, run_isAgg w u, hag, h]
theorem part_agg {t size bytes : Nat} {w : World} {dd : TypeDesc} {z : Value} (u : TU P t dd) (hag : TypeDesc.isAgg dd = true) (hz : TS P t z size bytes) {cs xs : Array Value} {off : Nat} (h : cs.extract off (off + size) = xs) : (part t cs off).run P w = .ok (.agg xs) w := by
  simp [part, run_isAgg w u, hag, run_sizeOf' w hz, h]
theorem eqInt (w : World) (d : Nat) {t : Nat} (u : TU P t (.int .i64)) (a b : Int) : (Op.equalIn (d + 1) t (.int .i64 a) (.int .i64 b)).run P w = .ok (decide (a = b)) w := by
  rw [run_equalIn_int w d t .i64 .i64 a b u.h]
  congr 1
theorem eqStr (w : World) (d : Nat) {t : Nat} (u : TU P t .string) (a b : ByteArray) : (Op.equalIn (d + 1) t (.string a) (.string b)).run P w = .ok (decide (a = b)) w := by
  rw [run_equalIn_string w d t a b u.h, ← beq_toListBytes, byteArray_beq]
theorem eqIn_int3 {t : Nat} {f0 f1 f2 : Field} (hu : P.underlying t = some (.struct #[f0, f1, f2])) (h0 : f0.name ≠ "_") (h0' : f0.offset = 0) (h1 : f1.name ≠ "_") (h1' : f1.offset = 1) (h2 : f2.name ≠ "_") (h2' : f2.offset = 2)
    (u0 : TU P f0.type (.int .i64)) (u1 : TU P f1.type (.int .i64)) (u2 : TU P f2.type (.int .i64)) (hp : P.stoodInHeld t = false) (w : World) (d : Nat) (a b : Pl) : (Op.equalIn (d + 2) t (encPl a) (encPl b)).run P w = .ok (decide (a = b)) w := by
  have hf : P.fieldsOf t = #[f0, f1, f2] := by simp [Program.fieldsOf, hu]
  have ht : P.underlying t = some (.struct (P.fieldsOf t)) := by rw [hf]; exact hu
  rw [run_equalIn_struct w (d + 1) t _ _ ht hp, hf]
  obtain ⟨a1, a2, a3⟩ := a
  obtain ⟨b1, b2, b3⟩ := b
  rw [eqFields_cons h0 (part_cell u0 rfl (by rw [h0']; rfl)) (part_cell u0 rfl (by rw [h0']; rfl)) (eqInt w d u0 a1 b1)]
  by_cases c0 : a1 = b1
  · rw [decide_eq_true c0, if_pos rfl, eqFields_cons h1 (part_cell u1 rfl (by rw [h1']; rfl)) (part_cell u1 rfl (by rw [h1']; rfl)) (eqInt w d u1 a2 b2)]
    by_cases c1 : a2 = b2
    · rw [decide_eq_true c1, if_pos rfl, eqFields_cons h2 (part_cell u2 rfl (by rw [h2']; rfl)) (part_cell u2 rfl (by rw [h2']; rfl)) (eqInt w d u2 a3 b3)]
      by_cases c2 : a3 = b3
      · simp [c0, c1, c2, Op.eqFields]
      · simp [c2]
    · simp [c1]
  · simp [c0]
theorem eqT_int3 {t : Nat} (h : ∀ (w : World) (d : Nat) (a b : Pl), (Op.equalIn (d + 2) t (encPl a) (encPl b)).run P w = .ok (decide (a = b)) w) (hg : P.eqGuardType P.depth t = false) : EqT P t encPl where
  eq w a b := h w 9998 a b
  guard op x y w a b := by
    cases op <;> simp [encPl, eqGuard, hg]
  kind a b := ⟨fun w => by simp [encPl, binOp], fun w => by simp [encPl, binOp]⟩

/-! ### Slips -/
end
/-- A slip: its place, its word, what is before it, what is behind it. -/
abbrev Slp := Pl × ByteArray × ByteArray × ByteArray
abbrev encSl (x : Slp) : Value := .agg #[.int .i64 x.1.1, .int .i64 x.1.2.1, .int .i64 x.1.2.2, .string x.2.1, .string x.2.2.1, .string x.2.2.2]
section
variable {P : Program}
theorem eqIn_slip {t bytes : Nat} {z : Value} {d0 : TypeDesc} {f0 f1 f2 f3 : Field} (hu : P.underlying t = some (.struct #[f0, f1, f2, f3])) (h0 : f0.name ≠ "_") (h0' : f0.offset = 0) (h1 : f1.name ≠ "_") (h1' : f1.offset = 3) (h2 : f2.name ≠ "_") (h2' : f2.offset = 4) (h3 : f3.name ≠ "_") (h3' : f3.offset = 5)
    (u0 : TU P f0.type d0) (hag : TypeDesc.isAgg d0 = true) (hz : TS P f0.type z 3 bytes) (u1 : TU P f1.type .string) (u2 : TU P f2.type .string) (u3 : TU P f3.type .string) (hp : P.stoodInHeld t = false)
    (hpl : ∀ (w : World) (d : Nat) (a b : Pl), (Op.equalIn (d + 2) f0.type (encPl a) (encPl b)).run P w = .ok (decide (a = b)) w) (w : World) (d : Nat) (a b : Slp) : (Op.equalIn (d + 3) t (encSl a) (encSl b)).run P w = .ok (decide (a = b)) w := by
  have hf : P.fieldsOf t = #[f0, f1, f2, f3] := by simp [Program.fieldsOf, hu]
  have ht : P.underlying t = some (.struct (P.fieldsOf t)) := by rw [hf]; exact hu
  rw [run_equalIn_struct w (d + 2) t _ _ ht hp, hf]
  obtain ⟨a1, a2, a3, a4⟩ := a
  obtain ⟨b1, b2, b3, b4⟩ := b
  rw [eqFields_cons h0 (part_agg (xs := #[.int .i64 a1.1, .int .i64 a1.2.1, .int .i64 a1.2.2]) u0 hag hz (by rw [h0']; rfl)) (part_agg (xs := #[.int .i64 b1.1, .int .i64 b1.2.1, .int .i64 b1.2.2]) u0 hag hz (by rw [h0']; rfl)) (hpl w d a1 b1)]
  by_cases c0 : a1 = b1
  · rw [decide_eq_true c0, if_pos rfl, eqFields_cons h1 (part_cell u1 rfl (by rw [h1']; rfl)) (part_cell u1 rfl (by rw [h1']; rfl)) (eqStr w (d + 1) u1 a2 b2)]
    by_cases c1 : a2 = b2
    · rw [decide_eq_true c1, if_pos rfl, eqFields_cons h2 (part_cell u2 rfl (by rw [h2']; rfl)) (part_cell u2 rfl (by rw [h2']; rfl)) (eqStr w (d + 1) u2 a3 b3)]
      by_cases c2 : a3 = b3
      · rw [decide_eq_true c2, if_pos rfl, eqFields_cons h3 (part_cell u3 rfl (by rw [h3']; rfl)) (part_cell u3 rfl (by rw [h3']; rfl)) (eqStr w (d + 1) u3 a4 b4)]
        by_cases c3 : a4 = b4
        · simp [c0, c1, c2, c3, Op.eqFields]
        · simp [c3]
      · simp [c2]
    · simp [c1]
  · simp [c0]
theorem eqT_slip {t : Nat} (h : ∀ (w : World) (d : Nat) (a b : Slp), (Op.equalIn (d + 3) t (encSl a) (encSl b)).run P w = .ok (decide (a = b)) w) (hg : P.eqGuardType P.depth t = false) : EqT P t encSl where
  eq w a b := h w 9997 a b
  guard op x y w a b := by
    cases op <;> simp [encSl, eqGuard, hg]
  kind a b := ⟨fun w => by simp [encSl, binOp], fun w => by simp [encSl, binOp]⟩
end
theorem eqIn_place (w : World) (d : Nat) (a b : Pl) : (Op.equalIn (d + 2) 111 (encPl a) (encPl b)).run Tryz.prog w = .ok (decide (a = b)) w :=
  eqIn_int3 Tryz.underlying111 (by decide) rfl (by decide) rfl (by decide) rfl tu3 tu3 tu3 (by kernel_rfl) w d a b
instance : EqT Tryz.prog 111 encPl := eqT_int3 eqIn_place (by kernel_rfl)
instance : EqT Tryz.prog 113 encSl := eqT_slip (eqIn_slip Tryz.underlying113 (by decide) rfl (by decide) rfl (by decide) rfl (by decide) rfl tu111 rfl ts111 tu9 tu9 tu9 (by kernel_rfl) eqIn_place) (by kernel_rfl)
end Go.Proofs.YtfebegbjggoijaaGreatDoor

/- The proof engine, part 21: strings joined, compared; parts of slices told outright; a number turned round. -/
namespace Go.Proofs.YtfebegbjggoijaaGreatDoor
open Go.RowKit

section rules
variable {P : Program} {ro : Option Nat} {n : Nat} {all rest : List Oper} {K : Sl → World → Prop} {s : Sl} {w : World} {d : Nat} {ty : Nat} {pos : String} {af : Array Edge}
variable {x y : Operand} {t t' e : Nat}
theorem jjm {a : Int} (hx : ev n s x = .int .i64 a) (hr : -9223372036854775807 ≤ a ∧ a ≤ 9223372036854775807) (h : Ops P ro n all rest K (upd s d (.int .i64 (-a))) w) :
    Ops P ro n all (⟨some d, .unOp .neg t x, ty, pos, af, none⟩ :: rest) K s w :=
  Ops.ofRun rfl (by have : IntKind.i64.wrap (-a) = -a := by rw [IntKind.wrap_i64]; omega
                    simp [execOp, hx, go_sem, Op.unary, this]) h

/-- A part of a slice, as a value. -/
abbrev cutV (a : Option Addr) (c k lo hi : Nat) : Value := .slice (if c = lo then a else a.map (·.add (lo * k))) (hi - lo) (c - lo)
theorem RowV.cut {agg : Bool} {k l c : Nat} {a : Option Addr} {xs : List Value} (h : RowV w agg k (.slice a l c) xs) {lo hi : Nat} (h1 : lo ≤ hi) (h2 : hi ≤ xs.length) : RowV w agg k (cutV a c k lo hi) ((xs.take hi).drop lo) := by
  obtain ⟨rfl, hlc⟩ := h.cap
  exact h.part lo hi h1 h2 _ (by omega) _ (fun hlt => by rw [if_neg (by omega)])
theorem Ops.sliceLHv {k bytes l c lo hi : Nat} {z : Value} {a : Option Addr} {i j : Int} {k1 k2 : IntKind} {xl xh : Operand} (hx : ev n s x = .slice a l c) (hl : ev n s xl = .int k1 i) (hh : ev n s xh = .int k2 j)
    (hi' : i = (lo : Int)) (hj' : j = (hi : Int)) (h1 : lo ≤ hi) (h2 : hi ≤ c) [ht : TSl P t e] [hz : TS P e z k bytes]
    (h : Ops P ro n all rest K (upd s d (cutV a c k lo hi)) w) : Ops P ro n all (⟨some d, .slice t x (some xl) (some xh) none, ty, pos, af, none⟩ :: rest) K s w := by
  subst hi' hj'
  refine Ops.ofRun (v := cutV a c k lo hi) (w' := w) rfl ?_ h
  simp [cutV, execOp, Instr.sliceAt, Instr.slice, Instr.sliceBounds, Instr.sliceBound, hx, hl, hh, run_underlying ht.h, asIntOf, h1, h2, run_sizeOf' w hz]
theorem beqS (a b : ByteArray) : (a.toList == b.toList) = decide (a = b) := by rw [← beq_toListBytes, byteArray_beq]
theorem Ops.neqS {a b : ByteArray} (hx : ev n s x = .string a) (hy : ev n s y = .string b) (h : Ops P ro n all rest K (upd s d (.bool (decide (¬ a = b)))) w) :
    Ops P ro n all (⟨some d, .binOp .neq t x y t', ty, pos, af, none⟩ :: rest) K s w :=
  Ops.ofRun rfl (by
    have e : decide (¬ a = b) = !decide (a = b) := by by_cases h : a = b <;> simp [h]
    rw [e]
    simp [execOp, hx, hy, go_sem, beqS, eqGuard]) h
theorem Ops.lssS {a b : ByteArray} (hx : ev n s x = .string a) (hy : ev n s y = .string b) (h : Ops P ro n all rest K (upd s d (.bool (Op.bytesLess a.toList b.toList))) w) :
    Ops P ro n all (⟨some d, .binOp .lss t x y t', ty, pos, af, none⟩ :: rest) K s w :=
  Ops.ofRun rfl (by simp [execOp, hx, hy, go_sem]) h
theorem Ops.gtrS {a b : ByteArray} (hx : ev n s x = .string a) (hy : ev n s y = .string b) (h : Ops P ro n all rest K (upd s d (.bool (!(Op.bytesLess a.toList b.toList || a.toList == b.toList)))) w) :
    Ops P ro n all (⟨some d, .binOp .gtr t x y t', ty, pos, af, none⟩ :: rest) K s w :=
  Ops.ofRun rfl (by simp [execOp, hx, hy, go_sem, binOp, Op.stringOp]) h
/-- The address of an element of an array. -/
theorem Ops.indexAP {z : Value} {size bytes b o len : Nat} {i : Int} {k : IntKind} (j : Nat) (hx : ev n s x = .pointer (some ⟨b, o, none⟩)) (hy : ev n s y = .int k i) (hi : i = (j : Int)) [ht : TArr P t len e] [hz : TS P e z size bytes] (hj : Nat.blt j len = true)
    (h : Ops P ro n all rest K (upd s d (.pointer (some ⟨b, o + j * size, none⟩))) w) :
    Ops P ro n all (⟨some d, .indexAddr t x y, ty, pos, af, none⟩ :: rest) K s w := by
  subst hi
  have hj' : j < len := by simpa using hj
  exact Ops.ofRun rfl (by
    have h1 : (0 : Int) ≤ (j : Int) ∧ (j : Int) < (len : Int) := by omega
    simp [execOp, Instr.indexAt, hx, hy, asIntOf, Instr.sureAddr, run_underlying ht.h, run_sizeOf' w hz, Addr.add_lit, hj']) h
end rules
end Go.Proofs.YtfebegbjggoijaaGreatDoor

/- The proof engine, part 22: a struct and a number as results. -/
namespace Go.Proofs.YtfebegbjggoijaaGreatDoor
open Go.RowKit

theorem OwnL.slice3 {w : World} {B e : Nat} {agg : Bool} {k : Nat} {v : Value} {xs : List Value} (h : OwnL w B e agg k v xs) : ∃ a l c, v = .slice a l c := by
  obtain ⟨a, c, h⟩ := h.slice
  exact ⟨a, _, c, h⟩

theorem fin2C {P : Program} {fn : Func} {n t ty b size bytes t1 : Nat} {R : Value → World → Prop} {s : Sl} {w : World} {cs : List Value} {dd : TypeDesc} {z : Value} (hf : fn.results = #[.cell t ty, .tmp t1]) (ht : Nat.blt t n = true) (h1 : Nat.blt t1 n = true)
    (hs : s t = .pointer (some ⟨b, 0, none⟩)) [hb : At w b 0 cs] [hu : TU P ty dd] (hag : TypeDesc.isAgg dd = true) [hz : TS P ty z size bytes] (hl : cs.length = size)
    (h : R (.tuple #[.agg cs.toArray, s t1]) w) : finR P fn n R s [] w := by
  unfold finR
  refine ⟨rfl, _, ?_, h⟩
  have e : (mkA n s []).tmps[t]?.getD undef = .pointer (some ⟨b, 0, none⟩) := by
    rw [mkA_getElem?, if_pos (by simpa using ht)]; exact hs
  have e1 : (mkA n s []).tmps[t1]?.getD undef = s t1 := by rw [mkA_getElem?, if_pos (by simpa using h1)]; rfl
  have := run_loadVar_agg (P := P) (t := ty) (w := w) (b := b) (o := 0) hu hag hz (cs := cs) hl (fun i v hv => by have := hb.h i v hv; simpa using this)
  simp [results, hf, e, e1, asAddr, this]
/-- The result in a variable, where marks lie. -/
theorem fin1CM {P : Program} {fn : Func} {n N t ty b size bytes : Nat} {R : Value → World → Prop} {s : Sl} {ds : List Deferred} {w : World} {cs : List Value} {dd : TypeDesc} {z : Value} {e : Nat} (hf : fn.results = #[.cell t ty]) (ht : Nat.blt t n = true) (hs : s t = .pointer (some ⟨b, 0, none⟩)) (hb : Bk w b cs e) [hu : TU P ty dd] (hag : TypeDesc.isAgg dd = true) [hz : TS P ty z size bytes] (hl : cs.length = size) (hm : Mks N w ds)
    (h : ∀ w', Grow N w w' → R (.agg cs.toArray) w') : finM P fn n N R s ds w := by
  unfold finM
  refine ⟨hm, fun w' g => ⟨.agg cs.toArray, ?_, h w' g⟩⟩
  have e : (mkA n s []).tmps[t]?.getD undef = .pointer (some ⟨b, 0, none⟩) := by
    rw [mkA_getElem?, if_pos (by simpa using ht)]; exact hs
  have hA := Bk.toAt (h := hb.grow g)
  have := run_loadVar_agg (P := P) (t := ty) (w := w') (b := b) (o := 0) hu hag hz (cs := cs) hl (fun i v hv => by have := hA.h i v hv; simpa using this)
  simp [results, hf, e, asAddr, this]
end Go.Proofs.YtfebegbjggoijaaGreatDoor

/- The proof engine, part 23: regions that draw their order and whose last operation stores into what they read. -/
namespace Go.Proofs.YtfebegbjggoijaaGreatDoor
open Go.RowKit

section
variable {P : Program} {ro : Option Nat} {n : Nat} {all : List Oper} {S : World → Prop} {K : Sl → World → Prop} {x : Nat}
theorem AnyS.mono {K' : Sl → World → Prop} (hk : ∀ s w, K' s w → K s w) : ∀ {fuel : Nat} {listed : Array Bool} {s : Sl} {w : World}, AnyS P ro n all S K' fuel listed s w → AnyS P ro n all S K fuel listed s w := by
  intro fuel
  induction fuel with
  | zero =>
    intro listed s w h
    rw [AnyS.zero] at h ⊢
    exact ⟨h.1, h.2.1, hk _ _ h.2.2⟩
  | succ fuel ih =>
    intro listed s w h
    rw [AnyS.succ] at h ⊢
    exact ⟨h.1, fun e => hk _ _ (h.2.1 e), fun i hi o ho => (h.2.2 i hi o ho).mono fun v w' h => ih h⟩
/-- Each order of the operations that are not yet listed ends, and K; the world stays in S till the operation x. -/
def AnyX (P : Program) (ro : Option Nat) (n : Nat) (all : List Oper) (S : World → Prop) (K : Sl → World → Prop) (x : Nat) : Nat → Array Bool → Sl → World → Prop
  | 0, listed, s, w => (listed.getD x false = false → S w) ∧ Region.ready .any all.toArray listed = [] ∧ K s w
  | fuel + 1, listed, s, w => (listed.getD x false = false → S w) ∧ (Region.ready .any all.toArray listed = [] → K s w) ∧
      ∀ i ∈ Region.ready .any all.toArray listed, ∀ o, all[i]? = some o → Op1 P ro n all o s w (fun v w' => AnyX P ro n all S K x fuel (listed.setIfInBounds i true) (putS s o.dst v) w')
theorem AnyX.succ {fuel : Nat} {listed : Array Bool} {s : Sl} {w : World} : AnyX P ro n all S K x (fuel + 1) listed s w ↔ ((listed.getD x false = false → S w) ∧ (Region.ready .any all.toArray listed = [] → K s w) ∧
      ∀ i ∈ Region.ready .any all.toArray listed, ∀ o, all[i]? = some o → Op1 P ro n all o s w (fun v w' => AnyX P ro n all S K x fuel (listed.setIfInBounds i true) (putS s o.dst v) w')) := Iff.rfl
theorem AnyX.zero {listed : Array Bool} {s : Sl} {w : World} : AnyX P ro n all S K x 0 listed s w ↔ ((listed.getD x false = false → S w) ∧ Region.ready .any all.toArray listed = [] ∧ K s w) := Iff.rfl
theorem AnyX.inS : ∀ {fuel : Nat} {listed : Array Bool} {s : Sl} {w : World}, AnyX P ro n all S K x fuel listed s w → listed.getD x false = false → S w
  | 0, _, _, _, h => h.1
  | _ + 1, _, _, _, h => h.1
theorem AnyX.sound {ds : List Deferred} {Q : Exit → Act → World → Prop} (hQ : ∀ s w, K s w → Q .normal (mkA n s ds) w) : ∀ (fuel : Nat) (listed : Array Bool) (s : Sl) (w : World), AnyX P ro n all S K x fuel listed s w →
    wpAnyIn (Fw ro) 0 P .any all.toArray Q fuel listed (mkA n s ds) w := by
  intro fuel
  induction fuel with
  | zero => intro listed s w h; exact ⟨h.2.1, hQ _ _ h.2.2⟩
  | succ fuel ih =>
    intro listed s w h
    refine ⟨fun h0 => hQ _ _ (h.2.1 h0), fun i hi => ?_⟩
    obtain ⟨_, o, ho, _⟩ := mem_ready.1 hi
    have ho' : all[i]? = some o := by simpa using ho
    exact Op1.sound ho' (h.2.2 i hi o ho') fun v w' hk => ih _ _ _ hk
/-- The operation x stands behind the operation i. -/
def behind (all : List Oper) (x i : Nat) : Bool := (x != i) && (match all[x]? with
  | some o => o.after.toList.any fun e => Region.binds .any e && (e.on == i)
  | none => false)
theorem AnyX.first {i : Nat} {oi : Oper} {v : Value} (hn : niceAll all = true) (hi : all[i]? = some oi) (hbx : behind all x i = true) :
    ∀ (fuel : Nat) (listed : Array Bool) (s : Sl) (w : World),
      (∀ j oj, all[j]? = some oj → j ≠ i → listed.getD j true = false → (∀ e ∈ oj.after, Region.binds .any e = true → e.on ≠ i) → oi.apart all.toArray oj = true) →
      i ∈ Region.ready .any all.toArray listed → Quiet P ro n all S oi v s → S w → listed.getD x false = false →
      AnyX P ro n all S K x fuel (listed.setIfInBounds i true) (putS s oi.dst v) w → AnyX P ro n all S K x (fuel + 1) listed s w := by
  have putv : ∀ (s : Sl) (u : Value), (∀ d, oi.dst = some d → u = v) → putS s oi.dst u = putS s oi.dst v := fun s u h => by
    cases hd : oi.dst with
    | none => rfl
    | some d => rw [h d hd]
  have hxi : i ≠ x := fun e => by subst e; simp [behind] at hbx
  intro fuel
  induction fuel with
  | zero =>
    intro listed s w _ hr hy hS hx H
    refine AnyX.succ.2 ⟨fun _ => hS, fun h => (by rw [h] at hr; cases hr), fun j hj oj hoj => ?_⟩
    by_cases hji : j = i
    · subst hji
      have : oj = oi := by rw [hi] at hoj; exact (Option.some.inj hoj).symm
      subst this
      refine (hy w hS).mono fun u w' ⟨h1, h2⟩ => ?_
      subst h2; rw [putv s u h1]; exact H
    · have := ready_mono hj hji
      rw [(AnyX.zero.1 H).2.1] at this
      cases this
  | succ fuel ih =>
    intro listed s w hfree hr hy hS hx H
    refine AnyX.succ.2 ⟨fun _ => hS, fun h => (by rw [h] at hr; cases hr), fun j hj oj hoj => ?_⟩
    by_cases hji : j = i
    · subst hji
      have : oj = oi := by rw [hi] at hoj; exact (Option.some.inj hoj).symm
      subst this
      refine (hy w hS).mono fun u w' ⟨h1, h2⟩ => ?_
      subst h2; rw [putv s u h1]; exact H
    · obtain ⟨hjun, oj', hoj', hall⟩ := mem_ready.1 hj
      have : oj' = oj := by
        have : all[j]? = some oj' := by simpa using hoj'
        rw [hoj] at this; exact (Option.some.inj this).symm
      subst this
      have hnot : ∀ e ∈ oj'.after, Region.binds .any e = true → e.on ≠ i := fun e he hb heq => by
        have h1 := hall e he hb
        have h0 := (mem_ready.1 hr).1
        rw [heq] at h1
        rcases Nat.lt_or_ge i listed.size with h' | h'
        · simp [h'] at h0 h1; rw [h0] at h1; cases h1
        · simp [Array.getElem?_eq_none h'] at h1
      have hjx : j ≠ x := fun e => by
        subst e
        simp only [behind, hoj, Bool.and_eq_true, List.any_eq_true, beq_iff_eq] at hbx
        obtain ⟨_, e, he, hb, ho⟩ := hbx
        exact hnot e (by simpa using he) hb ho
      obtain ⟨a1, a2, a3⟩ := Oper.apart_spec (hfree j oj' hoj hji hjun hnot)
      have h1 := (Op1.congr (niceAll.get hn hoj) a1).2 ((AnyX.succ.1 H).2.2 j (ready_mono hj hji) oj' hoj)
      have hfree' : ∀ k ok, all[k]? = some ok → k ≠ i → (listed.setIfInBounds j true).getD k true = false →
          (∀ e ∈ ok.after, Region.binds .any e = true → e.on ≠ i) → oi.apart all.toArray ok = true := fun k ok hk hki hun hno => by
        refine hfree k ok hk hki ?_ hno
        by_cases hjk : j = k
        · subst hjk; exact hjun
        · rw [getD_set_ne true hjk] at hun; exact hun
      refine h1.mono fun u w' h3 => ?_
      have hx' : (listed.setIfInBounds j true).getD x false = false := by rw [getD_set_ne false hjx]; exact hx
      refine ih (listed.setIfInBounds j true) (putS s oj'.dst u) w' hfree' (ready_mono hr (Ne.symm hji)) (fun w hw => (Op1.congr (niceAll.get hn hi) a3).1 (hy w hw)) (h3.inS (by rw [getD_set_ne false hjx, getD_set_ne false hxi]; exact hx)) hx' ?_
      rw [Array.setIfInBounds_comm _ _ hji, ← putS_comm s v u a2]
      exact h3
theorem Takes.nilD {K : Sl → Prop} {s : Sl} (h : Takes P ro n all S [] K s) : K s := by
  with_unfolding_all exact h
theorem Takes.consD {i : Nat} {is : List Nat} {K : Sl → Prop} {s : Sl} (h : Takes P ro n all S (i :: is) K s) : ∃ o v, all[i]? = some o ∧ (∀ w, S w → Ops P ro n all [o] (fun s' w' => s' = putS s o.dst v ∧ w' = w) s w) ∧ Takes P ro n all S is K (putS s o.dst v) := by
  with_unfolding_all exact h
theorem AnyX.takes (hn : niceAll all = true) : ∀ (is : List Nat) {fuel : Nat} {listed : Array Bool} {s : Sl} {w : World}, okTake all is listed = true → is.all (behind all x) = true → listed.getD x false = false → S w →
    Takes P ro n all S is (fun s' => AnyX P ro n all S K x fuel (listAll listed is) s' w) s → AnyX P ro n all S K x (fuel + is.length) listed s w := by
  intro is
  induction is with
  | nil => intro fuel listed s w _ _ _ _ h; exact h.nilD
  | cons i is ih =>
    intro fuel listed s w hok hb hx hS h
    simp only [okTake, Bool.and_eq_true] at hok
    simp only [List.all_cons, Bool.and_eq_true] at hb
    obtain ⟨⟨h1, h2⟩, h3⟩ := hok
    obtain ⟨o, v, ho, hq, hr⟩ := h.consD
    have ho' : all.toArray[i]? = some o := by simpa using ho
    have hxi : i ≠ x := fun e => by have := hb.1; subst e; simp [behind] at this
    refine AnyX.first (v := v) hn ho hb.1 (fuel + is.length) listed s w (fun j oj hj => Region.free_spec ho' h2 j oj (by simpa using hj)) (by simpa using h1) ?_ hS hx (ih h3 hb.2 (by rw [getD_set_ne false hxi]; exact hx) hS hr)
    intro w hw
    have := hq w hw
    rw [op1_ops] at this
    refine this.mono fun u w' ⟨e1, e2⟩ => ⟨fun d hd => ?_, e2⟩
    rw [hd] at e1
    have := congrFun e1 d
    simpa [putS, upd] using this
theorem AnyX.take (is : List Nat) {fuel : Nat} {listed : Array Bool} {s : Sl} {w : World} (hok : (niceAll all && Nat.ble is.length fuel && okTake all is listed && is.all (behind all x) && !listed.getD x false) = true) (hS : S w)
    (h : Takes P ro n all S is (fun s' => AnyX P ro n all S K x (fuel - is.length) (listAll listed is) s' w) s) : AnyX P ro n all S K x fuel listed s w := by
  simp only [Bool.and_eq_true, Bool.not_eq_true'] at hok
  have hle : is.length ≤ fuel := by simpa using hok.1.1.1.2
  have := AnyX.takes (K := K) (fuel := fuel - is.length) hok.1.1.1.1 is hok.1.1.2 hok.1.2 hok.2 hS h
  rwa [Nat.sub_add_cancel hle] at this
theorem AnyX.done {fuel : Nat} {listed : Array Bool} {s : Sl} {w : World} (hr : ((Region.ready .any all.toArray listed).isEmpty && listed.getD x false) = true) (h : K s w) : AnyX P ro n all S K x fuel listed s w := by
  simp only [Bool.and_eq_true] at hr
  have hr' : Region.ready .any all.toArray listed = [] := List.isEmpty_iff.1 hr.1
  have hx : listed.getD x false = false → S w := fun h => by rw [hr.2] at h; cases h
  cases fuel with
  | zero => exact ⟨hx, hr', h⟩
  | succ fuel => exact ⟨hx, fun _ => h, fun i hi => by rw [hr'] at hi; cases hi⟩
theorem AnyX.one (i : Nat) {o : Oper} {fuel : Nat} {listed : Array Bool} {s : Sl} {w : World} (hr : (Nat.blt 0 fuel && (Region.ready .any all.toArray listed == [i])) = true) (ho : all[i]? = some o) (hS : S w)
    (h : Ops P ro n all [o] (fun s' w' => AnyX P ro n all S K x (fuel - 1) (listed.setIfInBounds i true) s' w') s w) : AnyX P ro n all S K x fuel listed s w := by
  simp only [Bool.and_eq_true, beq_iff_eq] at hr
  obtain ⟨hf, hr⟩ := hr
  have hf : 0 < fuel := by simpa using hf
  obtain ⟨f, rfl⟩ : ∃ f, fuel = f + 1 := ⟨fuel - 1, by omega⟩
  refine ⟨fun _ => hS, fun h0 => (by rw [hr] at h0; cases h0), fun j hj oj hoj => ?_⟩
  rw [hr] at hj
  obtain rfl : j = i := by simpa using hj
  obtain rfl : o = oj := by rw [ho] at hoj; exact Option.some.inj hoj
  rw [op1_ops] at h; exact h
theorem W.drawX {X : Ctx} {s : Sl} {ds : List Deferred} {w : World} {id : Nat} {ops : List Oper} [hm : Mixed P] (x : Nat) (S : World → Prop)
    (h : ∀ w1, Step w w1 → AnyX P ro n ops S (fun s' w' => X.nx s' ds w') x ops.length (Array.replicate ops.length false) s w1) : W P ro n (.region id ops.toArray true) X s ds w := by
  unfold W
  refine wpIn_region_any hm.h ?_
  have h1 := h { w with drawn := w.drawn + 1 } ⟨(Below.refl _ w).drew⟩
  have := AnyX.sound (ds := ds) (Q := X.post n) (fun s w hk => ⟨s, ds, rfl, hk⟩) _ _ _ _ h1
  simpa using this
end
attribute [irreducible] AnyX
end Go.Proofs.YtfebegbjggoijaaGreatDoor

/- leaf: open, line, has, own, order. -/
namespace Go.Proofs.YtfebegbjggoijaaGreatDoor
open Go.RowKit

section
variable (a : Option Addr) (c : Nat) (cs : List Ch) (w : World) [hrow : RowI w (.slice a cs.length c) true 2 (cs.map encCh)] [hT : TextI w cs]
set_option maxHeartbeats 1000000 in
theorem open_leaf (hs : SmallT cs) : Ct Tryz.prog 67 [.agg #[.slice a cs.length c]] w fun v w' => ∃ o, v = .tuple #[.pointer o, .int .i64 (if textB (txF cs) then 0 else 10)] ∧ (textB (txF cs) = true → ∃ b, w.heap.size ≤ b ∧ o = some ⟨b, 0, none⟩ ∧ At w' b 0 [.slice a cs.length c]) := by
  refine Ct.ofW (by simp) ?_
  (refine jjB ?_; refine jjC ?_)
  (refine jy rfl ?_; intro b1 w_b1 hb_b1 hs_b1 hS_b1 hk_b1; have hA_b1 := At.ofBlock hk_b1)
  (apply jJ; exact eN rfl; apply jJ; exact eI rfl; refine jz ?_; refine jjB ?_; refine jjB ?_; refine jjC ?_; refine jO rfl rfl rfl rfl ?_)
  obtain ⟨B, hB⟩ : ∃ B, textB (txF cs) = B := ⟨_, rfl⟩
  refine jjQ ((Check_leaf a c cs _ hs).mono fun v _ _ h => h.trans (by rw [hB])) rfl rfl ?_
  rintro _ w2 hS2 rfl
  rw [hB]
  cases B
  · (apply jJ; exact eI rfl; refine jz ?_; refine jjB ?_; refine jjC ?_; apply jI; exact eI rfl; refine jc rfl rfl ?_; refine jz ?_; refine jjJ rfl ?_; refine jjB ?_; refine jjC ?_; apply jI; exact eI rfl; apply jJ; exact eN rfl; apply jJ; exact eI rfl; refine jz ?_; refine jjF ?_; refine jC rfl rfl rfl ⟨inferInstance, ?_⟩)
    exact ⟨_, rfl, fun h => by cases h⟩
  · (apply jJ; exact eI rfl; refine jz ?_; refine jjB ?_; refine jjC ?_; apply jI; exact eI rfl; refine jc rfl rfl ?_; refine jz ?_; refine jjK rfl ?_; refine jjG ?_; refine jjB ?_; refine jjC ?_; refine jO rfl rfl rfl rfl ?_)
    (refine jjS (cells := [.slice a cs.length c]) ?_ ?_; exact rfl)
    skip
    (refine jy rfl ?_; intro b3 w_b3 hb_b3 hs_b3 hS_b3 hk_b3; have hA_b3 := At.ofBlock hk_b3)
    (apply jJ; exact eP rfl; apply jJ; exact eI rfl; refine jz ?_; refine jjF ?_; refine jC rfl rfl rfl ⟨inferInstance, ?_⟩)
    exact ⟨_, rfl, fun _ => ⟨b3, by have := (inferInstance : Ext w w2).size; omega, rfl, inferInstance⟩⟩
end
end Go.Proofs.YtfebegbjggoijaaGreatDoor

/- leaf: has; the kinds of readings. -/
namespace Go.Proofs.YtfebegbjggoijaaGreatDoor
open Go.RowKit

section
variable (a : Option Addr) (c : Nat) (cs : List Ch) (w : World) [hrow : RowI w (.slice a cs.length c) true 2 (cs.map encCh)] [hT : TextI w cs]
end
end Go.Proofs.YtfebegbjggoijaaGreatDoor

/- What readings of copies and slips say; what the table of kinds holds when the call begins; a number that the library keeps. -/
namespace Go.Proofs.YtfebegbjggoijaaGreatDoor
open Go.ChangeShapes Go.WideShapes Go.ChangeAt Go.RowKit Go.WideElems

end Go.Proofs.YtfebegbjggoijaaGreatDoor

/- Readings of blocks; what the way that is none holds. -/
namespace Go.Proofs.YtfebegbjggoijaaGreatDoor
open Go.ChangeShapes Go.WideShapes Go.ChangeAt Go.RowKit Go.WideElems

theorem none_laid2 {W : World} {laid : List (String × DataW Unit)} (h : laidMetH Tryz.prog laid W) (hx : (laid.filter fun x => x.1 == "postil/galley.none") = [("postil/galley.none", Rows.laid_postil_galley_none)]) : At W 0 0 [.int .i64 (-1), .int .i64 (-1)] := by
  have h1 := laidMetH.filter (fun x => x.1 == "postil/galley.none") h
  rw [hx, Go.MakeChecks.laidMetH_plain _ _ _ rfl] at h1
  exact none_laid h1
end Go.Proofs.YtfebegbjggoijaaGreatDoor

/- Numbers of 32 bits in rows. -/
namespace Go.Proofs.YtfebegbjggoijaaGreatDoor
open Go.RowKit
abbrev u32V (x : Int) : Value := .int .u32 x
def U32s (l : List Int) : Prop := ∀ x ∈ l, 0 ≤ x ∧ x ≤ 4294967295
end Go.Proofs.YtfebegbjggoijaaGreatDoor

/- Readings of lists of numbers of 32 bits. -/
namespace Go.Proofs.YtfebegbjggoijaaGreatDoor
open Go.ChangeShapes Go.WideShapes Go.ChangeAt Go.RowKit Go.WideElems

set_option maxRecDepth 100000 in
theorem read_u32s {H : Type} {enc : TypeId × Value → H} {W : World} {base : Nat} {v : Value} {d : DataW H} {p : List MemPlace} (hv : Value.okWide Tryz.prog W .any base 25 v) (h : DataW.Trod enc Tryz.prog W 0 (fun _ => true) true 25 v d p)
    (hw : ∀ q ∈ d.weights Tryz.prog 25, q ≤ reachBytes) : ∃ (a : Option Addr) (c : Nat) (l : List Int), v = .slice a l.length c ∧ RowV W false 1 (.slice a l.length c) (l.map u32V) ∧ U32s l := by
  obtain ⟨a0, l0, c0, rfl⟩ := okWide_slice Tryz.underlying25 hv
  obtain ⟨fuel, hf⟩ := h
  have hf' : DataW.trod enc Tryz.prog W 0 (fun _ => true) true fuel 25 [.slice a0 l0 c0] = some (d, p) := hf
  obtain ⟨a, c, vs, e, hR, hE⟩ := rowV_of_trod (t := 25) (k := 1) (agg := false) (by kernel_rfl) (by omega) (fun _ => rfl) (fun _ _ _ _ e => by
    obtain ⟨m, e, _, _⟩ := DataW.trod_int Tryz.underlying108 e
    cases e; rfl) (of_decide_eq_true (by kernel_rfl)) hf' hw
  obtain ⟨l, rfl, hq⟩ := exists_map (enc := u32V) (Q := fun x => 0 ≤ x ∧ x ≤ 4294967295) (vs := vs) fun y hy => by
    obtain ⟨n', z, hz, _⟩ := hE y hy
    have hfit := hR.fit y hy
    have hc : y.cells.toList = [y] := by cases y <;> simp [fitsV] at hfit <;> rfl
    rw [hc] at hz
    obtain ⟨m, e, _, hr⟩ := DataW.trod_int Tryz.underlying108 hz
    cases e
    simp only [Lit.wf, Bool.and_eq_true, decide_eq_true_eq] at hr
    have m1 : IntKind.u32.min = 0 := by decide
    have m2 : IntKind.u32.max = 4294967295 := by decide
    rw [m1, m2] at hr
    exact ⟨m, rfl, hr⟩
  rw [e] at hR ⊢
  rw [List.length_map] at hR ⊢
  exact ⟨a, c, l, rfl, hR, hq⟩
end Go.Proofs.YtfebegbjggoijaaGreatDoor

/- Readings of numbers of 16 and of 8 bits. -/
namespace Go.Proofs.YtfebegbjggoijaaGreatDoor
open Go.ChangeShapes Go.WideShapes Go.ChangeAt Go.RowKit
set_option maxRecDepth 100000 in
theorem read_u8 {H : Type} {enc : TypeId × Value → H} {W : World} {base : Nat} {v : Value} {d : DataW H} {p : List MemPlace} (hv : Value.okWide Tryz.prog W .any base 5 v) (h : DataW.Trod enc Tryz.prog W 0 (fun _ => true) true 5 v d p) :
    ∃ m : Nat, v = .int .u8 (m : Int) ∧ m ≤ 255 := by
  obtain ⟨x, rfl⟩ := okWide_int Tryz.underlying5 hv
  obtain ⟨n, hn⟩ := h
  obtain ⟨m, e, _, hr⟩ := DataW.trod_int Tryz.underlying5 hn
  cases e
  simp only [Lit.wf, Bool.and_eq_true, decide_eq_true_eq] at hr
  have m1 : IntKind.u8.min = 0 := by decide
  have m2 : IntKind.u8.max = 255 := by decide
  rw [m1, m2] at hr
  exact ⟨x.toNat, congrArg (Value.int .u8) (by omega), by omega⟩
end Go.Proofs.YtfebegbjggoijaaGreatDoor

/- Plain law: runs of words, contexts, the longest context. -/
namespace Go.Proofs.YtfebegbjggoijaaGreatDoor
open Go.RowKit

/-! ### Words and places of a chapter -/
def lnP (k n : Nat) (q : Nat) : List Pl := (List.range q).map fun (w : Nat) => ((k : Int), (n : Int), (w : Int))
def runAn (k : Nat) (x : List (List ByteArray)) (n : Nat) : List Pl := (List.range n).flatMap fun i => lnP k i (x.getD i []).length
def runA (k : Nat) (x : List (List ByteArray)) : List Pl := runAn k x x.length
theorem lnP_succ (k n q : Nat) : lnP k n (q + 1) = lnP k n q ++ [((k : Int), (n : Int), (q : Int))] := by simp [lnP, List.range_succ]
theorem lnP_len (k n q : Nat) : (lnP k n q).length = q := by simp [lnP]
theorem runAn_succ (k : Nat) {x : List (List ByteArray)} {n : Nat} {y : List ByteArray} (h : x[n]? = some y) : runAn k x (n + 1) = runAn k x n ++ lnP k n y.length := by
  simp [runAn, List.range_succ, List.getD_eq_getElem?_getD, h]
theorem runAn_len (k : Nat) {x : List (List ByteArray)} : ∀ {n : Nat}, n ≤ x.length → (runAn k x n).length = (x.take n).flatten.length
  | 0, _ => by simp [runAn]
  | n + 1, h => by
    have hg : x[n]? = some x[n] := List.getElem?_eq_getElem (by omega)
    rw [runAn_succ k hg, take_snoc_get hg, List.length_append, runAn_len k (by omega), lnP_len, List.flatten_append, List.length_append, List.flatten_singleton]
theorem runA_len (k : Nat) (x : List (List ByteArray)) : (runA k x).length = x.flatten.length := by
  rw [runA, runAn_len k (Nat.le_refl _), List.take_length]
theorem flatW_len {m : Nat} : ∀ {x : List (List ByteArray)}, (∀ y ∈ x, y.length ≤ m) → x.flatten.length ≤ x.length * m
  | [], _ => by simp
  | y :: x, h => by
    have := flatW_len (x := x) fun z hz => h z (by simp [hz])
    have := h y (by simp)
    rw [List.flatten_cons, List.length_append, List.length_cons, Nat.add_mul]
    omega
theorem flat_take {m n : Nat} {x : List (List ByteArray)} (h : ∀ y ∈ x, y.length ≤ m) (hn : n ≤ 1000) : (x.take n).flatten.length ≤ 1000 * m := by
  have h1 := flatW_len (x := x.take n) (m := m) fun y hy => h y (List.mem_of_mem_take hy)
  have h2 : (x.take n).length ≤ 1000 := by rw [List.length_take]; omega
  exact Nat.le_trans h1 (Nat.mul_le_mul_right _ h2)
theorem flat_step {x : List (List ByteArray)} {n q : Nat} {y : List ByteArray} {s : ByteArray} (h : y[q]? = some s) : ((x.take n).flatten ++ y.take q) ++ [s] = (x.take n).flatten ++ y.take (q + 1) := by
  rw [take_snoc_get h, List.append_assoc]
theorem flat_next {x : List (List ByteArray)} {n : Nat} {y : List ByteArray} (h : x[n]? = some y) : (x.take n).flatten ++ y = (x.take (n + 1)).flatten := by
  rw [take_snoc_get h]; simp

/-! ### Lengths -/
abbrev Cx := Nat × Nat
def preW (ws : List ByteArray) (k : Nat) : Nat := ((ws.take k).map fun s => s.size + 1).sum
theorem preW_succ {ws : List ByteArray} {k : Nat} (h : k < ws.length) : preW ws (k + 1) = preW ws k + ws[k].size + 1 := by
  rw [preW, preW, take_snoc_get (List.getElem?_eq_getElem h), List.map_append, List.sum_append]; simp only [List.map_cons, List.map_nil, List.sum_cons, List.sum_nil]; omega
theorem preW_mono {ws : List ByteArray} {a b : Nat} (h : a ≤ b) (hb : b ≤ ws.length) : preW ws a + (b - a) ≤ preW ws b := by
  obtain ⟨d, rfl⟩ : ∃ d, b = a + d := ⟨b - a, by omega⟩
  induction d with
  | zero => simp
  | succ d ih =>
    have := ih (by omega) (by omega)
    rw [← Nat.add_assoc, preW_succ (by omega)]
    omega
theorem preW_le {ws : List ByteArray} {m : Nat} (h : ∀ s ∈ ws, s.size ≤ m) : ∀ {k : Nat}, k ≤ ws.length → preW ws k ≤ k * (m + 1)
  | 0, _ => by simp [preW]
  | k + 1, hk => by
    rw [preW_succ hk, Nat.add_mul]
    have := preW_le h (k := k) (by omega)
    have := h _ (List.getElem_mem hk)
    omega
/-- The length of the words from one to another one, with spaces. -/
def lenX (ws : List ByteArray) (x : Cx) : Int := (preW ws (x.2 + 1) : Int) - preW ws x.1 - 1
theorem lenX_to {ws : List ByteArray} {a b : Nat} (h : b + 1 < ws.length) : lenX ws (a, b + 1) = lenX ws (a, b) + (ws[b + 1].size + 1) := by
  simp only [lenX]; rw [preW_succ h]; omega
theorem lenX_from {ws : List ByteArray} {a b : Nat} (h : a < ws.length) : lenX ws (a, b) = lenX ws (a + 1, b) + (ws[a].size + 1) := by
  simp only [lenX]; rw [preW_succ h]; omega
theorem lenX_self {ws : List ByteArray} {a : Nat} (h : a < ws.length) : lenX ws (a, a) = ws[a].size := by
  simp only [lenX]; rw [preW_succ h]; omega
theorem lenX_mono {ws : List ByteArray} {a b a' b' : Nat} (ha : a' ≤ a) (hb : b ≤ b') (hl : b' < ws.length) (hab : a ≤ b) : lenX ws (a, b) ≤ lenX ws (a', b') := by
  simp only [lenX]
  have := preW_mono (ws := ws) ha (by omega)
  have := preW_mono (ws := ws) (a := b + 1) (b := b' + 1) (by omega) (by omega)
  omega
theorem lenX_inj {ws : List ByteArray} {a b b' : Nat} (hb : b < ws.length) (hb' : b' < ws.length) (h : lenX ws (a, b) = lenX ws (a, b')) : b = b' := by
  simp only [lenX] at h
  rcases Nat.lt_trichotomy b b' with hl | he | hl
  · have := preW_mono (ws := ws) (a := b + 1) (b := b' + 1) (by omega) (by omega); omega
  · exact he
  · have := preW_mono (ws := ws) (a := b' + 1) (b := b + 1) (by omega) (by omega); omega
theorem lenX_bound {ws : List ByteArray} {a b : Nat} (hs : ∀ s ∈ ws, s.size ≤ 1000) (hn : ws.length ≤ 1000000) (hab : a ≤ b) (hb : b < ws.length) : 0 ≤ lenX ws (a, b) ∧ lenX ws (a, b) ≤ 1001000000 := by
  have h1 := preW_le hs (k := b + 1) (by omega)
  have h2 := preW_mono (ws := ws) (a := a) (b := b + 1) (by omega) (by omega)
  simp only [lenX]
  have : (b + 1) * 1001 ≤ 1000000 * 1001 := Nat.mul_le_mul_right _ (by omega)
  omega

/-! ### The order of contexts -/
def unE (i : Nat) (x : Cx) : Int := max ((i : Int) - x.1 - ((x.2 : Int) - i)) (-((i : Int) - x.1 - ((x.2 : Int) - i)))
def sdI (side : Int) (i : Nat) (x y : Cx) : Int := if side = 1 then (x.1 : Int) - y.1 else if side = 2 then (y.1 : Int) - x.1 else orF [unE i x - unE i y, (y.1 : Int) - x.1]
def ordI (ws : List ByteArray) (side : Int) (i : Nat) (x y : Cx) : Int := orF [lenX ws y - lenX ws x, sdI side i x y]
theorem orF_1 (a : Int) : orF [a] = a := by unfold orF orF; split <;> omega
theorem orF_2 (a b : Int) : orF [a, b] = if a = 0 then b else a := by rw [orF, orF_1]
theorem ordI_lt (ws : List ByteArray) (side : Int) (i : Nat) (x y : Cx) : ordI ws side i x y < 0 ↔ lenX ws y < lenX ws x ∨ lenX ws y = lenX ws x ∧ sdI side i x y < 0 := by
  rw [ordI, orF_2]; split <;> omega
theorem sdI_lt (side : Int) (i : Nat) (x y : Cx) : sdI side i x y < 0 ↔ (side = 1 ∧ x.1 < y.1) ∨ (side ≠ 1 ∧ side = 2 ∧ y.1 < x.1) ∨ (side ≠ 1 ∧ side ≠ 2 ∧ (unE i x < unE i y ∨ unE i x = unE i y ∧ y.1 < x.1)) := by
  unfold sdI
  split
  · omega
  · split
    · omega
    · rw [orF_2]; split <;> omega
theorem ordI_trans {ws : List ByteArray} {side : Int} {i : Nat} {x y z : Cx} (h1 : ordI ws side i x y < 0) (h2 : ordI ws side i y z < 0) : ordI ws side i x z < 0 := by
  rw [ordI_lt, sdI_lt] at *
  omega
theorem ordI_asymm {ws : List ByteArray} {side : Int} {i : Nat} {x y : Cx} (h1 : ordI ws side i x y < 0) (h2 : ordI ws side i y x < 0) : False := by
  rw [ordI_lt, sdI_lt] at *
  omega
theorem ordI_total {ws : List ByteArray} {side : Int} {i : Nat} {x y : Cx} (hx : x.2 < ws.length) (hy : y.2 < ws.length) (hne : x ≠ y) : ordI ws side i x y < 0 ∨ ordI ws side i y x < 0 := by
  by_cases he : x.1 = y.1
  · have : lenX ws x ≠ lenX ws y := fun h => by
      obtain ⟨a, b⟩ := x
      obtain ⟨a', b'⟩ := y
      simp only at he
      subst he
      exact hne (congrArg _ (lenX_inj hx hy h))
    rw [ordI_lt, ordI_lt]; omega
  · rw [ordI_lt, ordI_lt, sdI_lt, sdI_lt]
    omega

/-! ### The first of a list -/
def bestS (o : Cx → Cx → Int) (b : Option Cx) (x : Cx) : Option Cx := match b with
  | none => some x
  | some y => if o x y < 0 then some x else some y
def fstF (o : Cx → Cx → Int) (l : List Cx) : Option Cx := l.foldl (bestS o) none
def bestR (o : Cx → Cx → Int) (b x : Cx) : Cx := if o x b < 0 then x else b
theorem foldl_some (o : Cx → Cx → Int) : ∀ (l : List Cx) (b : Cx), l.foldl (bestS o) (some b) = some (l.foldl (bestR o) b)
  | [], _ => rfl
  | x :: l, b => by
    rw [List.foldl_cons, List.foldl_cons]
    have : bestS o (some b) x = some (bestR o b x) := by simp only [bestS, bestR]; split <;> rfl
    rw [this, foldl_some o l]
def IsMin (o : Cx → Cx → Int) (l : List Cx) (m : Cx) : Prop := m ∈ l ∧ ∀ y ∈ l, y = m ∨ o m y < 0
theorem foldl_min (o : Cx → Cx → Int) (ht : ∀ x y z, o x y < 0 → o y z < 0 → o x z < 0) : ∀ (l : List Cx) (b : Cx), (∀ x ∈ b :: l, ∀ y ∈ b :: l, x ≠ y → o x y < 0 ∨ o y x < 0) → IsMin o (b :: l) (l.foldl (bestR o) b)
  | [], b, _ => ⟨by simp, fun y hy => by simp at hy; exact .inl hy⟩
  | x :: l, b, hT => by
    rw [List.foldl_cons]
    have hsub : ∀ z, z ∈ bestR o b x :: l → z ∈ b :: x :: l := fun z hz => by
      rcases List.mem_cons.1 hz with rfl | hz
      · unfold bestR; split <;> simp
      · simp [hz]
    obtain ⟨h1, h2⟩ := foldl_min o ht l (bestR o b x) fun u hu v hv => hT u (hsub u hu) v (hsub v hv)
    generalize l.foldl (bestR o) (bestR o b x) = m at h1 h2
    refine ⟨hsub _ h1, fun y hy => ?_⟩
    have hb : bestR o b x = m ∨ o m (bestR o b x) < 0 := h2 _ (by simp)
    have key : y = bestR o b x ∨ o (bestR o b x) y < 0 ∨ y ∈ l := by
      rcases List.mem_cons.1 hy with rfl | hy
      · by_cases e : x = y
        · subst e; left; unfold bestR; split <;> rfl
        · unfold bestR
          split
          · exact .inr (.inl ‹_›)
          · exact .inl rfl
      · rcases List.mem_cons.1 hy with rfl | hy
        · by_cases e : y = b
          · subst e; left; unfold bestR; split <;> rfl
          · unfold bestR
            split
            · exact .inl rfl
            · rename_i hn
              rcases hT y (by simp) b (by simp) e with h | h
              · exact absurd h hn
              · exact .inr (.inl h)
        · exact .inr (.inr hy)
    rcases key with rfl | h | h
    · rcases hb with e | h
      · exact .inl e
      · exact .inr h
    · rcases hb with e | h'
      · rw [← e]; exact .inr h
      · exact .inr (ht _ _ _ h' h)
    · exact h2 _ (by simp [h])
theorem min_unique {o : Cx → Cx → Int} (ha : ∀ x y, o x y < 0 → o y x < 0 → False) {l l' : List Cx} {m m' : Cx} (h : IsMin o l m) (h' : IsMin o l' m') (e : ∀ x, x ∈ l ↔ x ∈ l') : m = m' := by
  rcases h.2 m' ((e _).2 h'.1) with h1 | h1
  · exact h1.symm
  · rcases h'.2 m ((e _).1 h.1) with h2 | h2
    · exact h2
    · exact (ha _ _ h1 h2).elim

/-! ### Contexts -/
def okX (ws : List ByteArray) (W : Int) (x : Cx) : Bool := decide (lenX ws x ≤ W)
def ctxTo (ws : List ByteArray) (i : Nat) (W : Int) (a m : Nat) : List Cx := ((List.range m).map fun t => (a, i + t)).filter (okX ws W)
def ctxN (ws : List ByteArray) (i : Nat) (W : Int) (f : Nat) : List Cx := (List.range f).flatMap fun j => ctxTo ws i W (i - j) (ws.length - i)
def ctxA (ws : List ByteArray) (i : Nat) (W : Int) : List Cx := ctxN ws i W (i + 1)
theorem range_split {j m : Nat} (h : j < m) : ∃ r, List.range m = List.range j ++ j :: r := by
  refine ⟨(List.range m).drop (j + 1), ?_⟩
  have h1 := List.take_append_drop j (List.range m)
  rw [List.take_range, Nat.min_eq_left (by omega)] at h1
  rw [List.drop_eq_getElem_cons (by simpa using h), List.getElem_range] at h1
  exact h1.symm
theorem ctxTo_succ (ws : List ByteArray) (i : Nat) (W : Int) (a t : Nat) : ctxTo ws i W a (t + 1) = ctxTo ws i W a t ++ (if okX ws W (a, i + t) then [(a, i + t)] else []) := by
  simp only [ctxTo, List.range_succ, List.map_append, List.filter_append, List.map_cons, List.map_nil]
  congr 1
  by_cases h : okX ws W (a, i + t) = true
  · rw [if_pos h]; simp [h]
  · rw [if_neg h]; simp [h]
theorem ctxTo_split (ws : List ByteArray) (i : Nat) (W : Int) (a : Nat) {t m : Nat} (h : t < m) (hok : okX ws W (a, i + t) = true) : ∃ r, ctxTo ws i W a m = ctxTo ws i W a t ++ (a, i + t) :: r := by
  obtain ⟨r, hr⟩ := range_split h
  refine ⟨(r.map fun t => (a, i + t)).filter (okX ws W), ?_⟩
  rw [ctxTo, hr, List.map_append, List.filter_append, List.map_cons, List.filter_cons_of_pos hok]; rfl
theorem ctx_get {ws : List ByteArray} {i : Nat} {W : Int} {j t : Nat} (hj : j ≤ i) (ht : i + t < ws.length) (hok : lenX ws (i - j, i + t) ≤ W) :
    (ctxA ws i W)[(ctxN ws i W j ++ ctxTo ws i W (i - j) t).length]? = some (i - j, i + t) := by
  obtain ⟨r, hr⟩ := range_split (j := j) (m := i + 1) (by omega)
  obtain ⟨q, hq⟩ := ctxTo_split ws i W (i - j) (t := t) (m := ws.length - i) (by omega) (decide_eq_true hok)
  have : ctxA ws i W = (ctxN ws i W j ++ ctxTo ws i W (i - j) t) ++ (i - j, i + t) :: (q ++ r.flatMap fun j => ctxTo ws i W (i - j) (ws.length - i)) := by
    rw [ctxA, ctxN, hr, List.flatMap_append, List.flatMap_cons, hq]
    simp [ctxN]
  rw [this]
  simp
theorem ctxTo_stop {ws : List ByteArray} {i : Nat} {W : Int} {a : Nat} (hai : a ≤ i) {t m : Nat} (hm : i + m ≤ ws.length) (htm : t ≤ m) (h : W < lenX ws (a, i + t)) : ctxTo ws i W a m = ctxTo ws i W a t := by
  obtain ⟨d, rfl⟩ : ∃ d, m = t + d := ⟨m - t, by omega⟩
  induction d with
  | zero => rfl
  | succ d ih =>
    rw [← Nat.add_assoc, ctxTo_succ, ih (by omega) (by omega), if_neg, List.append_nil]
    have := lenX_mono (ws := ws) (a := a) (a' := a) (b := i + t) (b' := i + (t + d)) (Nat.le_refl _) (by omega) (by omega) (by omega)
    simp only [okX, decide_eq_true_eq]; omega
theorem ctxN_succ (ws : List ByteArray) (i : Nat) (W : Int) (j : Nat) : ctxN ws i W (j + 1) = ctxN ws i W j ++ ctxTo ws i W (i - j) (ws.length - i) := by
  simp [ctxN, List.range_succ]
theorem ctxN_stop {ws : List ByteArray} {i : Nat} {W : Int} {j m : Nat} (hi : i < ws.length) (hjm : j ≤ m) (h : W < lenX ws (i - j, i)) : ctxN ws i W m = ctxN ws i W j := by
  obtain ⟨d, rfl⟩ : ∃ d, m = j + d := ⟨m - j, by omega⟩
  induction d with
  | zero => rfl
  | succ d ih =>
    have h0 : ctxTo ws i W (i - (j + d)) (ws.length - i) = ctxTo ws i W (i - (j + d)) 0 := by
      refine ctxTo_stop (by omega) (by omega) (by omega) ?_
      have := lenX_mono (ws := ws) (a := i - j) (a' := i - (j + d)) (b := i) (b' := i) (by omega) (Nat.le_refl _) hi (by omega)
      rw [Nat.add_zero]; omega
    rw [← Nat.add_assoc, ctxN_succ, ih (by omega), h0]
    simp [ctxTo]
theorem mem_ctxTo {ws : List ByteArray} {i : Nat} {W : Int} {a m : Nat} {x : Cx} : x ∈ ctxTo ws i W a m ↔ x.1 = a ∧ i ≤ x.2 ∧ x.2 < i + m ∧ lenX ws x ≤ W := by
  simp only [ctxTo, List.mem_filter, List.mem_map, List.mem_range, okX, decide_eq_true_eq]
  constructor
  · rintro ⟨⟨t, ht, rfl⟩, h⟩; exact ⟨rfl, by simp, by simp; omega, h⟩
  · rintro ⟨rfl, h1, h2, h3⟩
    exact ⟨⟨x.2 - i, by omega, by ext <;> simp; omega⟩, h3⟩
theorem mem_ctxA {ws : List ByteArray} {i : Nat} {W : Int} {x : Cx} (hi : i < ws.length) : x ∈ ctxA ws i W ↔ x.1 ≤ i ∧ i ≤ x.2 ∧ x.2 < ws.length ∧ lenX ws x ≤ W := by
  simp only [ctxA, ctxN, List.mem_flatMap, List.mem_range, mem_ctxTo]
  constructor
  · rintro ⟨j, hj, h1, h2, h3, h4⟩; exact ⟨by omega, h2, by omega, h4⟩
  · rintro ⟨h1, h2, h3, h4⟩; exact ⟨i - x.1, by omega, by omega, h2, by omega, h4⟩
/-- The reference's contexts, in its order. -/
def refN (ws : List ByteArray) (i : Nat) (W : Int) (f : Nat) : List Cx := (List.range f).flatMap fun a => ctxTo ws i W a (ws.length - i)
def refA (ws : List ByteArray) (i : Nat) (W : Int) : List Cx := refN ws i W (i + 1)
theorem mem_refA {ws : List ByteArray} {i : Nat} {W : Int} {x : Cx} (hi : i < ws.length) : x ∈ refA ws i W ↔ x.1 ≤ i ∧ i ≤ x.2 ∧ x.2 < ws.length ∧ lenX ws x ≤ W := by
  simp only [refA, refN, List.mem_flatMap, List.mem_range, mem_ctxTo]
  constructor
  · rintro ⟨j, hj, h1, h2, h3, h4⟩; exact ⟨by omega, h2, by omega, h4⟩
  · rintro ⟨h1, h2, h3, h4⟩; exact ⟨x.1, by omega, rfl, h2, by omega, h4⟩
def bestA (ws : List ByteArray) (side W : Int) (i : Nat) : Cx := (refA ws i W).foldl (bestR (ordI ws side i)) (i, i)
/-- The law: the first of the code's contexts is the reference's. -/
theorem fst_best {ws : List ByteArray} {side W : Int} {i : Nat} (hi : i < ws.length) (hW : (ws[i].size : Int) ≤ W) : fstF (ordI ws side i) (ctxA ws i W) = some (bestA ws side W i) := by
  have hself : lenX ws (i, i) ≤ W := by rw [lenX_self hi]; exact hW
  have hne : ctxA ws i W ≠ [] := fun h => by
    have : (i, i) ∈ ctxA ws i W := (mem_ctxA hi).2 ⟨Nat.le_refl _, Nat.le_refl _, hi, hself⟩
    rw [h] at this; cases this
  obtain ⟨c, cs, hc⟩ := List.exists_cons_of_ne_nil hne
  rw [fstF, hc, List.foldl_cons, show bestS (ordI ws side i) none c = some c from rfl, foldl_some]
  congr 1
  have ht : ∀ x y z, ordI ws side i x y < 0 → ordI ws side i y z < 0 → ordI ws side i x z < 0 := fun _ _ _ => ordI_trans
  have m1 := foldl_min (ordI ws side i) ht cs c fun x hx y hy hne => by
    rw [← hc, mem_ctxA hi] at hx hy
    exact ordI_total hx.2.2.1 hy.2.2.1 hne
  have hin : ∀ x, x ∈ (i, i) :: refA ws i W ↔ x ∈ ctxA ws i W := fun x => by
    rw [List.mem_cons, mem_refA hi, mem_ctxA hi]
    constructor
    · rintro (rfl | h)
      · exact ⟨Nat.le_refl _, Nat.le_refl _, hi, hself⟩
      · exact h
    · exact .inr
  have m2 := foldl_min (ordI ws side i) ht (refA ws i W) (i, i) fun x hx y hy hne => by
    rw [hin, mem_ctxA hi] at hx hy
    exact ordI_total hx.2.2.1 hy.2.2.1 hne
  refine min_unique (fun _ _ => ordI_asymm) m1 m2 fun x => ?_
  rw [← hc, hin]
end Go.Proofs.YtfebegbjggoijaaGreatDoor

/- Plain law: places of a chapter, lengths of parts of it, its slips. -/
namespace Go.Proofs.YtfebegbjggoijaaGreatDoor
open Go.RowKit

theorem runA_nodup (k : Nat) (x : List (List ByteArray)) : (runA k x).Nodup := by
  unfold runA runAn List.Nodup
  rw [List.pairwise_flatMap]
  refine ⟨fun i _ => ?_, ?_⟩
  · refine List.pairwise_map.2 (List.Pairwise.imp (R := (· < ·)) ?_ List.pairwise_lt_range)
    intro a b h e
    simp only [Prod.mk.injEq] at e
    omega
  · refine List.Pairwise.imp (R := (· < ·)) ?_ List.pairwise_lt_range
    intro a b h p hp q hq e
    simp only [lnP, List.mem_map] at hp hq
    obtain ⟨_, _, rfl⟩ := hp
    obtain ⟨_, _, rfl⟩ := hq
    simp only [Prod.mk.injEq] at e
    omega
theorem nodup_inj {α : Type} {l : List α} (h : l.Nodup) {i j : Nat} {x : α} (hi : l[i]? = some x) (hj : l[j]? = some x) : i = j := by
  obtain ⟨hi1, hi2⟩ := List.getElem?_eq_some_iff.1 hi
  obtain ⟨hj1, hj2⟩ := List.getElem?_eq_some_iff.1 hj
  rcases Nat.lt_trichotomy i j with hl | he | hl
  · exact absurd (hi2.trans hj2.symm) (List.pairwise_iff_getElem.1 h i j hi1 hj1 hl)
  · exact he
  · exact absurd (hj2.trans hi2.symm) (List.pairwise_iff_getElem.1 h j i hj1 hi1 hl)
/-- The slip of the word i of a run, at place p. -/
def slipX (ws : List ByteArray) (side W : Int) (i : Nat) (p : Pl) : Slp :=
  (p, ws.getD i ⟨#[]⟩, joinB ((ws.take i).drop (bestA ws side W i).1), joinB ((ws.take ((bestA ws side W i).2 + 1)).drop (i + 1)))
/-- The state of the reference's search. -/
def stA (ws : List ByteArray) (side W : Int) (i a : Nat) : Cx := (refN ws i W a).foldl (bestR (ordI ws side i)) (i, i)
def stB (ws : List ByteArray) (side W : Int) (i a m : Nat) : Cx := (ctxTo ws i W a m).foldl (bestR (ordI ws side i)) (stA ws side W i a)
theorem stA_end (ws : List ByteArray) (side W : Int) (i : Nat) : stA ws side W i (i + 1) = bestA ws side W i := rfl
theorem stB_zero (ws : List ByteArray) (side W : Int) (i a : Nat) : stB ws side W i a 0 = stA ws side W i a := rfl
theorem foldl_inv {α β : Type} (P : β → Prop) (f : β → α → β) : ∀ (l : List α) (b : β), P b → (∀ b x, x ∈ l → P b → P (f b x)) → P (l.foldl f b)
  | [], _, h, _ => h
  | x :: l, b, h, hf => foldl_inv P f l (f b x) (hf b x (by simp) h) fun b y hy => hf b y (by simp [hy])
theorem stB_in {ws : List ByteArray} {side W : Int} {i a m : Nat} (hi : i < ws.length) (ha : a ≤ i + 1) (hm : i + m ≤ ws.length) (ham : a ≤ i ∨ m = 0) : (stB ws side W i a m).1 ≤ i ∧ i ≤ (stB ws side W i a m).2 ∧ (stB ws side W i a m).2 < ws.length := by
  have h1 : ∀ (b x : Cx), (x.1 ≤ i ∧ i ≤ x.2 ∧ x.2 < ws.length) → (b.1 ≤ i ∧ i ≤ b.2 ∧ b.2 < ws.length) → ((bestR (ordI ws side i) b x).1 ≤ i ∧ i ≤ (bestR (ordI ws side i) b x).2 ∧ (bestR (ordI ws side i) b x).2 < ws.length) := fun b x hx hb => by
    unfold bestR; split
    · exact hx
    · exact hb
  refine foldl_inv (fun y : Cx => y.1 ≤ i ∧ i ≤ y.2 ∧ y.2 < ws.length) _ _ _ (foldl_inv (fun y : Cx => y.1 ≤ i ∧ i ≤ y.2 ∧ y.2 < ws.length) _ _ _ ⟨Nat.le_refl _, Nat.le_refl _, hi⟩ ?_) ?_
  · intro b x hx hb
    simp only [refN, List.mem_flatMap, List.mem_range, mem_ctxTo] at hx
    obtain ⟨j, hj, h2, h3, h4, _⟩ := hx
    exact h1 b x ⟨by omega, h3, by omega⟩ hb
  · intro b x hx hb
    rw [mem_ctxTo] at hx
    exact h1 b x ⟨by omega, hx.2.1, by omega⟩ hb
end Go.Proofs.YtfebegbjggoijaaGreatDoor

/- slip: the run of a chapter. -/
namespace Go.Proofs.YtfebegbjggoijaaGreatDoor
open Go.RowKit

abbrev chW (x : Ch) : List (List ByteArray) := x.2.2.2.map (·.2.2)
/-- The words of a chapter. -/
abbrev rnW (x : Ch) : List ByteArray := (chW x).flatten
theorem one_str (s : ByteArray) : [strV s].all (fun v => v.cells.toList.all (·.oneCell')) = true := rfl
theorem one_pl (p : Pl) : [encPl p].all (fun v => v.cells.toList.all (·.oneCell')) = true := rfl
theorem chW_get {x : Ch} {n : Nat} (h : n < x.2.2.2.length) : (chW x)[n]? = some x.2.2.2[n].2.2 := by simp [chW, h]
theorem chW_small {x : Ch} (h : ∀ y ∈ x.2.2.2, y.2.2.length ≤ 1000) : ∀ y ∈ chW x, y.length ≤ 1000 := fun y hy => by
  obtain ⟨l, hl, rfl⟩ := List.mem_map.1 hy
  exact h l hl

section
variable (a : Option Addr) (c : Nat) (cs : List Ch) (w : World) [hrow : RowI w (.slice a cs.length c) true 2 (cs.map encCh)] [hT : TextI w cs]
set_option maxHeartbeats 4000000 in
theorem runs_slip (hs : SmallT cs) (width side : Int) (k : Nat) (hk : k < cs.length) : Ct Tryz.prog 97 [.agg #[.slice a cs.length c], .agg #[.int .i64 width, .int .u8 side], .int .i64 (k : Int)] w fun v w' =>
    ∃ wv av, v = .agg #[.int .i64 width, .int .u8 side, wv, av] ∧ OwnL w' w.heap.size 9 false 1 wv ((rnW cs[k]).map strV) ∧ OwnL w' w.heap.size 111 true 3 av ((runA k (chW cs[k])).map encPl) := by
  have hs1 := hs.1
  have hsk := hs.2 _ (List.getElem_mem hk)
  have hsl := hsk.1
  have hsm := chW_small fun y hy => (hsk.2 y hy).1
  have hcl : (chW cs[k]).length = cs[k].2.2.2.length := by simp [chW]
  refine Ct.ofW (by simp) ?_
  (refine jjB ?_; refine jjC ?_)
  (refine jy rfl ?_; intro b3 w_b3 hb_b3 hs_b3 hS_b3 hk_b3; have hA_b3 := At.ofBlock hk_b3)
  skip
  (refine jy rfl ?_; intro b4 w_b4 hb_b4 hs_b4 hS_b4 hk_b4; have hA_b4 := At.ofBlock hk_b4)
  ((skip); refine jjY ?_; intro b6 w_b6 hb_b6 hs_b6 hS_b6 hk_b6; have hA_b6 := Bk.of hk_b6)
  (refine jz ?_; refine jjB ?_; refine jjC ?_; refine jO rfl rfl rfl rfl ?_)
  (refine jjS (cells := [.int .i64 width, .int .u8 side, .slice none 0 0, .slice none 0 0]) ?_ ?_; exact rfl)
  (apply jjR rfl; (intro _; first|exact eI rfl|exact eB rfl|exact eP rfl|exact eS rfl|exact eT rfl|exact eA rfl|exact eU rfl|exact eF rfl|exact eM rfl|exact eN rfl|exact rfl); exact rfl; exact rfl; exact rfl; exact rfl; intro b7 w_b7 hb_b7 hs_b7 hS_b7 hk_b7; have hA_b7 := Bk.of hk_b7)
  have hgk := List.getElem?_eq_getElem hk
  (refine jz ?_; refine jjB ?_; refine jjB ?_; refine jjC ?_; refine jm ?_; refine jn rfl ?_; refine jN rfl rfl rfl ?_; apply jI; exact eI rfl; refine jF rfl rfl rfl (map_get (by omega)) ?_; intro _ _ _; refine jm ?_; refine jn rfl ?_; refine jP rfl rfl rfl ?_; refine jh rfl ?_; apply jI; exact eI rfl; refine jz ?_; refine jjD ?_)
  have z7 := hS_b7.size
  have z6 := hS_b6.size
  have hE7 : Ext w w_b7 := inferInstance
  have i1 := hT.line hk
  have hB6 : Bk w_b7 b6 [.int .i64 0, .int .u8 0, .slice none 0 0, .slice none 0 0] 161 := hA_b6.ext hS_b7.ext
  refine W.keep0 [(2, .int .i64 ((k : Nat) : Int)), (6, .pointer (some ⟨b6, 0, none⟩)), (7, .pointer (some ⟨b7, 0, none⟩)), (18, .slice cs[k].2.1 cs[k].2.2.2.length cs[k].2.2.1), (19, .int .i64 ((cs[k].2.2.2.length : Nat) : Int)), (20, .int .i64 ((0 : Nat) : Int))] ⟨eI rfl, eP rfl, eP rfl, eS rfl, eI rfl, eI rfl, trivial⟩ fun s0 => ?_
  refine W.loopG (21 :: 22 :: 23 :: 24 :: 8 :: 9 :: 25 :: 26 :: 27 :: 28 :: 29 :: 10 :: 30 :: 31 :: 32 :: 33 :: 34 :: 35 :: 36 :: 37 :: 38 :: 39 :: 40 :: 41 :: 42 :: 43 :: 44 :: 45 :: 46 :: 47 :: 48 :: 49 :: 20 :: []) (fun g s' V => ∃ (n : Nat) (wv av : Value), s' 20 = .int .i64 ((n : Nat) : Int) ∧ g = cs[k].2.2.2.length - n ∧ n ≤ cs[k].2.2.2.length ∧ Ext w V ∧ w_b7.heap.size ≤ V.heap.size ∧ Bk V b6 [.int .i64 0, .int .u8 0, .slice none 0 0, .slice none 0 0] 161 ∧ Bk V b7 [.int .i64 width, .int .u8 side, wv, av] 161 ∧ OwnL V w_b7.heap.size 9 false 1 wv (((chW cs[k]).take n).flatten.map strV) ∧ OwnL V w_b7.heap.size 111 true 3 av ((runAn k (chW cs[k]) n).map encPl)) cs[k].2.2.2.length ⟨0, _, _, rfl, rfl, Nat.zero_le _, hE7, Nat.le_refl _, hB6, hA_b7, OwnL.nil _ _ _ _ _, OwnL.nil _ _ _ _ _⟩ ?_
  rintro _ sd V ⟨n, wv, av, h20, rfl, hn, hE, hz, hV6, hV7, hOw, hOa⟩
  refine W.fix h20 ?_
  clear h20
  by_cases hnl : n < cs[k].2.2.2.length
  rotate_left
  · obtain rfl : n = cs[k].2.2.2.length := by omega
    rw [← hcl, List.take_length] at hOw
    rw [← hcl] at hOa
    obtain ⟨wa, wc, rfl⟩ := hOw.slice
    obtain ⟨aa, ac, rfl⟩ := hOa.slice
    have := Bk.toAt (h := hV7)
    (refine jjB ?_; refine jjC ?_; refine jja rfl rfl (by omega) ?_; refine jz ?_; refine jjB ?_; refine jjK rfl ?_; refine jjE ?_; refine jjB ?_; refine jjC ?_; refine jO rfl rfl rfl rfl ?_)
    refine Ops.store rfl rfl rfl rfl rfl ?_
    intro V2 hp2
    have hA2 : At V2 b6 0 [.int .i64 width, .int .u8 side, .slice wa _ wc, .slice aa _ ac] := Bk.toAt (h := ⟨hp2.new⟩)
    (refine jz ?_; refine jjF ?_)
    refine fin1C rfl rfl rfl rfl rfl ⟨hp2.ext hE (by omega), _, _, rfl, ?_, ?_⟩
    · exact (hOw.put hp2 fun e => by have := (hOw.block _ e).1; omega).mono (by omega)
    · exact (hOa.put hp2 fun e => by have := (hOa.block _ e).1; omega).mono (by omega)
  have hsn := hsk.2 _ (List.getElem_mem hnl)
  have hgn := chW_get hnl
  have hTV : TextI V cs := hT.ext hE
  have i2 := hTV.line hk
  (refine jjB ?_; refine jjC ?_; refine jjZ rfl rfl (by omega) ?_; refine jz ?_; refine jjB ?_; refine jjJ rfl ?_; refine jjG ?_; refine jjB ?_; refine jjD ?_; refine jjB ?_; refine jjC ?_; apply jI; exact eI rfl; refine jF rfl rfl rfl (map_get (by omega)) ?_; intro _ _ _; refine jQ rfl rfl ?_; apply jJ; exact eI rfl; apply jJ; exact eS rfl; refine jz ?_; refine jjB ?_; refine jjC ?_; apply jI; exact eS rfl; refine jh rfl ?_; apply jI; exact eI rfl; refine jz ?_; refine jjD ?_)
  refine W.keep [(2, .int .i64 ((k : Nat) : Int)), (6, .pointer (some ⟨b6, 0, none⟩)), (7, .pointer (some ⟨b7, 0, none⟩)), (18, .slice cs[k].2.1 cs[k].2.2.2.length cs[k].2.2.1), (19, .int .i64 ((cs[k].2.2.2.length : Nat) : Int)), (20, .int .i64 ((n : Nat) : Int)), (8, .int .i64 ((n : Nat) : Int)), (9, .slice cs[k].2.2.2[n].1 cs[k].2.2.2[n].2.2.length cs[k].2.2.2[n].2.1), (26, .int .i64 ((cs[k].2.2.2[n].2.2.length : Nat) : Int)), (27, .int .i64 ((0 : Nat) : Int))] (D := (21 :: 22 :: 23 :: 24 :: 8 :: 9 :: 25 :: 26 :: 27 :: 28 :: 29 :: 10 :: 30 :: 31 :: 32 :: 33 :: 34 :: 35 :: 36 :: 37 :: 38 :: 39 :: 40 :: 41 :: 42 :: 43 :: 44 :: 45 :: 46 :: 47 :: 48 :: 49 :: 20 :: [])) (sO := upds s0 _) (by ((refine Same.upd rfl ?_; refine Same.upd rfl ?_; refine Same.upd rfl ?_; refine Same.upd rfl ?_; refine Same.upd rfl ?_; refine Same.upd rfl ?_; refine Same.upd rfl ?_; refine Same.upd rfl ?_; refine Same.upd rfl ?_; refine Same.upd rfl ?_; exact Same.ovN))) ⟨eI rfl, eP rfl, eP rfl, eS rfl, eI rfl, eI rfl, eI rfl, eS rfl, eI rfl, eI rfl, trivial⟩ fun s1 hs1' => ?_
  refine W.loopG (28 :: 29 :: 10 :: 30 :: 31 :: 32 :: 33 :: 34 :: 35 :: 36 :: 37 :: 38 :: 39 :: 40 :: 41 :: 42 :: 43 :: 44 :: 45 :: 46 :: 47 :: 48 :: 27 :: []) (fun g s' V => ∃ (q : Nat) (wv av : Value), s' 27 = .int .i64 ((q : Nat) : Int) ∧ g = cs[k].2.2.2[n].2.2.length - q ∧ q ≤ cs[k].2.2.2[n].2.2.length ∧ Ext w V ∧ w_b7.heap.size ≤ V.heap.size ∧ Bk V b6 [.int .i64 0, .int .u8 0, .slice none 0 0, .slice none 0 0] 161 ∧ Bk V b7 [.int .i64 width, .int .u8 side, wv, av] 161 ∧ OwnL V w_b7.heap.size 9 false 1 wv ((((chW cs[k]).take n).flatten ++ cs[k].2.2.2[n].2.2.take q).map strV) ∧ OwnL V w_b7.heap.size 111 true 3 av ((runAn k (chW cs[k]) n ++ lnP k n q).map encPl)) cs[k].2.2.2[n].2.2.length ⟨0, wv, av, rfl, rfl, Nat.zero_le _, hE, hz, hV6, hV7, by simpa using hOw, by simpa [lnP] using hOa⟩ ?_
  rintro _ sd2 V2 ⟨q, wv, av, h27, rfl, hq, hE, hz, hV6, hV7, hOw, hOa⟩
  refine W.fix h27 ?_
  clear h27
  by_cases hql : q < cs[k].2.2.2[n].2.2.length
  rotate_left
  · obtain rfl : q = cs[k].2.2.2[n].2.2.length := by omega
    rw [List.take_length, flat_next hgn] at hOw
    rw [← runAn_succ k hgn] at hOa
    (refine jjB ?_; refine jjC ?_; refine jja rfl rfl (by omega) ?_; refine jz ?_; refine jjB ?_; refine jjK rfl ?_; refine jjE ?_; refine jjC ?_; refine jY rfl rfl (by omega) ?_; apply jI; exact eI rfl; refine jz ?_)
    exact ⟨rfl, by ((refine Same.upd rfl ?_; refine Same.upd rfl ?_; refine Same.upd rfl ?_; refine Same.upd rfl ?_; refine Same.ovN' rfl ?_; assumption)), cs[k].2.2.2.length - (n + 1), by omega, n + 1, wv, av, congrArg (Value.int .i64) (by omega), rfl, by omega, hE, hz, hV6, hV7, hOw, hOa⟩
  have hTV2 : TextI V2 cs := hT.ext hE
  obtain ⟨bl, ol, el, hAl⟩ := (hT.word hk hnl).h.place' (map_get hql)
  rw [Nat.mul_one] at hAl
  have hl1 : (((chW cs[k]).take n).flatten ++ cs[k].2.2.2[n].2.2.take q).length ≤ 1001000 := by
    have := flat_take hsm (n := n) (by omega)
    rw [List.length_append, List.length_take]; omega
  have hl2 : (runAn k (chW cs[k]) n ++ lnP k n q).length ≤ 1001000 := by
    have := flat_take hsm (n := n) (by omega)
    rw [List.length_append, lnP_len, runAn_len k (by omega)]; omega
  (refine jjB ?_; refine jjC ?_; refine jjZ rfl rfl (by omega) ?_; refine jz ?_; refine jjB ?_; refine jjJ rfl ?_; refine jjG ?_; refine jjB ?_; refine jjD ?_; refine jjB ?_; refine jjC ?_; apply jI; exact eI rfl; apply jJ; exact eI rfl; refine jz ?_; refine jjB ?_)
  refine W.draw (fun w' => Ext w w') ?_
  intro w1 hS1
  (refine jjV [0, 2, 3] ?_ ?_ ?_; (decide +kernel); (exact hE.trans hS1.ext); (((apply jjT; exact rfl; rintro w' q1; have := q1.toStep; refine jm ?_; refine jn rfl ?_; refine jz ?_; exact ⟨rfl, rfl⟩; apply jjT; exact rfl; rintro w' q1; have := q1.toStep; apply jI; exact eS rfl; refine jz ?_; exact ⟨rfl, rfl⟩; apply jjT; exact rfl; rintro w' q1; have := q1.toStep; apply jI; exact eI rfl; refine jz ?_; exact ⟨rfl, rfl⟩; refine jjU ?_))))
  refine jjV [4] (by decide +kernel) (hE.trans hS1.ext) (jjT (v := .pointer (some ⟨bl, ol + q, none⟩)) rfl (fun w' q1 => ?_) (jjU ?_))
  · refine jG (b := bl) (o := ol) (j := q) (by rw [← el]; exact rfl) rfl rfl hql ?_
    refine jz ?_
    exact ⟨rfl, rfl⟩
  (refine jjV [5] ?_ ?_ ?_; (decide +kernel); (exact hE.trans hS1.ext); (((apply jjT; exact rfl; rintro w' q1; have := q1.toStep; refine jQ rfl rfl ?_; refine jz ?_; exact ⟨rfl, rfl⟩; refine jjU ?_))))
  have h71 : Bk w1 b7 [.int .i64 width, .int .u8 side, wv, av] 161 := hV7.ext hS1.ext
  refine jjl 1 6 (by decide +kernel) rfl rfl (hE.trans hS1.ext) ?b1 ?b2
  case b1 =>
    have := Bk.toAt (h := h71)
    (refine jN rfl rfl rfl ?_)
    refine jz ?_
    (apply jjW 6; (decide +kernel); exact rfl; (exact hE.trans hS1.ext))
    (refine jjP (v := .string _) rfl (by exact rfl) (by exact rfl) (by exact rfl) (by exact rfl) ?_; intro b36 w_b36 hb_b36 hs_b36 hS_b36 hk_b36; have hR_b36 := RowV.one (agg := false) (k := 1) rfl hk_b36)
    refine jz ?_
    have hE36 : Ext V2 w_b36 := hS1.ext.trans hS_b36.ext
    have z36 := hE36.size
    (apply jjW 7; (decide +kernel); exact rfl; (exact hE.trans hE36))
    refine Ops.appendL (hOw.ext hE36) (by omega) hR_b36 rfl rfl rfl rfl (one_str _) ?_ ?_ ?_
    · rw [List.length_map]; simp only [List.length_cons, List.length_nil]; omega
    · rw [List.length_map]; simp only [List.length_cons, List.length_nil]; omega
    intro wv2 w37 hA37 hO37 _ hown37
    have hn7 : wv.ownBlock ≠ some b7 := fun e => by have := (hOw.block _ e).1; omega
    have hE37 : Ext w w37 := hA37.ext (hE.trans hE36) (by omega)
    have h37 : Bk w37 b7 [.int .i64 width, .int .u8 side, wv, av] 161 := hA37.bk (hV7.ext hE36) hn7
    refine jz ?_
    (refine jjV [8] ?_ ?_ ?_; (decide +kernel); (exact hE37); (((apply jjT; exact rfl; rintro w' q1; have := q1.toStep; refine jm ?_; refine jn rfl ?_; refine jz ?_; exact ⟨rfl, rfl⟩; refine jjU ?_))))
    (apply jjW 9; (decide +kernel); exact rfl; (exact hE37))
    rw [← List.map_singleton, ← List.map_append, flat_step (List.getElem?_eq_getElem hql)] at hO37
    obtain ⟨wa2, wc2, rfl⟩ := hO37.slice
    refine Ops.storeC (cs := [.int .i64 width, .int .u8 side, wv, av]) (j := 2) (v := .slice wa2 _ wc2) rfl rfl rfl rfl (show 2 < 4 by omega) ?_
    intro w38 hp38
    refine jz ?_
    have hE38 : Ext w w38 := hp38.ext hE37 (by omega)
    have hn7' : (Value.slice wa2 (List.map strV (((chW cs[k]).take n).flatten ++ cs[k].2.2.2[n].2.2.take (q + 1))).length wc2).ownBlock ≠ some b7 := fun e => by have := (hO37.block _ e).1; omega
    have h38 : Bk w38 b7 [.int .i64 width, .int .u8 side, .slice wa2 _ wc2, av] 161 := ⟨hp38.new⟩
    have z37 := hA37.g.size
    have z38 := hp38.size
    have hO38 := hO37.put hp38 hn7'
    have hna : av.ownBlock ≠ some b7 := fun e => by have := (hOa.block _ e).1; omega
    have hOa38 : OwnL w38 w_b7.heap.size 111 true 3 av ((runAn k (chW cs[k]) n ++ lnP k n q).map encPl) := ((hOa.ext hE36).app hA37 (OwnL.ne (hOa.ext hE36) (hOw.ext hE36) (by decide))).put hp38 hna
    refine jjX (by decide +kernel) hE38 ?_
    have h6a : Bk w38 b6 _ _ := hp38.bk (hA37.bk (hV6.ext hE36) fun e => by have := (hOw.block _ e).1; omega) (show b6 ≠ b7 by omega)
    (refine jjC ?_; refine jm ?_; refine jn rfl ?_; refine jN rfl rfl rfl ?_; apply jI; exact eI rfl; apply jI; exact eI rfl; apply jI; exact eI rfl)
    (refine jjS (cells := [.int .i64 (k : Int), .int .i64 (n : Int), .int .i64 (q : Int)]) ?_ ?_; exact rfl)
    skip
    (refine jjP (v := .agg _) rfl (by exact rfl) (by exact rfl) (by exact rfl) (by exact rfl) ?_; intro b45 w_b45 hb_b45 hs_b45 hS_b45 hk_b45; have hR_b45 := RowV.one (agg := true) (k := 3) rfl hk_b45)
    skip
    refine Ops.appendL (hOa38.ext hS_b45.ext) (by have := hS_b45.size; omega) hR_b45 rfl rfl rfl rfl (one_pl ((k : Int), (n : Int), (q : Int))) ?_ ?_ ?_
    · rw [List.length_map]; simp only [List.length_cons, List.length_nil]; omega
    · rw [List.length_map]; simp only [List.length_cons, List.length_nil]; omega
    intro av2 w46 hA46 hO46 _ hown46
    have z45 := hS_b45.size
    have z46 := hA46.g.size
    have hE46 : Ext w w46 := hA46.ext (hE38.trans hS_b45.ext) (by omega)
    have h46 : Bk w46 b7 _ _ := hA46.bk (h38.ext hS_b45.ext) hna
    have e46 : (runAn k (chW cs[k]) n ++ lnP k n q).map encPl ++ [encPl ((k : Int), (n : Int), (q : Int))] = (runAn k (chW cs[k]) n ++ lnP k n (q + 1)).map encPl := by rw [lnP_succ]; simp
    rw [e46] at hO46
    obtain ⟨aa2, ac2, rfl⟩ := hO46.slice
    have hna' : (Value.slice aa2 (List.map encPl (runAn k (chW cs[k]) n ++ lnP k n (q + 1))).length ac2).ownBlock ≠ some b7 := fun e => by have := (hO46.block _ e).1; omega
    (refine jm ?_; refine jn rfl ?_)
    refine Ops.storeC (cs := [.int .i64 width, .int .u8 side, .slice wa2 _ wc2, av]) (j := 3) (v := .slice aa2 _ ac2) rfl rfl rfl rfl (show 3 < 4 by omega) ?_
    intro w47 hp47
    have z47 := hp47.size
    (refine jz ?_; refine jjC ?_; refine jY rfl rfl (by omega) ?_; apply jI; exact eI rfl; refine jz ?_)
    refine ⟨rfl, by ((refine Same.upd rfl ?_; refine Same.upd rfl ?_; refine Same.upd rfl ?_; refine Same.upd rfl ?_; refine Same.upd rfl ?_; refine Same.upd rfl ?_; refine Same.upd rfl ?_; refine Same.upd rfl ?_; refine Same.upd rfl ?_; refine Same.upd rfl ?_; refine Same.upd rfl ?_; refine Same.upd rfl ?_; refine Same.upd rfl ?_; refine Same.upd rfl ?_; refine Same.upd rfl ?_; refine Same.upd rfl ?_; refine Same.upd rfl ?_; refine Same.upd rfl ?_; refine Same.upd rfl ?_; refine Same.upd rfl ?_; refine Same.upd rfl ?_; refine Same.upd rfl ?_; refine Same.upd rfl ?_; refine Same.upd rfl ?_; exact Same.ovN)), cs[k].2.2.2[n].2.2.length - (q + 1), by omega, q + 1, _, _, congrArg (Value.int .i64) (by omega), rfl, by omega, hp47.ext hE46 (by omega), by omega, ?_, ⟨hp47.new⟩, ?_, hO46.put hp47 hna'⟩
    · exact hp47.bk (hA46.bk (h6a.ext hS_b45.ext) fun e => by have := (hOa.block _ e).1; omega) (show b6 ≠ b7 by omega)
    · exact ((hO38.ext hS_b45.ext).app hA46 (OwnL.ne (hO38.ext hS_b45.ext) (hOa38.ext hS_b45.ext) (by decide))).put hp47 hn7'
  case b2 =>
    (refine jjP (v := .string _) rfl (by exact rfl) (by exact rfl) (by exact rfl) (by exact rfl) ?_; intro b36 w_b36 hb_b36 hs_b36 hS_b36 hk_b36; have hR_b36 := RowV.one (agg := false) (k := 1) rfl hk_b36)
    refine jz ?_
    have hE36 : Ext V2 w_b36 := hS1.ext.trans hS_b36.ext
    have z36 := hE36.size
    (apply jjW 1; (decide +kernel); exact rfl; (exact hE.trans hE36))
    have := Bk.toAt (h := hV7.ext hE36)
    (refine jN rfl rfl rfl ?_)
    refine jz ?_
    (apply jjW 7; (decide +kernel); exact rfl; (exact hE.trans hE36))
    refine Ops.appendL (hOw.ext hE36) (by omega) hR_b36 rfl rfl rfl rfl (one_str _) ?_ ?_ ?_
    · rw [List.length_map]; simp only [List.length_cons, List.length_nil]; omega
    · rw [List.length_map]; simp only [List.length_cons, List.length_nil]; omega
    intro wv2 w37 hA37 hO37 _ hown37
    have hn7 : wv.ownBlock ≠ some b7 := fun e => by have := (hOw.block _ e).1; omega
    have hE37 : Ext w w37 := hA37.ext (hE.trans hE36) (by omega)
    have h37 : Bk w37 b7 [.int .i64 width, .int .u8 side, wv, av] 161 := hA37.bk (hV7.ext hE36) hn7
    refine jz ?_
    (refine jjV [8] ?_ ?_ ?_; (decide +kernel); (exact hE37); (((apply jjT; exact rfl; rintro w' q1; have := q1.toStep; refine jm ?_; refine jn rfl ?_; refine jz ?_; exact ⟨rfl, rfl⟩; refine jjU ?_))))
    (apply jjW 9; (decide +kernel); exact rfl; (exact hE37))
    rw [← List.map_singleton, ← List.map_append, flat_step (List.getElem?_eq_getElem hql)] at hO37
    obtain ⟨wa2, wc2, rfl⟩ := hO37.slice
    refine Ops.storeC (cs := [.int .i64 width, .int .u8 side, wv, av]) (j := 2) (v := .slice wa2 _ wc2) rfl rfl rfl rfl (show 2 < 4 by omega) ?_
    intro w38 hp38
    refine jz ?_
    have hE38 : Ext w w38 := hp38.ext hE37 (by omega)
    have hn7' : (Value.slice wa2 (List.map strV (((chW cs[k]).take n).flatten ++ cs[k].2.2.2[n].2.2.take (q + 1))).length wc2).ownBlock ≠ some b7 := fun e => by have := (hO37.block _ e).1; omega
    have h38 : Bk w38 b7 [.int .i64 width, .int .u8 side, .slice wa2 _ wc2, av] 161 := ⟨hp38.new⟩
    have z37 := hA37.g.size
    have z38 := hp38.size
    have hO38 := hO37.put hp38 hn7'
    have hna : av.ownBlock ≠ some b7 := fun e => by have := (hOa.block _ e).1; omega
    have hOa38 : OwnL w38 w_b7.heap.size 111 true 3 av ((runAn k (chW cs[k]) n ++ lnP k n q).map encPl) := ((hOa.ext hE36).app hA37 (OwnL.ne (hOa.ext hE36) (hOw.ext hE36) (by decide))).put hp38 hna
    refine jjX (by decide +kernel) hE38 ?_
    have h6a : Bk w38 b6 _ _ := hp38.bk (hA37.bk (hV6.ext hE36) fun e => by have := (hOw.block _ e).1; omega) (show b6 ≠ b7 by omega)
    (refine jjC ?_; refine jm ?_; refine jn rfl ?_; refine jN rfl rfl rfl ?_; apply jI; exact eI rfl; apply jI; exact eI rfl; apply jI; exact eI rfl)
    (refine jjS (cells := [.int .i64 (k : Int), .int .i64 (n : Int), .int .i64 (q : Int)]) ?_ ?_; exact rfl)
    skip
    (refine jjP (v := .agg _) rfl (by exact rfl) (by exact rfl) (by exact rfl) (by exact rfl) ?_; intro b45 w_b45 hb_b45 hs_b45 hS_b45 hk_b45; have hR_b45 := RowV.one (agg := true) (k := 3) rfl hk_b45)
    skip
    refine Ops.appendL (hOa38.ext hS_b45.ext) (by have := hS_b45.size; omega) hR_b45 rfl rfl rfl rfl (one_pl ((k : Int), (n : Int), (q : Int))) ?_ ?_ ?_
    · rw [List.length_map]; simp only [List.length_cons, List.length_nil]; omega
    · rw [List.length_map]; simp only [List.length_cons, List.length_nil]; omega
    intro av2 w46 hA46 hO46 _ hown46
    have z45 := hS_b45.size
    have z46 := hA46.g.size
    have hE46 : Ext w w46 := hA46.ext (hE38.trans hS_b45.ext) (by omega)
    have h46 : Bk w46 b7 _ _ := hA46.bk (h38.ext hS_b45.ext) hna
    have e46 : (runAn k (chW cs[k]) n ++ lnP k n q).map encPl ++ [encPl ((k : Int), (n : Int), (q : Int))] = (runAn k (chW cs[k]) n ++ lnP k n (q + 1)).map encPl := by rw [lnP_succ]; simp
    rw [e46] at hO46
    obtain ⟨aa2, ac2, rfl⟩ := hO46.slice
    have hna' : (Value.slice aa2 (List.map encPl (runAn k (chW cs[k]) n ++ lnP k n (q + 1))).length ac2).ownBlock ≠ some b7 := fun e => by have := (hO46.block _ e).1; omega
    (refine jm ?_; refine jn rfl ?_)
    refine Ops.storeC (cs := [.int .i64 width, .int .u8 side, .slice wa2 _ wc2, av]) (j := 3) (v := .slice aa2 _ ac2) rfl rfl rfl rfl (show 3 < 4 by omega) ?_
    intro w47 hp47
    have z47 := hp47.size
    (refine jz ?_; refine jjC ?_; refine jY rfl rfl (by omega) ?_; apply jI; exact eI rfl; refine jz ?_)
    refine ⟨rfl, by ((refine Same.upd rfl ?_; refine Same.upd rfl ?_; refine Same.upd rfl ?_; refine Same.upd rfl ?_; refine Same.upd rfl ?_; refine Same.upd rfl ?_; refine Same.upd rfl ?_; refine Same.upd rfl ?_; refine Same.upd rfl ?_; refine Same.upd rfl ?_; refine Same.upd rfl ?_; refine Same.upd rfl ?_; refine Same.upd rfl ?_; refine Same.upd rfl ?_; refine Same.upd rfl ?_; refine Same.upd rfl ?_; refine Same.upd rfl ?_; refine Same.upd rfl ?_; refine Same.upd rfl ?_; refine Same.upd rfl ?_; refine Same.upd rfl ?_; refine Same.upd rfl ?_; refine Same.upd rfl ?_; refine Same.upd rfl ?_; exact Same.ovN)), cs[k].2.2.2[n].2.2.length - (q + 1), by omega, q + 1, _, _, congrArg (Value.int .i64) (by omega), rfl, by omega, hp47.ext hE46 (by omega), by omega, ?_, ⟨hp47.new⟩, ?_, hO46.put hp47 hna'⟩
    · exact hp47.bk (hA46.bk (h6a.ext hS_b45.ext) fun e => by have := (hOa.block _ e).1; omega) (show b6 ≠ b7 by omega)
    · exact ((hO38.ext hS_b45.ext).app hA46 (OwnL.ne (hO38.ext hS_b45.ext) (hOa38.ext hS_b45.ext) (by decide))).put hp47 hn7'
end
end Go.Proofs.YtfebegbjggoijaaGreatDoor

/- Plain law: the slips of a text. -/
namespace Go.Proofs.YtfebegbjggoijaaGreatDoor
open Go.RowKit

def wsT (t : Tx) (k : Nat) : List (List ByteArray) := (t.getD k (0, [])).2
theorem wsT_get {cs : List Ch} {k : Nat} (hk : k < cs.length) : wsT (txF cs) k = chW cs[k] := by
  simp [wsT, txF, hk, chW]
/-- Where a place is in a list. -/
noncomputable def idP (l : List Pl) (p : Pl) : Option Nat := open Classical in if h : ∃ i, l[i]? = some p then some (Classical.choose h) else none
theorem idP_some {l : List Pl} {p : Pl} {i : Nat} (hn : l.Nodup) (h : l[i]? = some p) : idP l p = some i := by
  have hx : ∃ i, l[i]? = some p := ⟨i, h⟩
  rw [idP, dif_pos hx, nodup_inj hn (Classical.choose_spec hx) h]
theorem idP_get {l : List Pl} {p : Pl} {i : Nat} (h : idP l p = some i) : l[i]? = some p := by
  unfold idP at h
  split at h
  · rename_i hx
    cases h
    exact Classical.choose_spec hx
  · cases h
theorem mem_runA {k : Nat} {x : List (List ByteArray)} {p : Pl} : p ∈ runA k x ↔ ∃ (n q : Nat) (hn : n < x.length), q < x[n].length ∧ p = ((k : Int), (n : Int), (q : Int)) := by
  simp only [runA, runAn, lnP, List.mem_flatMap, List.mem_range, List.mem_map]
  constructor
  · rintro ⟨n, hn, q, hq, rfl⟩
    refine ⟨n, q, hn, ?_, rfl⟩
    rwa [List.getD_eq_getElem?_getD, List.getElem?_eq_getElem hn, Option.getD_some] at hq
  · rintro ⟨n, q, hn, hq, rfl⟩
    refine ⟨n, hn, q, ?_, rfl⟩
    rwa [List.getD_eq_getElem?_getD, List.getElem?_eq_getElem hn, Option.getD_some]
theorem runA_fst {k : Nat} {x : List (List ByteArray)} {p : Pl} (h : p ∈ runA k x) : p.1 = (k : Int) := by
  obtain ⟨n, q, _, _, rfl⟩ := mem_runA.1 h
  rfl
/-- The slip of the word i of a chapter. -/
def slK (side W : Int) (k : Nat) (x : List (List ByteArray)) (i : Nat) : Slp := slipX x.flatten side W i ((runA k x).getD i (0, 0, 0))
theorem slK_eq {side W : Int} {k : Nat} {x : List (List ByteArray)} {i : Nat} {p : Pl} (h : (runA k x)[i]? = some p) : slK side W k x i = slipX x.flatten side W i p := by
  rw [slK, List.getD_eq_getElem?_getD, h, Option.getD_some]
/-- The slip of a place, if it is one of a text. -/
noncomputable def makeF (t : Tx) (side W : Int) (p : Pl) : Option Slp := if 0 ≤ p.1 ∧ p.1 < t.length then (idP (runA p.1.toNat (wsT t p.1.toNat)) p).map (slK side W p.1.toNat (wsT t p.1.toNat)) else none
theorem makeF_in {t : Tx} {side W : Int} {p : Pl} {k : Nat} (hk : k < t.length) (hp : p.1 = (k : Int)) : makeF t side W p = (idP (runA k (wsT t k)) p).map (slK side W k (wsT t k)) := by
  rw [makeF, if_pos (by omega), hp, Int.toNat_natCast]
theorem makeF_yes {t : Tx} {side W : Int} {p : Pl} {k i : Nat} (hk : k < t.length) (h : (runA k (wsT t k))[i]? = some p) : makeF t side W p = some (slipX (wsT t k).flatten side W i p) := by
  rw [makeF_in hk (runA_fst (List.mem_of_getElem? h)), idP_some (runA_nodup _ _) h, Option.map_some, slK_eq h]
theorem makeF_some {t : Tx} {side W : Int} {p : Pl} {s : Slp} (h : makeF t side W p = some s) : ∃ k i, k < t.length ∧ (runA k (wsT t k))[i]? = some p ∧ s = slipX (wsT t k).flatten side W i p := by
  unfold makeF at h
  split at h
  · rename_i hc
    obtain ⟨i, hi, e⟩ := Option.map_eq_some_iff.1 h
    have hg := idP_get hi
    exact ⟨p.1.toNat, i, by omega, hg, by rw [← e, slK_eq hg]⟩
  · cases h
theorem makeF_at {t : Tx} {side W : Int} {p : Pl} {s : Slp} (h : makeF t side W p = some s) : s.1 = p := by
  obtain ⟨_, _, _, _, rfl⟩ := makeF_some h; rfl
/-- All places of a text, of its first n chapters. -/
def allP (t : Tx) (n : Nat) : List Pl := (List.range n).flatMap fun k => runA k (wsT t k)
theorem allP_succ (t : Tx) (n : Nat) : allP t (n + 1) = allP t n ++ runA n (wsT t n) := by simp [allP, List.range_succ, List.flatMap_append]
noncomputable def slP (t : Tx) (side W : Int) (p : Pl) : Slp := (makeF t side W p).getD (p, ⟨#[]⟩, ⟨#[]⟩, ⟨#[]⟩)
theorem slP_at (t : Tx) (side W : Int) (p : Pl) : (slP t side W p).1 = p := by
  rw [slP]
  cases h : makeF t side W p with
  | none => rfl
  | some s => exact makeF_at h
theorem slP_eq {t : Tx} {side W : Int} {p : Pl} {k i : Nat} (hk : k < t.length) (h : (runA k (wsT t k))[i]? = some p) : slP t side W p = slipX (wsT t k).flatten side W i p := by
  rw [slP, makeF_yes hk h, Option.getD_some]
/-- All slips of a text. -/
noncomputable def allS (t : Tx) (side W : Int) : List Slp := (allP t t.length).map (slP t side W)
noncomputable def slA (t : Tx) (side W : Int) (n : Nat) : List Slp := (allP t n).map (slP t side W)
noncomputable def slsN (t : Tx) (side W : Int) (k i : Nat) : List Slp := ((runA k (wsT t k)).take i).map (slP t side W)
theorem slA_succ (t : Tx) (side W : Int) (n : Nat) : slA t side W (n + 1) = slA t side W n ++ slsN t side W n (wsT t n).flatten.length := by
  rw [slA, allP_succ, List.map_append, ← slA, slsN, ← runA_len n, List.take_length]
theorem slA_get {t : Tx} {side W : Int} {k i n : Nat} {p : Pl} (hk : k < n) (h : (runA k (wsT t k))[i]? = some p) : (slA t side W n)[(slA t side W k).length + i]? = some (slP t side W p) := by
  have : ∀ d, (slA t side W (k + 1 + d))[(slA t side W k).length + i]? = some (slP t side W p) := by
    intro d
    induction d with
    | zero =>
      have hi := (List.getElem?_eq_some_iff.1 h).1
      rw [Nat.add_zero, slA_succ, List.getElem?_append_right (by omega), Nat.add_sub_cancel_left, slsN, ← runA_len k, List.take_length, List.getElem?_map, h, Option.map_some]
    | succ d ih =>
      rw [← Nat.add_assoc, slA_succ]
      have hl := (List.getElem?_eq_some_iff.1 ih).1
      rw [List.getElem?_append_left hl, ih]
  have := this (n - (k + 1))
  rwa [show k + 1 + (n - (k + 1)) = n by omega] at this
theorem slA_end (t : Tx) (side W : Int) : slA t side W t.length = allS t side W := rfl
theorem slsN_len {t : Tx} {side W : Int} {k i : Nat} (h : i ≤ (wsT t k).flatten.length) : (slsN t side W k i).length = i := by
  rw [slsN, List.length_map, List.length_take, runA_len]; omega
theorem mem_allP {t : Tx} {n : Nat} {p : Pl} : p ∈ allP t n ↔ ∃ k, k < n ∧ p ∈ runA k (wsT t k) := by
  simp [allP]
/-! Words of a valid text are short. -/
theorem word_short {t : Tx} {k : Nat} (h : textB t = true) {s : ByteArray} (hk : k < t.length) (hs : s ∈ (wsT t k).flatten) : s.size ≤ 12 := by
  simp only [textB, Bool.and_eq_true, List.all_eq_true] at h
  have hm : t.getD k (0, []) ∈ t := by rw [List.getD_eq_getElem?_getD, List.getElem?_eq_getElem hk, Option.getD_some]; exact List.getElem_mem hk
  have h1 := h.1.2 _ hm
  simp only [chapB, Bool.and_eq_true, List.all_eq_true] at h1
  obtain ⟨y, hy, hsy⟩ := List.mem_flatten.1 hs
  have h2 := h1.2 y hy
  simp only [lineB, Bool.and_eq_true, List.all_eq_true] at h2
  have h3 := h2.2 s hsy
  simp only [wordB, Bool.and_eq_true, decide_eq_true_eq] at h3
  omega
theorem cutB_width {W side : Int} (h : (inB 12 80 W && inB 1 3 side) = true) : 12 ≤ W ∧ W ≤ 80 ∧ 1 ≤ side ∧ side ≤ 3 := by
  simp only [inB, Bool.and_eq_true, decide_eq_true_eq] at h
  omega
theorem rnW_small {cs : List Ch} (hs : SmallT cs) {k : Nat} (hk : k < cs.length) : (rnW cs[k]).length ≤ 1000000 ∧ ∀ s ∈ rnW cs[k], s.size ≤ 1000 := by
  have h1 := hs.2 _ (List.getElem_mem hk)
  refine ⟨?_, fun s h => ?_⟩
  · have := flatW_len (x := chW cs[k]) (m := 1000) (chW_small fun y hy => (h1.2 y hy).1)
    have h2 : (chW cs[k]).length ≤ 1000 := by simp [chW]; exact h1.1
    have := Nat.mul_le_mul_right 1000 h2
    show (chW cs[k]).flatten.length ≤ _
    omega
  · obtain ⟨y, hy, hs'⟩ := List.mem_flatten.1 h
    obtain ⟨l, hl, rfl⟩ := List.mem_map.1 hy
    exact (h1.2 l hl).2 s hs'
end Go.Proofs.YtfebegbjggoijaaGreatDoor

/- Plain law: the context of a slip is the first of all that fit; its words, its length. -/
namespace Go.Proofs.YtfebegbjggoijaaGreatDoor
open Go.RowKit

theorem best_spec {ws : List ByteArray} {side W : Int} {i : Nat} (hi : i < ws.length) (hW : (ws[i].size : Int) ≤ W) :
    ((bestA ws side W i).1 ≤ i ∧ i ≤ (bestA ws side W i).2 ∧ (bestA ws side W i).2 < ws.length ∧ lenX ws (bestA ws side W i) ≤ W) ∧
    ∀ y : Cx, y.1 ≤ i → i ≤ y.2 → y.2 < ws.length → lenX ws y ≤ W → y = bestA ws side W i ∨ ordI ws side i (bestA ws side W i) y < 0 := by
  have hself : lenX ws (i, i) ≤ W := by rw [lenX_self hi]; exact hW
  have hin : ∀ x, x ∈ (i, i) :: refA ws i W ↔ x.1 ≤ i ∧ i ≤ x.2 ∧ x.2 < ws.length ∧ lenX ws x ≤ W := fun x => by
    rw [List.mem_cons, mem_refA hi]
    constructor
    · rintro (rfl | h)
      · exact ⟨Nat.le_refl _, Nat.le_refl _, hi, hself⟩
      · exact h
    · exact .inr
  have m2 := foldl_min (ordI ws side i) (fun _ _ _ => ordI_trans) (refA ws i W) (i, i) fun x hx y hy hne => by
    rw [hin] at hx hy
    exact ordI_total hx.2.2.1 hy.2.2.1 hne
  exact ⟨(hin _).1 m2.1, fun y h1 h2 h3 h4 => m2.2 y ((hin y).2 ⟨h1, h2, h3, h4⟩)⟩
/-! ### Words with a space between them -/
abbrev noSp (l : List UInt8) : Prop := ∀ c ∈ l, c ≠ 32
theorem spl_word : ∀ {l : List UInt8}, noSp l → spl l = [l]
  | [], _ => rfl
  | c :: l, h => by
    rw [spl, if_neg (h c (by simp)), spl_word (l := l) fun x hx => h x (by simp [hx])]
theorem spl_app : ∀ {l : List UInt8} (r : List UInt8), noSp l → spl (l ++ 32 :: r) = l :: spl r
  | [], r, _ => by simp [spl]
  | c :: l, r, h => by
    rw [List.cons_append, spl, if_neg (h c (by simp)), spl_app (l := l) r fun x hx => h x (by simp [hx])]
theorem join_cc (x y : List UInt8) (r : List (List UInt8)) : Lib.join (x :: y :: r) [32] = x ++ 32 :: Lib.join (y :: r) [32] := by
  rw [Lib.join_cons, Lib.join_cons]; simp [Lib.joinTail]
theorem spl_join : ∀ {ws : List (List UInt8)}, ws ≠ [] → (∀ w ∈ ws, noSp w) → spl (Lib.join ws [32]) = ws
  | [], h, _ => absurd rfl h
  | [x], _, h => by rw [Lib.join_one, spl_word (h x (by simp))]
  | x :: y :: r, _, h => by
    rw [join_cc, spl_app _ (h x (by simp)), spl_join (by simp) fun w hw => h w (by simp only [List.mem_cons] at hw ⊢; exact .inr hw)]
theorem word_noSp {s : ByteArray} (h : wordB s = true) : noSp s.data.toList := by
  simp only [wordB, Bool.and_eq_true, List.all_eq_true] at h
  intro c hc e
  have := h.2 c hc
  subst e
  simp [lowB] at this
theorem word_size {s : ByteArray} (h : wordB s = true) : 1 ≤ s.size ∧ s.size ≤ 12 := by
  simp only [wordB, Bool.and_eq_true, decide_eq_true_eq] at h
  exact h.1
theorem splB_join {ws : List ByteArray} (hne : ws ≠ []) (h : ∀ w ∈ ws, wordB w = true) : splB (joinB ws) = ws := by
  have e : (joinB ws).data.toList = Lib.join (ws.map (·.data.toList)) [32] := by simp [joinB]
  rw [splB, e, spl_join (by simpa using hne) (fun w hw => by
    obtain ⟨y, hy, rfl⟩ := List.mem_map.1 hw
    exact word_noSp (h y hy)), List.map_map]
  exact (List.map_congr_left fun s _ => bytesL_data s).trans (List.map_id _)
theorem joinB_len : ∀ {ws : List ByteArray}, ws ≠ [] → (joinB ws).size + 1 = (ws.map fun s => s.size + 1).sum
  | [], h => absurd rfl h
  | [x], _ => by
    have : (joinB [x]).size = x.size := by show (joinB [x]).data.size = x.data.size; simp [joinB, Lib.join_one]
    rw [this]; simp
  | x :: y :: r, _ => by
    have ih := joinB_len (ws := y :: r) (by simp)
    have : (joinB (x :: y :: r)).size = x.size + 1 + (joinB (y :: r)).size := by
      show (joinB (x :: y :: r)).data.size = x.data.size + 1 + (joinB (y :: r)).data.size
      simp only [joinB, List.map_cons, join_cc]
      simp; omega
    rw [this, List.map_cons, List.sum_cons, ← ih]; omega
theorem wordsB_join {ws : List ByteArray} (h : ∀ w ∈ ws, wordB w = true) (h80 : (joinB ws).size ≤ 80) : wordsB (joinB ws) = true := by
  by_cases hne : ws = []
  · subst hne; rfl
  · rw [wordsB, splB_join hne h, List.all_eq_true.2 h, decide_eq_true h80]; simp
theorem joinB_zero {ws : List ByteArray} (h : ∀ w ∈ ws, wordB w = true) : (joinB ws).size = 0 ↔ ws = [] := by
  constructor
  · intro h0
    refine Decidable.by_contra fun hne => ?_
    have hl := joinB_len hne
    obtain ⟨x, r, rfl⟩ := List.exists_cons_of_ne_nil hne
    have := word_size (h x (by simp))
    rw [List.map_cons, List.sum_cons] at hl; omega
  · rintro rfl; rfl
theorem sum_pre {ws : List ByteArray} {a b : Nat} (hab : a ≤ b) (hb : b ≤ ws.length) : preW ws b = preW ws a + (((ws.take b).drop a).map fun s => s.size + 1).sum := by
  have e : ws.take b = ws.take a ++ (ws.take b).drop a := by
    have := List.take_append_drop a (ws.take b)
    rw [List.take_take, Nat.min_eq_left hab] at this
    exact this.symm
  rw [preW, preW]
  conv => lhs; rw [e]
  rw [List.map_append, List.sum_append]
/-- What a part of a run comes to with the space beside it. -/
def gapN (s : ByteArray) : Nat := if s.size = 0 then 0 else s.size + 1
theorem gap_join {ws : List ByteArray} (h : ∀ w ∈ ws, wordB w = true) {a b : Nat} (hab : a ≤ b) (hb : b ≤ ws.length) : preW ws b = preW ws a + gapN (joinB ((ws.take b).drop a)) := by
  rw [sum_pre hab hb, gapN]
  have hs : ∀ w ∈ (ws.take b).drop a, wordB w = true := fun w hw => h w (List.mem_of_mem_take (List.mem_of_mem_drop hw))
  by_cases h0 : (joinB ((ws.take b).drop a)).size = 0
  · rw [if_pos h0, (joinB_zero hs).1 h0]; rfl
  · rw [if_neg h0, joinB_len fun e => h0 ((joinB_zero hs).2 e)]
/-- The length of a slip's context. -/
def widthN (s : Slp) : Nat := s.2.1.size + gapN s.2.2.1 + gapN s.2.2.2
theorem width_cut {ws : List ByteArray} (h : ∀ w ∈ ws, wordB w = true) {i : Nat} (hi : i < ws.length) {x : Cx} (h1 : x.1 ≤ i) (h2 : i ≤ x.2) (h3 : x.2 < ws.length) (p : Pl) :
    (widthN (p, ws[i], joinB ((ws.take i).drop x.1), joinB ((ws.take (x.2 + 1)).drop (i + 1))) : Int) = lenX ws x := by
  have e1 := gap_join h h1 (Nat.le_of_lt hi)
  have e2 := gap_join h (a := i + 1) (b := x.2 + 1) (by omega) (by omega)
  have e3 := preW_succ hi
  simp only [widthN, lenX]
  omega
end Go.Proofs.YtfebegbjggoijaaGreatDoor

/- slip: words of a text, slips that are right. -/
namespace Go.Proofs.YtfebegbjggoijaaGreatDoor
open Go.RowKit

section
variable (w : World) [hm : MxI w]
end
end Go.Proofs.YtfebegbjggoijaaGreatDoor

/- The order of texts and of slips: cmp.Compare of texts, slip.right, slip.Order. -/
namespace Go.Proofs.YtfebegbjggoijaaGreatDoor
open Go.RowKit

/-- The order of two texts. -/
def cmpS (x y : ByteArray) : Int := if Op.bytesLess x.toList y.toList then -1 else if x = y then 0 else 1
def slipB (x : Slp) : Bool := wordsB x.2.2.1 && (wordsB x.2.2.2 && wordB x.2.1)
section
variable (w : World) [hm : MxI w]
end
end Go.Proofs.YtfebegbjggoijaaGreatDoor

/- Plain law: the slips of a valid text. -/
namespace Go.Proofs.YtfebegbjggoijaaGreatDoor
open Go.RowKit

theorem word_valid {t : Tx} {k : Nat} (h : textB t = true) {s : ByteArray} (hk : k < t.length) (hs : s ∈ (wsT t k).flatten) : wordB s = true := by
  simp only [textB, Bool.and_eq_true, List.all_eq_true] at h
  have hm : t.getD k (0, []) ∈ t := by rw [List.getD_eq_getElem?_getD, List.getElem?_eq_getElem hk, Option.getD_some]; exact List.getElem_mem hk
  have h1 := h.1.2 _ hm
  simp only [chapB, Bool.and_eq_true, List.all_eq_true] at h1
  obtain ⟨y, hy, hsy⟩ := List.mem_flatten.1 hs
  have h2 := h1.2 y hy
  simp only [lineB, Bool.and_eq_true, List.all_eq_true] at h2
  exact h2.2 s hsy
/-- A slip of a text: its chapter, its word's number there, and its context. -/
theorem make_open {t : Tx} (ht : textB t = true) {wd side : Int} (hc : cutB wd side = true) {p : Pl} {s : Slp} (h : makeF t side wd p = some s) :
    ∃ (k i : Nat) (hi : i < (wsT t k).flatten.length), k < t.length ∧ (runA k (wsT t k))[i]? = some p ∧ (∀ w ∈ (wsT t k).flatten, wordB w = true) ∧ (((wsT t k).flatten[i].size : Int) ≤ wd) ∧
      s = (p, (wsT t k).flatten[i], joinB (((wsT t k).flatten.take i).drop (bestA (wsT t k).flatten side wd i).1), joinB (((wsT t k).flatten.take ((bestA (wsT t k).flatten side wd i).2 + 1)).drop (i + 1))) := by
  obtain ⟨k, i, hk, hi, rfl⟩ := makeF_some h
  have hil : i < (wsT t k).flatten.length := by rw [← runA_len k]; exact (List.getElem?_eq_some_iff.1 hi).1
  have hw := fun w (hw : w ∈ (wsT t k).flatten) => word_valid ht hk hw
  have hcb := cutB_width hc
  have := word_size (hw _ (List.getElem_mem hil))
  refine ⟨k, i, hil, hk, hi, hw, by omega, ?_⟩
  rw [slipX, List.getD_eq_getElem?_getD, List.getElem?_eq_getElem hil, Option.getD_some]
theorem take_words {ws : List ByteArray} (h : ∀ w ∈ ws, wordB w = true) {a b : Nat} : ∀ w ∈ (ws.take b).drop a, wordB w = true := fun w hw => h w (List.mem_of_mem_take (List.mem_of_mem_drop hw))
theorem make_right {t : Tx} (ht : textB t = true) {wd side : Int} (hc : cutB wd side = true) {p : Pl} {s : Slp} (h : makeF t side wd p = some s) : slipB s = true ∧ (widthN s : Int) ≤ wd := by
  obtain ⟨k, i, hi, hk, hp, hw, hW, rfl⟩ := make_open ht hc h
  obtain ⟨⟨b1, b2, b3, b4⟩, _⟩ := best_spec (side := side) hi hW
  have hcb := cutB_width hc
  have hwid := width_cut hw hi b1 b2 b3 p
  refine ⟨?_, by omega⟩
  have h1 := word_size (hw _ (List.getElem_mem hi))
  have hg : ∀ s : ByteArray, s.size ≤ gapN s := fun s => by unfold gapN; split <;> omega
  have g1 := hg (joinB (((wsT t k).flatten.take i).drop (bestA (wsT t k).flatten side wd i).1))
  have g2 := hg (joinB (((wsT t k).flatten.take ((bestA (wsT t k).flatten side wd i).2 + 1)).drop (i + 1)))
  simp only [widthN] at hwid
  simp only [slipB, Bool.and_eq_true]
  exact ⟨wordsB_join (take_words hw) (by omega), wordsB_join (take_words hw) (by omega), hw _ (List.getElem_mem hi)⟩
end Go.Proofs.YtfebegbjggoijaaGreatDoor

/- Plain law: wider cuts, sides, how many words stand in a context. -/
namespace Go.Proofs.YtfebegbjggoijaaGreatDoor
open Go.RowKit

section
variable {ws : List ByteArray} {side : Int} {i : Nat} (hi : i < ws.length)
include hi
end
end Go.Proofs.YtfebegbjggoijaaGreatDoor

/- The proof engine, part 24: parts of strings; the first elements of a slice of the call's own; structs as keys of maps. -/
namespace Go.Proofs.YtfebegbjggoijaaGreatDoor
open Go.RowKit

section rules
variable {P : Program} {ro : Option Nat} {n : Nat} {all rest : List Oper} {K : Sl → World → Prop} {s : Sl} {w : World} {d : Nat} {ty : Nat} {pos : String} {af : Array Edge}
variable {x y : Operand} {t t' e : Nat}
theorem flatMap_take {k : Nat} : ∀ {xs : List Value} (m : Nat), (∀ x ∈ xs, x.cells.toList.length = k) → (xs.take m).flatMap (·.cells.toList) = (xs.flatMap (·.cells.toList)).take (m * k)
  | [], m, _ => by simp
  | y :: xs, 0, _ => by simp
  | y :: xs, m + 1, h => by
    have hy := h y List.mem_cons_self
    rw [List.take_succ_cons, List.flatMap_cons, List.flatMap_cons, flatMap_take m fun x hx => h x (List.mem_cons_of_mem _ hx), List.take_append, hy, Nat.add_mul, Nat.one_mul, Nat.add_sub_cancel]
    rw [List.take_of_length_le (l := y.cells.toList) (by omega)]
/-- The first m elements of a slice of the call's own. -/
theorem OwnL.cut {w : World} {B e k l c : Nat} {agg : Bool} {a : Option Addr} {xs : List Value} (h : OwnL w B e agg k (.slice a l c) xs) {m : Nat} (hm : m ≤ xs.length) (h0 : 0 < c) : OwnL w B e agg k (.slice a m c) (xs.take m) := by
  have hl : (xs.take m).length = m := by rw [List.length_take]; omega
  have hf : ∀ x ∈ xs.take m, fitsV agg k x = true := fun x hx => h.fit x (List.mem_of_mem_take hx)
  have hlen := h.len
  refine ⟨⟨?_, ?_⟩, hf, by omega⟩
  · rw [flatMap_take (k := k) m fun x hx => by rw [Array.length_toList]; exact fitsV_cells (h.fit x hx)]
    rw [List.length_take, hl, flat_len (k := k) (xs := xs) fun y hy => fitsV_cells (h.fit y hy)]
    exact Nat.min_eq_left (Nat.mul_le_mul_right _ hm)
  · rcases h.own.2 with ⟨e0, _⟩ | ⟨g, cap, cur, e0, hB, hh, hn, hm', hs, ht⟩
    · simp only [Value.slice.injEq] at e0; omega
    · simp only [Value.slice.injEq] at e0
      obtain ⟨rfl, _, rfl⟩ := e0
      refine .inr ⟨g, c, cur, by rw [hl], hB, hh, by omega, hm', hs, ?_⟩
      rw [hl, flatMap_take (k := k) m fun x hx => by rw [Array.length_toList]; exact fitsV_cells (h.fit x hx), ← ht, List.take_take, Nat.min_eq_left (Nat.mul_le_mul_right _ hm)]
theorem Ops.sliceXHv {l c hi k bytes : Nat} {j : Int} {k2 : IntKind} {xh : Operand} {a : Option Addr} {z : Value} (hx : ev n s x = .slice a l c) (hh : ev n s xh = .int k2 j) (hj : j = (hi : Int)) (h2 : hi ≤ c) (h0 : 0 < c) [ht : TSl P t e] [hz : TS P e z k bytes]
    (h : Ops P ro n all rest K (upd s d (.slice a hi c)) w) : Ops P ro n all (⟨some d, .slice t x none (some xh) none, ty, pos, af, none⟩ :: rest) K s w := by
  subst hj
  refine Ops.ofRun rfl ?_ h
  have hc : ¬ c = 0 := by omega
  cases a <;> simp [execOp, Instr.sliceAt, Instr.slice, Instr.sliceBounds, Instr.sliceBound, hx, hh, run_underlying ht.h, asIntOf, h2, run_sizeOf' w hz, hc, Addr.add]
end rules
end Go.Proofs.YtfebegbjggoijaaGreatDoor

/- slices.Grow of nothing, slices.Concat, slices.Equal (of strings). -/
namespace Go.Proofs.YtfebegbjggoijaaGreatDoor
open Go.RowKit

section rules
variable {P : Program} {ro : Option Nat} {n : Nat} {all rest : List Oper} {K : Sl → World → Prop} {s : Sl} {w : World} {d : Nat} {ty : Nat} {pos : String} {af : Array Edge}
variable {x y : Operand} {t tn e : Nat}
end rules
end Go.Proofs.YtfebegbjggoijaaGreatDoor

/- Plain law: what Make, All and Part answer. -/
namespace Go.Proofs.YtfebegbjggoijaaGreatDoor
open Go.RowKit

noncomputable def allR (t : Tx) (wd side : Int) : List Slp := if askE t wd side = 0 then allS t side wd else []
theorem askE_zero {t : Tx} {wd side : Int} (h : askE t wd side = 0) : textB t = true ∧ cutB wd side = true := by
  unfold askE at h
  split at h
  · split at h
    · exact ⟨by assumption, by assumption⟩
    · omega
  · omega
theorem askE_in (t : Tx) (wd side : Int) : askE t wd side = 0 ∨ askE t wd side = 10 ∨ askE t wd side = 30 := by
  unfold askE
  split
  · split
    · exact .inl rfl
    · exact .inr (.inr rfl)
  · exact .inr (.inl rfl)
theorem chap_len {t : Tx} (h : textB t = true) {k : Nat} (hk : k < t.length) : (wsT t k).flatten.length ≤ 100 := by
  simp only [textB, Bool.and_eq_true, List.all_eq_true] at h
  have hm : t.getD k (0, []) ∈ t := by rw [List.getD_eq_getElem?_getD, List.getElem?_eq_getElem hk, Option.getD_some]; exact List.getElem_mem hk
  have h1 := h.1.2 _ hm
  simp only [chapB, Bool.and_eq_true, List.all_eq_true] at h1
  have h3 := flatW_len (x := wsT t k) (m := 10) fun y hy => by
    have h2 := h1.2 y hy
    simp only [lineB, inB, Bool.and_eq_true, decide_eq_true_eq] at h2
    omega
  have h4 : (wsT t k).length ≤ 10 := by
    have := h1.1.2
    simp only [inB, decide_eq_true_eq] at this
    show (t.getD k (0, [])).2.length ≤ 10
    omega
  have := Nat.mul_le_mul_right 10 h4
  omega
theorem allP_len {t : Tx} (h : textB t = true) : ∀ {n : Nat}, n ≤ t.length → (allP t n).length ≤ n * 100
  | 0, _ => by simp [allP]
  | n + 1, hn => by
    rw [allP_succ, List.length_append, runA_len]
    have h1 := allP_len h (n := n) (by omega)
    have h2 := chap_len h (k := n) (by omega)
    omega
theorem textB_six {t : Tx} (h : textB t = true) : t.length ≤ 6 := by
  simp only [textB, Bool.and_eq_true] at h
  have := h.1.1
  simp only [inB, decide_eq_true_eq] at this
  omega
theorem allS_len {t : Tx} {side wd : Int} (h : textB t = true) : (allS t side wd).length ≤ 600 := by
  rw [allS, List.length_map]
  have h1 := allP_len h (Nat.le_refl t.length)
  have h2 := textB_six h
  have := Nat.mul_le_mul_right 100 h2
  omega
end Go.Proofs.YtfebegbjggoijaaGreatDoor

/- The reference: parts of a text, slips that are valid. -/
namespace Go.Proofs.YtfebegbjggoijaaGreatDoor
open Go.RowKit

end Go.Proofs.YtfebegbjggoijaaGreatDoor

/- The order of places: its three answers. -/
namespace Go.Proofs.YtfebegbjggoijaaGreatDoor
open Go.RowKit

end Go.Proofs.YtfebegbjggoijaaGreatDoor

/- The reference: the order of slips. -/
namespace Go.Proofs.YtfebegbjggoijaaGreatDoor
open Go.RowKit

theorem bytesLess_irr : ∀ l : List UInt8, Op.bytesLess l l = false
  | [] => rfl
  | c :: l => by simp [Op.bytesLess, bytesLess_irr l]
theorem cmpS_self (x : ByteArray) : cmpS x x = 0 := by rw [cmpS, bytesLess_irr]; simp
theorem cmpS_ne {x y : ByteArray} (h : x ≠ y) : cmpS x y ≠ 0 := by
  unfold cmpS
  repeat' split
  all_goals (first | decide | (exfalso; exact h ‹_›))
end Go.Proofs.YtfebegbjggoijaaGreatDoor

/- slip: contexts. -/
namespace Go.Proofs.YtfebegbjggoijaaGreatDoor
open Go.RowKit

/-- A context of the word i. -/
abbrev encX (ws : List ByteArray) (i : Nat) (x : Cx) : Value := .agg #[.int .i64 (x.1 : Int), .int .i64 (i : Int), .int .i64 (x.2 : Int), .int .i64 (lenX ws x)]
abbrev encX1 (ws : List ByteArray) (i : Nat) (x : Cx) : List Value := [encX ws i x]
/-- The run at br, the word's number at bi. -/
structure RunF (bi br : Nat) (ws : List ByteArray) (wd side : Int) (i : Nat) (wa : Option Addr) (wc : Nat) (aa : Option Addr) (al ac : Nat) (w : World) : Prop where
  num : At w bi 0 [.int .i64 (i : Int)]
  run : At w br 0 [.int .i64 wd, .int .u8 side, .slice wa ws.length wc, .slice aa al ac]
  row : RowV w false 1 (.slice wa ws.length wc) (ws.map strV)
set_option maxHeartbeats 2000000 in
theorem contexts1_slip (bi br : Nat) (ws : List ByteArray) (wd side : Int) (i : Nat) (wa : Option Addr) (wc : Nat) (aa : Option Addr) (al ac : Nat) (hi : i < ws.length) (hsz : ∀ s ∈ ws, s.size ≤ 1000) (hn : ws.length ≤ 1000000) (hW : 0 ≤ wd ∧ wd ≤ 1000) :
    Iter Tryz.prog 122 [.pointer (some ⟨bi, 0, none⟩), .pointer (some ⟨br, 0, none⟩)] (ctxA ws i wd) (encX1 ws i) (RunF bi br ws wd side i wa wc aa al ac) := by
  intro l J Jx M w hJ hJx hF hM1 hM2 hY h0
  have hF0 := hF 0 w h0
  have := hF0.num
  have := hF0.run
  refine Calls.ofW (by simp) ?_
  (refine jjB ?_; refine jjC ?_; apply jJ; exact eI rfl; refine jz ?_; refine jjB ?_; refine jjC ?_; refine jN rfl rfl rfl ?_; apply jJ; exact eI rfl; refine jz ?_; refine jjD ?_)
  refine W.keep0 [(0, .func (.yield l) #[] #[]), (1, .pointer (some ⟨bi, 0, none⟩)), (2, .pointer (some ⟨br, 0, none⟩)), (4, .int .i64 (-1 : Int)), (5, .int .i64 (i : Int))] ⟨eF rfl, eP rfl, eP rfl, eI rfl, eI rfl, trivial⟩ fun s0 => ?_
  refine W.loopG (9 :: 10 :: 13 :: 14 :: 15 :: 16 :: 17 :: 18 :: 19 :: 20 :: 21 :: 4 :: 22 :: 23 :: 24 :: 25 :: 26 :: 27 :: 6 :: 28 :: 7 :: 31 :: 32 :: 33 :: 34 :: 35 :: 36 :: 37 :: 38 :: 39 :: 40 :: 41 :: 42 :: 43 :: 44 :: 45 :: 46 :: 47 :: 48 :: 49 :: 50 :: 51 :: 52 :: 53 :: 54 :: 55 :: 56 :: 57 :: 58 :: 59 :: 60 :: 29 :: 30 :: 11 :: 12 :: 5 :: []) (fun g s' w' => ∃ j : Nat, s' 5 = .int .i64 ((i : Int) - j) ∧ s' 4 = .int .i64 (lenX ws (i + 1 - j, i)) ∧ j ≤ i + 1 ∧ g = i + 1 - j ∧ J (ctxN ws i wd j).length w') (i + 1) ⟨0, congrArg (Value.int .i64) (by omega), congrArg (Value.int .i64) (by simp only [lenX, Nat.sub_zero]; omega), by omega, rfl, h0⟩ ?_
  rintro _ sd w' ⟨j, h5, h4, hj, rfl, hJj⟩
  have hFj := hF _ _ hJj
  have := hFj.num
  have := hFj.run
  by_cases hji : j ≤ i
  rotate_left
  · obtain rfl : j = i + 1 := by omega
    refine W.fix h5 (W.fix (d := 4) h4 ?_)
    clear h5 h4
    (refine jjB ?_; refine jjB ?_; refine jjC ?_; apply jI; exact eI rfl; refine jjg rfl rfl (by omega) ?_; refine jz ?_; refine jjK rfl ?_; refine jjE ?_; refine jA rfl ⟨⟨_, rfl⟩, ?_⟩)
    exact .inl hJj
  replace h5 := h5.trans (congrArg (Value.int .i64) (show (i : Int) - j = ((i - j : Nat) : Int) by omega))
  refine W.fix h5 (W.fix (d := 4) h4 ?_)
  clear h5 h4
  have hlt : i - j < ws.length := by omega
  have hlf := lenX_from (b := i) hlt
  rw [show i - j + 1 = i + 1 - j by omega] at hlf
  have hsj := hsz _ (List.getElem_mem hlt)
  have hbd := lenX_bound (ws := ws) (a := i - j) (b := i) hsz hn (by omega) hi
  have hbd0 : -1 ≤ lenX ws (i + 1 - j, i) := by simp only [lenX]; have := preW_mono (ws := ws) (a := i + 1 - j) (b := i + 1) (by omega) (by omega); omega
  have hcast : ((i - j : Nat) : Int) = (i : Int) - j := by omega
  have hRow : RowI w' (.slice wa ws.length wc) false 1 (ws.map strV) := ⟨hFj.row⟩
  generalize lenX ws (i + 1 - j, i) = L0 at *
  by_cases hLW : wd < lenX ws (i - j, i)
  · have hst := ctxN_stop (m := i + 1) hi hj hLW
    (refine jjB ?_; refine jjB ?_; refine jjC ?_; apply jI; exact eI rfl; refine jjf rfl rfl (by omega) ?_; refine jz ?_; refine jjJ rfl ?_; refine jjG ?_; refine jjB ?_; refine jjD ?_; refine jjB ?_; refine jjC ?_; apply jI; exact eI rfl; refine jm ?_; refine jn rfl ?_; refine jN rfl rfl rfl ?_; apply jI; exact eI rfl; refine jF rfl rfl rfl (map_get (by omega)) ?_; intro _ _ _; refine jQ rfl rfl ?_; refine ji rfl ?_; refine jY rfl rfl (by omega) ?_; refine jY rfl rfl (by omega) ?_; apply jJ; exact eI rfl; refine jz ?_; refine jjB ?_; refine jjB ?_; refine jjC ?_; apply jI; exact eI rfl; refine jm ?_; refine jn rfl ?_; refine jm ?_; refine jn rfl ?_; refine jN rfl rfl rfl ?_; refine jjd rfl rfl (by omega) ?_; refine jz ?_; refine jjJ rfl ?_; refine jjF ?_; refine jA rfl ⟨⟨_, rfl⟩, ?_⟩)
    exact .inl (by rw [ctxA, hst]; exact hJj)
  (refine jjB ?_; refine jjB ?_; refine jjC ?_; apply jI; exact eI rfl; refine jjf rfl rfl (by omega) ?_; refine jz ?_; refine jjJ rfl ?_; refine jjG ?_; refine jjB ?_; refine jjD ?_; refine jjB ?_; refine jjC ?_; apply jI; exact eI rfl; refine jm ?_; refine jn rfl ?_; refine jN rfl rfl rfl ?_; apply jI; exact eI rfl; refine jF rfl rfl rfl (map_get (by omega)) ?_; intro _ _ _; refine jQ rfl rfl ?_; refine ji rfl ?_; refine jY rfl rfl (by omega) ?_; refine jY rfl rfl (by omega) ?_; apply jJ; exact eI rfl; refine jz ?_; refine jjB ?_; refine jjB ?_; refine jjC ?_; apply jI; exact eI rfl; refine jm ?_; refine jn rfl ?_; refine jm ?_; refine jn rfl ?_; refine jN rfl rfl rfl ?_; refine jje rfl rfl (by omega) ?_; refine jz ?_; refine jjK rfl ?_; refine jjG ?_; refine jjB ?_; refine jjC ?_; apply jI; exact eI rfl; apply jJ; exact eI rfl; refine jz ?_; refine jjB ?_; refine jjC ?_; refine jN rfl rfl rfl ?_; apply jJ; exact eI rfl; refine jz ?_; refine jjD ?_)
  refine W.keep [(0, .func (.yield l) #[] #[]), (1, .pointer (some ⟨bi, 0, none⟩)), (2, .pointer (some ⟨br, 0, none⟩)), (4, .int .i64 (lenX ws (i - j, i))), (5, .int .i64 ((i - j : Nat) : Int)), (6, .int .i64 (lenX ws (i - j, i))), (7, .int .i64 (i : Int))] (D := (9 :: 10 :: 13 :: 14 :: 15 :: 16 :: 17 :: 18 :: 19 :: 20 :: 21 :: 4 :: 22 :: 23 :: 24 :: 25 :: 26 :: 27 :: 6 :: 28 :: 7 :: 31 :: 32 :: 33 :: 34 :: 35 :: 36 :: 37 :: 38 :: 39 :: 40 :: 41 :: 42 :: 43 :: 44 :: 45 :: 46 :: 47 :: 48 :: 49 :: 50 :: 51 :: 52 :: 53 :: 54 :: 55 :: 56 :: 57 :: 58 :: 59 :: 60 :: 29 :: 30 :: 11 :: 12 :: 5 :: [])) (sO := upds s0 _) (by ((refine Same.upd rfl ?_; refine Same.upd rfl ?_; refine Same.upd rfl ?_; refine Same.upd rfl ?_; refine Same.upd rfl ?_; refine Same.upd rfl ?_; refine Same.upd rfl ?_; refine Same.upd rfl ?_; refine Same.upd rfl ?_; refine Same.upd rfl ?_; refine Same.upd rfl ?_; refine Same.upd rfl ?_; refine Same.upd rfl ?_; refine Same.upd rfl ?_; refine Same.upd rfl ?_; refine Same.upd rfl ?_; refine Same.upd rfl ?_; refine Same.upd rfl ?_; refine Same.upd rfl ?_; refine Same.upd rfl ?_; refine Same.upd rfl ?_; refine Same.upd rfl ?_; refine Same.upd rfl ?_; exact Same.ovN))) ⟨eF rfl, eP rfl, eP rfl, congrArg (Value.int .i64) (by omega), eI rfl, congrArg (Value.int .i64) (by omega), eI rfl, trivial⟩ fun s1 hs1 => ?_
  refine W.loopG (31 :: 32 :: 33 :: 34 :: 35 :: 36 :: 37 :: 38 :: 39 :: 40 :: 41 :: 42 :: 43 :: 44 :: 45 :: 46 :: 47 :: 6 :: 48 :: 49 :: 50 :: 51 :: 52 :: 53 :: 54 :: 55 :: 56 :: 57 :: 58 :: 59 :: 60 :: 29 :: 30 :: 7 :: []) (fun g s' V => ∃ t : Nat, s' 7 = .int .i64 ((i + t : Nat) : Int) ∧ s' 6 = .int .i64 (lenX ws (i - j, i + (t - 1))) ∧ i + t ≤ ws.length ∧ g = ws.length - (i + t) ∧ J ((ctxN ws i wd j).length + (ctxTo ws i wd (i - j) t).length) V) (ws.length - i) ⟨0, rfl, rfl, by omega, rfl, hJj⟩ ?_
  rintro _ sd2 V ⟨t, h7, h6, ht, rfl, hJt⟩
  have hFt := hF _ _ hJt
  have := hFt.num
  have := hFt.run
  have hRow : RowI V (.slice wa ws.length wc) false 1 (ws.map strV) := ⟨hFt.row⟩
  by_cases ht0 : t = 0
  · have htl : i + t < ws.length := by omega
    replace h6 := h6.trans (congrArg (fun b => Value.int .i64 (lenX ws (i - j, b))) (show i + (t - 1) = i + t by omega))
    have hLt : lenX ws (i - j, i + t) ≤ wd := by rw [ht0]; exact Int.not_lt.1 hLW
    refine W.fix h7 (W.fix (d := 6) h6 ?_)
    clear h7 h6
    (refine jjB ?_; refine jjD ?_; refine jjB ?_; refine jjB ?_; refine jjC ?_; apply jI; exact eI rfl; refine jN rfl rfl rfl ?_; refine jje rfl rfl (by omega) ?_; refine jz ?_; refine jjK rfl ?_; refine jjG ?_; refine jjB ?_; refine jjB ?_; refine jjC ?_; apply jI; exact eI rfl; refine jm ?_; refine jn rfl ?_; refine jm ?_; refine jn rfl ?_; refine jN rfl rfl rfl ?_; refine jje rfl rfl (by omega) ?_; refine jz ?_; refine jjK rfl ?_; refine jjG ?_; refine jjB ?_; refine jjC ?_; apply jI; exact eF rfl; apply jI; exact eI rfl; refine jN rfl rfl rfl ?_; apply jI; exact eI rfl; apply jI; exact eI rfl)
    have hget := ctx_get (ws := ws) (i := i) (W := wd) (j := j) (t := t) hji htl (by omega)
    rw [List.length_append] at hget
    have e1 : ctxTo ws i wd (i - j) (t + 1) = ctxTo ws i wd (i - j) t ++ [(i - j, i + t)] := by rw [ctxTo_succ, if_pos (show okX ws wd (i - j, i + t) = true from decide_eq_true (by omega))]
    (refine jjS (cells := [.int .i64 ((i - j : Nat) : Int), .int .i64 (i : Int), .int .i64 ((i + t : Nat) : Int), .int .i64 (lenX ws (i - j, i + t))]) ?_ ?_; exact rfl)
    skip
    refine Ops.yield (hY _ _ _ hget hJt) rfl rfl ?_
    rintro e w9 (⟨rfl, hJ9, hFr⟩ | ⟨rfl, hJx9⟩)
    · refine ⟨_, rfl, ?_⟩
      (refine jp rfl ?_; refine jz ?_; refine jjK rfl ?_; refine jjG ?_; refine jjC ?_; apply jI; exact eI rfl; refine jY rfl rfl (by omega) ?_; apply jJ; exact eI rfl; refine jz ?_)
      refine ⟨rfl, by ((refine Same.upd rfl ?_; refine Same.upd rfl ?_; refine Same.upd rfl ?_; refine Same.upd rfl ?_; refine Same.upd rfl ?_; refine Same.upd rfl ?_; refine Same.upd rfl ?_; refine Same.upd rfl ?_; refine Same.upd rfl ?_; refine Same.upd rfl ?_; refine Same.upd rfl ?_; refine Same.upd rfl ?_; refine Same.upd rfl ?_; refine Same.upd rfl ?_; refine Same.upd rfl ?_; refine Same.upd rfl ?_; refine Same.upd rfl ?_; refine Same.upd rfl ?_; refine Same.upd rfl ?_; refine Same.upd rfl ?_; refine Same.upd rfl ?_; exact Same.ovN)), ws.length - (i + (t + 1)), by omega, t + 1, congrArg (Value.int .i64) (by omega), rfl, by omega, rfl, ?_⟩
      rw [e1, List.length_append]; exact hJ9
    · refine ⟨_, rfl, ?_⟩
      (refine jq rfl ?_; refine jz ?_; refine jjJ rfl ?_; refine jjF ?_; refine jA rfl ⟨⟨_, rfl⟩, ?_⟩)
      exact .inr ⟨_, (List.getElem?_eq_some_iff.1 hget).1, hJx9⟩
  by_cases hte : i + t = ws.length
  · have hsu := ctxN_succ ws i wd j
    rw [show ws.length - i = t by omega] at hsu
    refine W.fix h7 (W.fix (d := 6) h6 ?_)
    clear h7 h6
    (refine jjB ?_; refine jjD ?_; refine jjB ?_; refine jjB ?_; refine jjC ?_; apply jI; exact eI rfl; refine jN rfl rfl rfl ?_; refine jjd rfl rfl (by omega) ?_; refine jz ?_; refine jjJ rfl ?_; refine jjB ?_; refine jjB ?_; refine jjC ?_; apply jI; exact eI rfl; refine jm ?_; refine jn rfl ?_; refine jN rfl rfl rfl ?_; refine jh rfl ?_; refine jjh rfl rfl (by omega) ?_; refine jz ?_; refine jjJ rfl ?_; refine jjE ?_; refine jjC ?_; apply jI; exact eI rfl; refine jZ rfl rfl (by omega) ?_; apply jJ; exact eI rfl; refine jz ?_)
    refine ⟨rfl, by ((refine Same.upd rfl ?_; refine Same.upd rfl ?_; refine Same.upd rfl ?_; refine Same.upd rfl ?_; refine Same.upd rfl ?_; refine Same.upd rfl ?_; refine Same.upd rfl ?_; refine Same.upd rfl ?_; refine Same.upd rfl ?_; refine Same.upd rfl ?_; refine Same.upd rfl ?_; refine Same.upd rfl ?_; refine Same.upd rfl ?_; refine Same.ovN' rfl ?_; assumption)), i + 1 - (j + 1), by omega, j + 1, congrArg (Value.int .i64) (by omega), congrArg (fun a => Value.int .i64 (lenX ws (a, i))) (by omega), by omega, rfl, ?_⟩
    rw [hsu, List.length_append]; exact hJt
  have htl : i + t < ws.length := by omega
  have hlt2 := lenX_to (ws := ws) (a := i - j) (b := i + (t - 1)) (by omega)
  have hst := hsz _ (List.getElem_mem htl)
  have hbt := lenX_bound (ws := ws) (a := i - j) (b := i + (t - 1)) hsz hn (by omega) (by omega)
  have hbt2 := lenX_bound (ws := ws) (a := i - j) (b := i + t) hsz hn (by omega) htl
  have hLe : lenX ws (i - j, i + t) = lenX ws (i - j, i + (t - 1)) + (ws[i + t].size + 1) := by
    have e : i + (t - 1) + 1 = i + t := by omega
    simp only [e] at hlt2
    exact hlt2
  refine W.fix h7 (W.fix (d := 6) h6 ?_)
  clear h7 h6
  generalize hL1 : lenX ws (i - j, i + (t - 1)) = L1 at *
  by_cases hLt : lenX ws (i - j, i + t) ≤ wd
  · (refine jjB ?_; refine jjD ?_; refine jjB ?_; refine jjB ?_; refine jjC ?_; apply jI; exact eI rfl; refine jN rfl rfl rfl ?_; refine jjd rfl rfl (by omega) ?_; refine jz ?_; refine jjJ rfl ?_; refine jjB ?_; refine jjB ?_; refine jjC ?_; apply jI; exact eI rfl; refine jm ?_; refine jn rfl ?_; refine jN rfl rfl rfl ?_; refine jh rfl ?_; refine jji rfl rfl (by omega) ?_; refine jz ?_; refine jjK rfl ?_; refine jjG ?_; refine jjC ?_; apply jI; exact eI rfl; refine jm ?_; refine jn rfl ?_; refine jN rfl rfl rfl ?_; apply jI; exact eI rfl; refine jF rfl rfl rfl (map_get (by omega)) ?_; intro _ _ _; refine jQ rfl rfl ?_; refine ji rfl ?_; refine jY rfl rfl (by omega) ?_; refine jY rfl rfl (by omega) ?_; apply jJ; exact eI rfl; refine jz ?_; refine jjB ?_; refine jjB ?_; refine jjC ?_; apply jI; exact eI rfl; refine jm ?_; refine jn rfl ?_; refine jm ?_; refine jn rfl ?_; refine jN rfl rfl rfl ?_; refine jje rfl rfl (by omega) ?_; refine jz ?_; refine jjK rfl ?_; refine jjG ?_; refine jjB ?_; refine jjC ?_; apply jI; exact eF rfl; apply jI; exact eI rfl; refine jN rfl rfl rfl ?_; apply jI; exact eI rfl; apply jI; exact eI rfl)
    have hget := ctx_get (ws := ws) (i := i) (W := wd) (j := j) (t := t) hji htl (by omega)
    rw [List.length_append] at hget
    have e1 : ctxTo ws i wd (i - j) (t + 1) = ctxTo ws i wd (i - j) t ++ [(i - j, i + t)] := by rw [ctxTo_succ, if_pos (show okX ws wd (i - j, i + t) = true from decide_eq_true (by omega))]
    have hy := hY _ _ _ hget hJt
    simp only [encX1, encX, hLe] at hy
    (refine jjS (cells := [.int .i64 ((i - j : Nat) : Int), .int .i64 (i : Int), .int .i64 ((i + t : Nat) : Int), .int .i64 (L1 + (ws[i + t].size + 1))]) ?_ ?_; exact rfl)
    skip
    refine Ops.yield hy rfl rfl ?_
    rintro e w9 (⟨rfl, hJ9, hFr⟩ | ⟨rfl, hJx9⟩)
    · refine ⟨_, rfl, ?_⟩
      (refine jp rfl ?_; refine jz ?_; refine jjK rfl ?_; refine jjG ?_; refine jjC ?_; apply jI; exact eI rfl; refine jY rfl rfl (by omega) ?_; apply jJ; exact eI rfl; refine jz ?_)
      refine ⟨rfl, by ((refine Same.upd rfl ?_; refine Same.upd rfl ?_; refine Same.upd rfl ?_; refine Same.upd rfl ?_; refine Same.upd rfl ?_; refine Same.upd rfl ?_; refine Same.upd rfl ?_; refine Same.upd rfl ?_; refine Same.upd rfl ?_; refine Same.upd rfl ?_; refine Same.upd rfl ?_; refine Same.upd rfl ?_; refine Same.upd rfl ?_; refine Same.upd rfl ?_; refine Same.upd rfl ?_; refine Same.upd rfl ?_; refine Same.upd rfl ?_; refine Same.upd rfl ?_; refine Same.upd rfl ?_; refine Same.upd rfl ?_; refine Same.upd rfl ?_; refine Same.upd rfl ?_; refine Same.upd rfl ?_; refine Same.upd rfl ?_; refine Same.upd rfl ?_; refine Same.upd rfl ?_; refine Same.upd rfl ?_; refine Same.upd rfl ?_; refine Same.upd rfl ?_; refine Same.upd rfl ?_; refine Same.upd rfl ?_; refine Same.upd rfl ?_; refine Same.upd rfl ?_; refine Same.upd rfl ?_; refine Same.upd rfl ?_; refine Same.upd rfl ?_; exact Same.ovN)), ws.length - (i + (t + 1)), by omega, t + 1, congrArg (Value.int .i64) (by omega), congrArg (Value.int .i64) (by rw [Nat.add_sub_cancel]; omega), by omega, rfl, ?_⟩
      rw [e1, List.length_append]; exact hJ9
    · refine ⟨_, rfl, ?_⟩
      (refine jq rfl ?_; refine jz ?_; refine jjJ rfl ?_; refine jjF ?_; refine jA rfl ⟨⟨_, rfl⟩, ?_⟩)
      exact .inr ⟨_, (List.getElem?_eq_some_iff.1 hget).1, hJx9⟩
  · have hsu := ctxN_succ ws i wd j
    have hsp := ctxTo_stop (ws := ws) (i := i) (W := wd) (a := i - j) (by omega) (t := t) (m := ws.length - i) (by omega) (by omega) (by omega)
    (refine jjB ?_; refine jjD ?_; refine jjB ?_; refine jjB ?_; refine jjC ?_; apply jI; exact eI rfl; refine jN rfl rfl rfl ?_; refine jjd rfl rfl (by omega) ?_; refine jz ?_; refine jjJ rfl ?_; refine jjB ?_; refine jjB ?_; refine jjC ?_; apply jI; exact eI rfl; refine jm ?_; refine jn rfl ?_; refine jN rfl rfl rfl ?_; refine jh rfl ?_; refine jji rfl rfl (by omega) ?_; refine jz ?_; refine jjK rfl ?_; refine jjG ?_; refine jjC ?_; apply jI; exact eI rfl; refine jm ?_; refine jn rfl ?_; refine jN rfl rfl rfl ?_; apply jI; exact eI rfl; refine jF rfl rfl rfl (map_get (by omega)) ?_; intro _ _ _; refine jQ rfl rfl ?_; refine ji rfl ?_; refine jY rfl rfl (by omega) ?_; refine jY rfl rfl (by omega) ?_; apply jJ; exact eI rfl; refine jz ?_; refine jjB ?_; refine jjB ?_; refine jjC ?_; apply jI; exact eI rfl; refine jm ?_; refine jn rfl ?_; refine jm ?_; refine jn rfl ?_; refine jN rfl rfl rfl ?_; refine jjd rfl rfl (by omega) ?_; refine jz ?_; refine jjJ rfl ?_; refine jjE ?_; refine jjC ?_; apply jI; exact eI rfl; refine jZ rfl rfl (by omega) ?_; apply jJ; exact eI rfl; refine jz ?_)
    refine ⟨rfl, by ((refine Same.upd rfl ?_; refine Same.upd rfl ?_; refine Same.upd rfl ?_; refine Same.upd rfl ?_; refine Same.upd rfl ?_; refine Same.upd rfl ?_; refine Same.upd rfl ?_; refine Same.upd rfl ?_; refine Same.upd rfl ?_; refine Same.upd rfl ?_; refine Same.upd rfl ?_; refine Same.upd rfl ?_; refine Same.upd rfl ?_; refine Same.upd rfl ?_; refine Same.upd rfl ?_; refine Same.upd rfl ?_; refine Same.upd rfl ?_; refine Same.upd rfl ?_; refine Same.upd rfl ?_; refine Same.upd rfl ?_; refine Same.upd rfl ?_; refine Same.upd rfl ?_; refine Same.upd rfl ?_; refine Same.upd rfl ?_; refine Same.upd rfl ?_; refine Same.upd rfl ?_; refine Same.upd rfl ?_; refine Same.upd rfl ?_; refine Same.ovN' rfl ?_; assumption)), i + 1 - (j + 1), by omega, j + 1, congrArg (Value.int .i64) (by omega), congrArg (fun a => Value.int .i64 (lenX ws (a, i))) (by omega), by omega, rfl, ?_⟩
    rw [hsu, hsp, List.length_append]; exact hJt
theorem contexts_slip (ws : List ByteArray) (wd side : Int) (i : Nat) (wa : Option Addr) (wc : Nat) (aa : Option Addr) (al ac : Nat) (w : World) : Ct Tryz.prog 111 [.agg #[.int .i64 wd, .int .u8 side, .slice wa ws.length wc, .slice aa al ac], .int .i64 (i : Int)] w fun v w' =>
    ∃ bi br, v = .func (.func 122) #[] ([.pointer (some ⟨bi, 0, none⟩), .pointer (some ⟨br, 0, none⟩)] : List Value).toArray ∧ At w' bi 0 [.int .i64 (i : Int)] ∧ At w' br 0 [.int .i64 wd, .int .u8 side, .slice wa ws.length wc, .slice aa al ac] := by
  refine Ct.ofW (by simp) ?_
  (refine jjB ?_; refine jjC ?_)
  (refine jy rfl ?_; intro br w_br hb_br hs_br hS_br hk_br; have hA_br := At.ofBlock hk_br)
  skip
  (refine jy rfl ?_; intro bi w_bi hb_bi hs_bi hS_bi hk_bi; have hA_bi := At.ofBlock hk_bi)
  (apply jJ; exact rfl; refine jz ?_; refine jjB ?_; refine jjC ?_; refine jv ?_; apply jJ; exact eF rfl; refine jz ?_; refine jjF ?_; refine jB rfl rfl ⟨inferInstance, ?_⟩)
  exact ⟨bi, br, rfl, inferInstance, inferInstance⟩
end Go.Proofs.YtfebegbjggoijaaGreatDoor

/- slip: the order of contexts. -/
namespace Go.Proofs.YtfebegbjggoijaaGreatDoor
open Go.RowKit

/-- A context of a short run. -/
abbrev InX (n i : Nat) (x : Cx) : Prop := x.1 ≤ i ∧ i ≤ x.2 ∧ x.2 < n ∧ n ≤ 1000000
theorem unE_bound {n i : Nat} {x : Cx} (h : InX n i x) : 0 ≤ unE i x ∧ unE i x ≤ 2000000 := by unfold unE; omega
theorem uneven_slip (ws : List ByteArray) (i : Nat) (x : Cx) (w : World) (hx : InX ws.length i x) : Ct Tryz.prog 162 [encX ws i x] w fun v _ => v = .int .i64 (unE i x) := by
  refine Ct.ofW (by simp) ?_
  (refine jjB ?_; refine jjC ?_)
  (refine jy rfl ?_; intro b1 w_b1 hb_b1 hs_b1 hS_b1 hk_b1; have hA_b1 := At.ofBlock hk_b1)
  (apply jJ; exact eI rfl; refine jz ?_; refine jjB ?_; refine jjC ?_; refine jm ?_; refine jn rfl ?_; refine jN rfl rfl rfl ?_; refine jm ?_; refine jn rfl ?_; refine jN rfl rfl rfl ?_; refine jZ rfl rfl (by omega) ?_; refine jm ?_; refine jn rfl ?_; refine jN rfl rfl rfl ?_; refine jm ?_; refine jn rfl ?_; refine jN rfl rfl rfl ?_; refine jZ rfl rfl (by omega) ?_; refine jZ rfl rfl (by omega) ?_; apply jJ; exact eI rfl; refine jz ?_; refine jjB ?_; refine jjC ?_; apply jI; exact eI rfl; apply jI; exact eI rfl)
  refine jjm rfl (by omega) ?_
  (refine jk rfl rfl ?_; apply jJ; exact eI rfl; refine jz ?_; refine jjF ?_; refine jB rfl rfl ⟨inferInstance, ?_⟩)
  exact rfl
theorem sides1_slip (ws : List ByteArray) (i : Nat) (a b : Cx) (w : World) (ha : InX ws.length i a) (hb : InX ws.length i b) : Ct Tryz.prog 167 [encX ws i a, encX ws i b] w fun v _ => v = .int .i64 ((a.1 : Int) - b.1) := by
  refine Ct.ofW (by simp) ?_
  (refine jjB ?_; refine jjC ?_)
  (refine jy rfl ?_; intro b1 w_b1 hb_b1 hs_b1 hS_b1 hk_b1; have hA_b1 := At.ofBlock hk_b1)
  skip
  (refine jy rfl ?_; intro b2 w_b2 hb_b2 hs_b2 hS_b2 hk_b2; have hA_b2 := At.ofBlock hk_b2)
  (apply jJ; exact eI rfl; refine jz ?_; refine jjB ?_; refine jjC ?_; refine jm ?_; refine jn rfl ?_; refine jN rfl rfl rfl ?_; refine jm ?_; refine jn rfl ?_; refine jN rfl rfl rfl ?_; refine jZ rfl rfl (by omega) ?_; apply jJ; exact eI rfl; refine jz ?_; refine jjF ?_; refine jB rfl rfl ⟨inferInstance, ?_⟩)
  exact rfl
theorem sides2_slip (ws : List ByteArray) (i : Nat) (a b : Cx) (w : World) (ha : InX ws.length i a) (hb : InX ws.length i b) : Ct Tryz.prog 168 [encX ws i a, encX ws i b] w fun v _ => v = .int .i64 ((b.1 : Int) - a.1) := by
  refine Ct.ofW (by simp) ?_
  (refine jjB ?_; refine jjC ?_)
  (refine jy rfl ?_; intro b1 w_b1 hb_b1 hs_b1 hS_b1 hk_b1; have hA_b1 := At.ofBlock hk_b1)
  skip
  (refine jy rfl ?_; intro b2 w_b2 hb_b2 hs_b2 hS_b2 hk_b2; have hA_b2 := At.ofBlock hk_b2)
  (apply jJ; exact eI rfl; refine jz ?_; refine jjB ?_; refine jjC ?_; refine jm ?_; refine jn rfl ?_; refine jN rfl rfl rfl ?_; refine jm ?_; refine jn rfl ?_; refine jN rfl rfl rfl ?_; refine jZ rfl rfl (by omega) ?_; apply jJ; exact eI rfl; refine jz ?_; refine jjF ?_; refine jB rfl rfl ⟨inferInstance, ?_⟩)
  exact rfl
theorem sides3_slip (ws : List ByteArray) (i : Nat) (a b : Cx) (w : World) (ha : InX ws.length i a) (hb : InX ws.length i b) : Ct Tryz.prog 169 [encX ws i a, encX ws i b] w fun v _ => v = .int .i64 (orF [unE i a - unE i b, (b.1 : Int) - a.1]) := by
  have u1 := unE_bound ha
  have u2 := unE_bound hb
  refine Ct.ofW (by simp) ?_
  (refine jjB ?_; refine jjC ?_)
  (refine jy rfl ?_; intro b1 w_b1 hb_b1 hs_b1 hS_b1 hk_b1; have hA_b1 := At.ofBlock hk_b1)
  skip
  (refine jy rfl ?_; intro b2 w_b2 hb_b2 hs_b2 hS_b2 hk_b2; have hA_b2 := At.ofBlock hk_b2)
  (apply jJ; exact eI rfl; refine jz ?_; refine jjB ?_)
  refine W.draw (fun w' => Ext w_b2 w') ?_
  intro w1 hS1
  (refine jjV [0, 2, 5, 6, 7, 8, 9] ?_ ?_ ?_; (decide +kernel); (exact hS1.ext); (((apply jjT; exact rfl; rintro w' hq; have := hq.toStep; refine jO rfl rfl rfl rfl ?_; refine jz ?_; exact ⟨rfl, rfl⟩; apply jjT; exact rfl; rintro w' hq; have := hq.toStep; refine jO rfl rfl rfl rfl ?_; refine jz ?_; exact ⟨rfl, rfl⟩; apply jjT; exact rfl; rintro w' hq; have := hq.toStep; refine jm ?_; refine jn rfl ?_; refine jz ?_; exact ⟨rfl, rfl⟩; apply jjT; exact rfl; rintro w' hq; have := hq.toStep; refine jN rfl rfl rfl ?_; refine jz ?_; exact ⟨rfl, rfl⟩; apply jjT; exact rfl; rintro w' hq; have := hq.toStep; refine jm ?_; refine jn rfl ?_; refine jz ?_; exact ⟨rfl, rfl⟩; apply jjT; exact rfl; rintro w' hq; have := hq.toStep; refine jN rfl rfl rfl ?_; refine jz ?_; exact ⟨rfl, rfl⟩; apply jjT; exact rfl; rintro w' hq; have := hq.toStep; refine jZ rfl rfl (by omega) ?_; refine jz ?_; exact ⟨rfl, rfl⟩; refine jjU ?_))))
  (apply jjW 1; (decide +kernel); exact rfl; (exact hS1.ext))
  refine jjQ (uneven_slip ws i a _ ha) rfl rfl ?_
  rintro _ w2 hS2 rfl
  refine jz ?_
  (apply jjW 3; (decide +kernel); exact rfl; (exact hS1.ext.trans hS2.ext))
  refine jjQ (uneven_slip ws i b _ hb) rfl rfl ?_
  rintro _ w3 hS3 rfl
  refine jz ?_
  have hE3 := (hS1.ext.trans hS2.ext).trans hS3.ext
  (refine jjV [4] ?_ ?_ ?_; (decide +kernel); (exact hE3); (((apply jjT; exact rfl; rintro w' hq; have := hq.toStep; refine jZ rfl rfl (by omega) ?_; refine jz ?_; exact ⟨rfl, rfl⟩; refine jjU ?_))))
  (apply jjW 10; (decide +kernel); exact rfl; (exact hE3))
  refine Ops.buildSlice2 (u := .int .i64 (unE i a - unE i b)) (v := .int .i64 ((b.1 : Int) - a.1)) rfl rfl rfl rfl rfl ?_
  intro b9 w4 hb4 hs4 hS4 hk4
  refine jz ?_
  have hE4 := hE3.trans hS4.ext
  have hr4 : RowV w4 false 1 (.slice (some ⟨b9, 0, none⟩) 2 2) ([unE i a - unE i b, (b.1 : Int) - a.1].map intV) := hk4.row (fun x hx => by simp at hx; rcases hx with rfl | rfl <;> rfl) (by simp)
  (apply jjW 11; (decide +kernel); exact rfl; (exact hE4))
  refine jjQ (Or_int _ _ _ [unE i a - unE i b, (b.1 : Int) - a.1] _ rfl hr4) rfl rfl ?_
  rintro _ w5 hS5 rfl
  refine jz ?_
  (apply jjW 12; (decide +kernel); exact rfl; (exact hE4.trans hS5.ext))
  (apply jJ; exact eI rfl; refine jz ?_)
  refine jjX (by decide +kernel) (hE4.trans hS5.ext) ?_
  (refine jjF ?_; refine jB rfl rfl ⟨inferInstance, ?_⟩)
  exact rfl

/-- The table of sides. -/
abbrev sidesC : List Value := [.nilFunc, .func (.func 167) #[] ([] : List Value).toArray, .func (.func 168) #[] ([] : List Value).toArray, .func (.func 169) #[] ([] : List Value).toArray]
set_option maxHeartbeats 2000000 in
theorem slip1_slip (br : Nat) (ws : List ByteArray) (wd side : Int) (i : Nat) (wv av : Value) (a b : Cx) (w : World) [hr : At w br 0 [.int .i64 wd, .int .u8 side, wv, av]] [hg : At w 2 0 sidesC] (hs : 1 ≤ side ∧ side ≤ 3) (ha : InX ws.length i a) (hb : InX ws.length i b)
    (la : 0 ≤ lenX ws a ∧ lenX ws a ≤ 1001000000) (lb : 0 ≤ lenX ws b ∧ lenX ws b ≤ 1001000000) : Ct Tryz.prog 112 [encX ws i a, encX ws i b, .pointer (some ⟨br, 0, none⟩)] w fun v _ => v = .int .i64 (ordI ws side i a b) := by
  have hsd : side = 1 ∨ side = 2 ∨ side = 3 := by omega
  rcases hsd with rfl | rfl | rfl
  · refine Ct.ofW (by simp) ?_
    (refine jjB ?_; refine jjC ?_)
    (refine jy rfl ?_; intro b3 w_b3 hb_b3 hs_b3 hS_b3 hk_b3; have hA_b3 := At.ofBlock hk_b3)
    skip
    (refine jy rfl ?_; intro b4 w_b4 hb_b4 hs_b4 hS_b4 hk_b4; have hA_b4 := At.ofBlock hk_b4)
    (apply jJ; exact eI rfl; refine jz ?_; refine jjB ?_)
    refine W.draw (fun w' => Ext w_b4 w') ?_
    intro w1 hS1
    (refine jjV [0, 1, 2, 3, 4, 5, 6, 7] ?_ ?_ ?_; (decide +kernel); (exact hS1.ext); (((apply jjT; exact rfl; rintro w' hq; have := hq.toStep; refine jm ?_; refine jn rfl ?_; refine jz ?_; exact ⟨rfl, rfl⟩; apply jjT; exact rfl; rintro w' hq; have := hq.toStep; refine jN rfl rfl rfl ?_; refine jz ?_; exact ⟨rfl, rfl⟩; apply jjT; exact rfl; rintro w' hq; have := hq.toStep; refine jm ?_; refine jn rfl ?_; refine jz ?_; exact ⟨rfl, rfl⟩; apply jjT; exact rfl; rintro w' hq; have := hq.toStep; refine jN rfl rfl rfl ?_; refine jz ?_; exact ⟨rfl, rfl⟩; apply jjT; exact rfl; rintro w' hq; have := hq.toStep; refine jZ rfl rfl (by omega) ?_; refine jz ?_; exact ⟨rfl, rfl⟩; apply jjT; exact rfl; rintro w' hq; have := hq.toStep; refine jm ?_; refine jn rfl ?_; refine jz ?_; exact ⟨rfl, rfl⟩; apply jjT; exact rfl; rintro w' hq; have := hq.toStep; refine jm ?_; refine jn rfl ?_; refine jz ?_; exact ⟨rfl, rfl⟩; apply jjT; exact rfl; rintro w' hq; have := hq.toStep; refine jN rfl rfl rfl ?_; refine jz ?_; exact ⟨rfl, rfl⟩; refine jjU ?_))))
    refine jjV [8] (by decide +kernel) hS1.ext (jjT (v := .pointer (some ⟨2, 0 + 1, none⟩)) rfl (fun w' q1 => ?_) (jjU ?_)); (refine Ops.indexAP (j := 1) rfl rfl rfl rfl ?_; refine jz ?_; exact ⟨rfl, rfl⟩)
    (refine jjV [9, 10, 11, 12] ?_ ?_ ?_; (decide +kernel); (exact hS1.ext); (((apply jjT; exact rfl; rintro w' hq; have := hq.toStep; refine jm ?_; refine jn rfl ?_; refine jz ?_; exact ⟨rfl, rfl⟩; apply jjT; exact rfl; rintro w' hq; have := hq.toStep; refine jN rfl rfl rfl ?_; refine jz ?_; exact ⟨rfl, rfl⟩; apply jjT; exact rfl; rintro w' hq; have := hq.toStep; refine jO rfl rfl rfl rfl ?_; refine jz ?_; exact ⟨rfl, rfl⟩; apply jjT; exact rfl; rintro w' hq; have := hq.toStep; refine jO rfl rfl rfl rfl ?_; refine jz ?_; exact ⟨rfl, rfl⟩; refine jjU ?_))))
    (apply jjW 13; (decide +kernel); exact rfl; (exact hS1.ext))
    refine jjQ (sides1_slip ws i a b _ ha hb) rfl rfl ?_
    rintro _ w2 hS2 rfl
    refine jz ?_
    (apply jjW 14; (decide +kernel); exact rfl; (exact hS1.ext.trans hS2.ext))
    refine Ops.buildSlice2 (u := .int .i64 (lenX ws b - lenX ws a)) (v := .int .i64 ((a.1 : Int) - b.1)) rfl rfl rfl rfl rfl ?_
    intro b9 w3 hb3 hs3 hS3 hk3
    refine jz ?_
    have hE3 := (hS1.ext.trans hS2.ext).trans hS3.ext
    have hr3 : RowV w3 false 1 (.slice (some ⟨b9, 0, none⟩) 2 2) ([lenX ws b - lenX ws a, (a.1 : Int) - b.1].map intV) := hk3.row (fun x hx => by simp at hx; rcases hx with rfl | rfl <;> rfl) (by simp)
    (apply jjW 15; (decide +kernel); exact rfl; (exact hE3))
    refine jjQ (Or_int _ _ _ [lenX ws b - lenX ws a, (a.1 : Int) - b.1] _ rfl hr3) rfl rfl ?_
    rintro _ w4 hS4 rfl
    refine jz ?_
    (apply jjW 16; (decide +kernel); exact rfl; (exact hE3.trans hS4.ext))
    (apply jJ; exact eI rfl; refine jz ?_)
    refine jjX (by decide +kernel) (hE3.trans hS4.ext) ?_
    (refine jjF ?_; refine jB rfl rfl ⟨inferInstance, ?_⟩)
    exact rfl
  · refine Ct.ofW (by simp) ?_
    (refine jjB ?_; refine jjC ?_)
    (refine jy rfl ?_; intro b3 w_b3 hb_b3 hs_b3 hS_b3 hk_b3; have hA_b3 := At.ofBlock hk_b3)
    skip
    (refine jy rfl ?_; intro b4 w_b4 hb_b4 hs_b4 hS_b4 hk_b4; have hA_b4 := At.ofBlock hk_b4)
    (apply jJ; exact eI rfl; refine jz ?_; refine jjB ?_)
    refine W.draw (fun w' => Ext w_b4 w') ?_
    intro w1 hS1
    (refine jjV [0, 1, 2, 3, 4, 5, 6, 7] ?_ ?_ ?_; (decide +kernel); (exact hS1.ext); (((apply jjT; exact rfl; rintro w' hq; have := hq.toStep; refine jm ?_; refine jn rfl ?_; refine jz ?_; exact ⟨rfl, rfl⟩; apply jjT; exact rfl; rintro w' hq; have := hq.toStep; refine jN rfl rfl rfl ?_; refine jz ?_; exact ⟨rfl, rfl⟩; apply jjT; exact rfl; rintro w' hq; have := hq.toStep; refine jm ?_; refine jn rfl ?_; refine jz ?_; exact ⟨rfl, rfl⟩; apply jjT; exact rfl; rintro w' hq; have := hq.toStep; refine jN rfl rfl rfl ?_; refine jz ?_; exact ⟨rfl, rfl⟩; apply jjT; exact rfl; rintro w' hq; have := hq.toStep; refine jZ rfl rfl (by omega) ?_; refine jz ?_; exact ⟨rfl, rfl⟩; apply jjT; exact rfl; rintro w' hq; have := hq.toStep; refine jm ?_; refine jn rfl ?_; refine jz ?_; exact ⟨rfl, rfl⟩; apply jjT; exact rfl; rintro w' hq; have := hq.toStep; refine jm ?_; refine jn rfl ?_; refine jz ?_; exact ⟨rfl, rfl⟩; apply jjT; exact rfl; rintro w' hq; have := hq.toStep; refine jN rfl rfl rfl ?_; refine jz ?_; exact ⟨rfl, rfl⟩; refine jjU ?_))))
    refine jjV [8] (by decide +kernel) hS1.ext (jjT (v := .pointer (some ⟨2, 0 + 2, none⟩)) rfl (fun w' q1 => ?_) (jjU ?_)); (refine Ops.indexAP (j := 2) rfl rfl rfl rfl ?_; refine jz ?_; exact ⟨rfl, rfl⟩)
    (refine jjV [9, 10, 11, 12] ?_ ?_ ?_; (decide +kernel); (exact hS1.ext); (((apply jjT; exact rfl; rintro w' hq; have := hq.toStep; refine jm ?_; refine jn rfl ?_; refine jz ?_; exact ⟨rfl, rfl⟩; apply jjT; exact rfl; rintro w' hq; have := hq.toStep; refine jN rfl rfl rfl ?_; refine jz ?_; exact ⟨rfl, rfl⟩; apply jjT; exact rfl; rintro w' hq; have := hq.toStep; refine jO rfl rfl rfl rfl ?_; refine jz ?_; exact ⟨rfl, rfl⟩; apply jjT; exact rfl; rintro w' hq; have := hq.toStep; refine jO rfl rfl rfl rfl ?_; refine jz ?_; exact ⟨rfl, rfl⟩; refine jjU ?_))))
    (apply jjW 13; (decide +kernel); exact rfl; (exact hS1.ext))
    refine jjQ (sides2_slip ws i a b _ ha hb) rfl rfl ?_
    rintro _ w2 hS2 rfl
    refine jz ?_
    (apply jjW 14; (decide +kernel); exact rfl; (exact hS1.ext.trans hS2.ext))
    refine Ops.buildSlice2 (u := .int .i64 (lenX ws b - lenX ws a)) (v := .int .i64 ((b.1 : Int) - a.1)) rfl rfl rfl rfl rfl ?_
    intro b9 w3 hb3 hs3 hS3 hk3
    refine jz ?_
    have hE3 := (hS1.ext.trans hS2.ext).trans hS3.ext
    have hr3 : RowV w3 false 1 (.slice (some ⟨b9, 0, none⟩) 2 2) ([lenX ws b - lenX ws a, (b.1 : Int) - a.1].map intV) := hk3.row (fun x hx => by simp at hx; rcases hx with rfl | rfl <;> rfl) (by simp)
    (apply jjW 15; (decide +kernel); exact rfl; (exact hE3))
    refine jjQ (Or_int _ _ _ [lenX ws b - lenX ws a, (b.1 : Int) - a.1] _ rfl hr3) rfl rfl ?_
    rintro _ w4 hS4 rfl
    refine jz ?_
    (apply jjW 16; (decide +kernel); exact rfl; (exact hE3.trans hS4.ext))
    (apply jJ; exact eI rfl; refine jz ?_)
    refine jjX (by decide +kernel) (hE3.trans hS4.ext) ?_
    (refine jjF ?_; refine jB rfl rfl ⟨inferInstance, ?_⟩)
    exact rfl
  · refine Ct.ofW (by simp) ?_
    (refine jjB ?_; refine jjC ?_)
    (refine jy rfl ?_; intro b3 w_b3 hb_b3 hs_b3 hS_b3 hk_b3; have hA_b3 := At.ofBlock hk_b3)
    skip
    (refine jy rfl ?_; intro b4 w_b4 hb_b4 hs_b4 hS_b4 hk_b4; have hA_b4 := At.ofBlock hk_b4)
    (apply jJ; exact eI rfl; refine jz ?_; refine jjB ?_)
    refine W.draw (fun w' => Ext w_b4 w') ?_
    intro w1 hS1
    (refine jjV [0, 1, 2, 3, 4, 5, 6, 7] ?_ ?_ ?_; (decide +kernel); (exact hS1.ext); (((apply jjT; exact rfl; rintro w' hq; have := hq.toStep; refine jm ?_; refine jn rfl ?_; refine jz ?_; exact ⟨rfl, rfl⟩; apply jjT; exact rfl; rintro w' hq; have := hq.toStep; refine jN rfl rfl rfl ?_; refine jz ?_; exact ⟨rfl, rfl⟩; apply jjT; exact rfl; rintro w' hq; have := hq.toStep; refine jm ?_; refine jn rfl ?_; refine jz ?_; exact ⟨rfl, rfl⟩; apply jjT; exact rfl; rintro w' hq; have := hq.toStep; refine jN rfl rfl rfl ?_; refine jz ?_; exact ⟨rfl, rfl⟩; apply jjT; exact rfl; rintro w' hq; have := hq.toStep; refine jZ rfl rfl (by omega) ?_; refine jz ?_; exact ⟨rfl, rfl⟩; apply jjT; exact rfl; rintro w' hq; have := hq.toStep; refine jm ?_; refine jn rfl ?_; refine jz ?_; exact ⟨rfl, rfl⟩; apply jjT; exact rfl; rintro w' hq; have := hq.toStep; refine jm ?_; refine jn rfl ?_; refine jz ?_; exact ⟨rfl, rfl⟩; apply jjT; exact rfl; rintro w' hq; have := hq.toStep; refine jN rfl rfl rfl ?_; refine jz ?_; exact ⟨rfl, rfl⟩; refine jjU ?_))))
    refine jjV [8] (by decide +kernel) hS1.ext (jjT (v := .pointer (some ⟨2, 0 + 3, none⟩)) rfl (fun w' q1 => ?_) (jjU ?_)); (refine Ops.indexAP (j := 3) rfl rfl rfl rfl ?_; refine jz ?_; exact ⟨rfl, rfl⟩)
    (refine jjV [9, 10, 11, 12] ?_ ?_ ?_; (decide +kernel); (exact hS1.ext); (((apply jjT; exact rfl; rintro w' hq; have := hq.toStep; refine jm ?_; refine jn rfl ?_; refine jz ?_; exact ⟨rfl, rfl⟩; apply jjT; exact rfl; rintro w' hq; have := hq.toStep; refine jN rfl rfl rfl ?_; refine jz ?_; exact ⟨rfl, rfl⟩; apply jjT; exact rfl; rintro w' hq; have := hq.toStep; refine jO rfl rfl rfl rfl ?_; refine jz ?_; exact ⟨rfl, rfl⟩; apply jjT; exact rfl; rintro w' hq; have := hq.toStep; refine jO rfl rfl rfl rfl ?_; refine jz ?_; exact ⟨rfl, rfl⟩; refine jjU ?_))))
    (apply jjW 13; (decide +kernel); exact rfl; (exact hS1.ext))
    refine jjQ (sides3_slip ws i a b _ ha hb) rfl rfl ?_
    rintro _ w2 hS2 rfl
    refine jz ?_
    (apply jjW 14; (decide +kernel); exact rfl; (exact hS1.ext.trans hS2.ext))
    refine Ops.buildSlice2 (u := .int .i64 (lenX ws b - lenX ws a)) (v := .int .i64 (orF [unE i a - unE i b, (b.1 : Int) - a.1])) rfl rfl rfl rfl rfl ?_
    intro b9 w3 hb3 hs3 hS3 hk3
    refine jz ?_
    have hE3 := (hS1.ext.trans hS2.ext).trans hS3.ext
    have hr3 : RowV w3 false 1 (.slice (some ⟨b9, 0, none⟩) 2 2) ([lenX ws b - lenX ws a, orF [unE i a - unE i b, (b.1 : Int) - a.1]].map intV) := hk3.row (fun x hx => by simp at hx; rcases hx with rfl | rfl <;> rfl) (by simp)
    (apply jjW 15; (decide +kernel); exact rfl; (exact hE3))
    refine jjQ (Or_int _ _ _ [lenX ws b - lenX ws a, orF [unE i a - unE i b, (b.1 : Int) - a.1]] _ rfl hr3) rfl rfl ?_
    rintro _ w4 hS4 rfl
    refine jz ?_
    (apply jjW 16; (decide +kernel); exact rfl; (exact hE3.trans hS4.ext))
    (apply jJ; exact eI rfl; refine jz ?_)
    refine jjX (by decide +kernel) (hE3.trans hS4.ext) ?_
    (refine jjF ?_; refine jB rfl rfl ⟨inferInstance, ?_⟩)
    exact rfl
end Go.Proofs.YtfebegbjggoijaaGreatDoor

/- slip: first. -/
namespace Go.Proofs.YtfebegbjggoijaaGreatDoor
open Go.RowKit

/-- What the best context's variable holds. -/
abbrev cxC (ws : List ByteArray) (i : Nat) : Option Cx → List Value
  | none => [.int .i64 0, .int .i64 0, .int .i64 0, .int .i64 0]
  | some x => [.int .i64 (x.1 : Int), .int .i64 (i : Int), .int .i64 (x.2 : Int), .int .i64 (lenX ws x)]
set_option maxHeartbeats 2000000 in
theorem first_slip (bi br br2 : Nat) (ws : List ByteArray) (wd side : Int) (i : Nat) (wa : Option Addr) (wc : Nat) (aa : Option Addr) (al ac : Nat) (w : World) (hi : i < ws.length) (hsz : ∀ s ∈ ws, s.size ≤ 1000) (hn : ws.length ≤ 1000000) (hW : 0 ≤ wd ∧ wd ≤ 1000) (hs : 1 ≤ side ∧ side ≤ 3) (hwi : (ws[i].size : Int) ≤ wd)
    (hF : RunF bi br ws wd side i wa wc aa al ac w) (hr2 : At w br2 0 [.int .i64 wd, .int .u8 side, .slice wa ws.length wc, .slice aa al ac]) (hg : At w 2 0 sidesC) :
    Ct Tryz.prog 110 [.func (.func 122) #[] ([.pointer (some ⟨bi, 0, none⟩), .pointer (some ⟨br, 0, none⟩)] : List Value).toArray, .func (.func 112) #[] ([.pointer (some ⟨br2, 0, none⟩)] : List Value).toArray] w fun v _ => v = encX ws i (bestA ws side wd i) := by
  have hbest := fst_best (side := side) hi hwi
  have hmem : ∀ x ∈ ctxA ws i wd, InX ws.length i x ∧ 0 ≤ lenX ws x ∧ lenX ws x ≤ 1001000000 := fun x hx => by
    have h := (mem_ctxA hi).1 hx
    exact ⟨⟨h.1, h.2.1, h.2.2.1, hn⟩, lenX_bound hsz hn (by omega) h.2.2.1⟩
  have hst : ∀ k b, ((ctxA ws i wd).take k).foldl (bestS (ordI ws side i)) none = some b → b ∈ ctxA ws i wd := by
    intro k b
    induction k generalizing b with
    | zero => intro h; cases h
    | succ k ih =>
      intro h
      by_cases hk : k < (ctxA ws i wd).length
      · rw [take_snoc_get (List.getElem?_eq_getElem hk), List.foldl_append, List.foldl_cons, List.foldl_nil] at h
        cases hq : ((ctxA ws i wd).take k).foldl (bestS (ordI ws side i)) none with
        | none => rw [hq] at h; cases h; exact List.getElem_mem hk
        | some c =>
          rw [hq] at h
          simp only [bestS] at h
          split at h
          · cases h; exact List.getElem_mem hk
          · cases h; exact ih _ hq
      · rw [List.take_of_length_le (by omega)] at h
        rw [List.take_of_length_le (by omega)] at ih
        exact ih b h
  refine Ct.ofWM (by simp) ?_
  (refine jjB ?_; refine jjC ?_)
  (refine jy rfl ?_; intro b3 w_b3 hb_b3 hs_b3 hS_b3 hk_b3; have hA_b3 := At.ofBlock hk_b3)
  ((skip); refine jjY ?_; intro b4 w_b4 hb_b4 hs_b4 hS_b4 hk_b4; have hA_b4 := Bk.of hk_b4)
  (((refine jz ?_; refine jjB ?_; refine jjC ?_)); refine jjY ?_; intro b5 w_b5 hb_b5 hs_b5 hS_b5 hk_b5; have hA_b5 := Bk.of hk_b5)
  (refine jz ?_; refine jjB ?_; refine jjC ?_)
  (apply jjR rfl; (intro _; first|exact eI rfl|exact eB rfl|exact eP rfl|exact eS rfl|exact eT rfl|exact eA rfl|exact eU rfl|exact eF rfl|exact eM rfl|exact eN rfl|exact rfl); exact rfl; exact rfl; exact rfl; exact rfl; intro b6 w_b6 hb_b6 hs_b6 hS_b6 hk_b6; have hA_b6 := Bk.of hk_b6)
  (refine jz ?_; refine jjB ?_; refine jjB ?_; refine jjC ?_; apply jI; exact eF rfl; refine jz ?_; refine jjD ?_)
  have hE6 : Ext w w_b6 := inferInstance
  refine W.range w.heap.size (ctxA ws i wd) (encX1 ws i) (contexts1_slip bi br ws wd side i wa wc aa al ac hi hsz hn hW) rfl (fun _ => rfl) trivial inferInstance hE6.size
    (fun k V => Ext w V ∧ w_b6.heap.size ≤ V.heap.size ∧ At V b3 0 [.func (.func 112) #[] ([.pointer (some ⟨br2, 0, none⟩)] : List Value).toArray] ∧ Bk V b4 [.int .i64 0, .int .i64 0, .int .i64 0, .int .i64 0] 173 ∧ Bk V b5 (cxC ws i (((ctxA ws i wd).take k).foldl (bestS (ordI ws side i)) none)) 173 ∧ Bk V b6 [.bool (((ctxA ws i wd).take k).foldl (bestS (ordI ws side i)) none).isSome] 4)
    (fun _ _ _ => False) ?hJ (fun _ _ _ _ h _ => h) ?hF ?h0 (fun x s' V => ∃ b7, s' 3 = .pointer (some ⟨b3, 0, none⟩) ∧ s' 5 = .pointer (some ⟨b5, 0, none⟩) ∧ s' 6 = .pointer (some ⟨b6, 0, none⟩) ∧ s' 7 = .pointer (some ⟨b7, 0, none⟩) ∧ w_b6.heap.size ≤ b7 ∧ Bk V b7 (cxC ws i (some x)) 173) (fun x s V V' ⟨b7, h1, h2, h3, h4, h5, h6⟩ g => ⟨b7, h1, h2, h3, h4, h5, h6.grow g⟩) ?hassign ?hbody ?hdone (fun _ _ _ _ _ _ _ h => h.elim)
  case hJ =>
    rintro k V V' ⟨h1, h2, h3, h4, h5, h6⟩ g
    exact ⟨h1.ofGrow g hE6.size, Nat.le_trans h2 g.size, h3.grow g, h4.grow g, h5.grow g, h6.grow g⟩
  case hF =>
    rintro k V ⟨h1, h2, h3, h4, h5, h6⟩
    exact ⟨h2, hF.num.ext h1, hF.run.ext h1, hF.row.ext h1⟩
  case h0 =>
    exact ⟨hE6, Nat.le_refl _, inferInstance, inferInstance, inferInstance, inferInstance⟩
  case hassign =>
    rintro l k x V hx ⟨h1, h2, h3, h4, h5, h6⟩ hl hr
    (refine jjC ?_)
    (apply jjR rfl; (intro _; first|exact eI rfl|exact eB rfl|exact eP rfl|exact eS rfl|exact eT rfl|exact eA rfl|exact eU rfl|exact eF rfl|exact eM rfl|exact eN rfl|exact rfl); exact rfl; exact rfl; exact rfl; exact rfl; intro b7 w_b7 hb_b7 hs_b7 hS_b7 hk_b7; have hA_b7 := Bk.of hk_b7)
    (refine jz ?_)
    exact ⟨rfl, hS_b7.ext.tr, Fr.ext hS_b7.ext, ⟨h1.trans hS_b7.ext, by have := hS_b7.size; omega, h3.ext hS_b7.ext, h4.ext hS_b7.ext, h5.ext hS_b7.ext, h6.ext hS_b7.ext⟩, b7, rfl, rfl, rfl, rfl, by omega, inferInstance⟩
  case hbody =>
    rintro l k x s' V hx ⟨h1, h2, h3, h4, h5, h6⟩ ⟨b7, ha3, ha5, ha6, ha7, hlb, hb7⟩ hl hr
    have hxm := hmem x (List.mem_of_getElem? hx)
    have hnext : ((ctxA ws i wd).take (k + 1)).foldl (bestS (ordI ws side i)) none = bestS (ordI ws side i) (((ctxA ws i wd).take k).foldl (bestS (ordI ws side i)) none) x := by rw [take_snoc_get hx, List.foldl_append, List.foldl_cons, List.foldl_nil]
    have hstk := hst k
    refine W.fix (d := 3) ha3 (W.fix (d := 5) ha5 (W.fix (d := 6) ha6 (W.fix (d := 7) ha7 ?_)))
    clear ha3 ha5 ha6 ha7
    rw [hnext]
    generalize ((ctxA ws i wd).take k).foldl (bestS (ordI ws side i)) none = st at h5 h6 hstk hnext ⊢
    clear hnext
    have n56 : b5 ≠ b6 := by omega
    have n46 : b4 ≠ b6 := by omega
    have n45 : b4 ≠ b5 := by omega
    have n35 : b3 ≠ b5 := by omega
    have n36 : b3 ≠ b6 := by omega
    have hw5 : b5 < w_b6.heap.size := by omega
    have hw6 : b6 < w_b6.heap.size := by omega
    have hw5' : w.heap.size ≤ b5 := by omega
    have hw6' : w.heap.size ≤ b6 := by omega
    have := Bk.toAt (h := h5)
    have := Bk.toAt (h := h6)
    have := Bk.toAt (h := hb7)
    cases st with
    | none =>
      (refine jjD ?_; refine jjB ?_; refine jjC ?_; refine jN rfl rfl rfl ?_; refine jq rfl ?_; apply jI; exact eB rfl; refine jU rfl rfl rfl rfl ?_; refine jU rfl rfl rfl rfl ?_; refine jU rfl rfl rfl rfl ?_; refine jU rfl rfl rfl rfl ?_; refine jU rfl rfl rfl rfl ?_; apply jK rfl; exact eB rfl; refine jz ?_; refine jjJ rfl ?_; refine jjC ?_; refine jO rfl rfl rfl rfl ?_)
      refine Ops.store rfl rfl rfl rfl rfl ?_
      intro V2 hp2
      have k6 := hp2.bk (h6) (Ne.symm n56)
      have := Bk.toAt (h := k6)
      skip
      refine Ops.store rfl rfl rfl rfl rfl ?_
      intro V3 hp3
      (refine jz ?_)
      have z2 := hp2.size
      have z3 := hp3.size
      have k5 : Bk V3 b5 (cxC ws i (some x)) 173 := hp3.bk ⟨hp2.new⟩ n56
      exact ⟨(hp2.tr ⟨_, (h5).h, rfl⟩).trans (hp3.tr ⟨_, k6.h, rfl⟩), (hp2.frS (by omega)).trans (hp3.frS (by omega)), hp3.ext (hp2.ext (h1) hw5') hw6', by omega, hp3.at_ (hp2.at_ (h3) n35) n36, hp3.bk (hp2.bk (h4) n45) n46, k5, ⟨hp3.new⟩⟩
    | some b =>
      have hbm := hmem b (hstk b rfl)
      have := hr2.ext h1
      have := hg.ext h1
      by_cases ho : ordI ws side i x b < 0
      · have e : bestS (ordI ws side i) (some b) x = some x := if_pos ho
        rw [e]
        (refine jjD ?_; refine jjB ?_; refine jjC ?_; refine jN rfl rfl rfl ?_; refine jp rfl ?_; apply jI; exact eB rfl; refine jT rfl rfl rfl ?_; refine jN rfl rfl rfl ?_; refine jT rfl rfl rfl ?_; refine jO rfl rfl rfl rfl ?_; refine jT rfl rfl rfl ?_; refine jO rfl rfl rfl rfl ?_; refine jT rfl rfl rfl ?_)
        refine jjQ (slip1_slip br2 ws wd side i _ _ x b _ hs hxm.1 hbm.1 hxm.2 hbm.2) rfl rfl ?_
        rintro _ w2 hS2 rfl
        have f5 := h5.ext hS2.ext
        have := Bk.toAt (h := f5)
        have z9 := hS2.size
        (refine jT rfl rfl rfl ?_; refine jjZ rfl rfl (by omega) ?_; apply jL rfl; exact eB rfl; refine jz ?_; refine jjJ rfl ?_; refine jjC ?_; refine jO rfl rfl rfl rfl ?_)
        refine Ops.store rfl rfl rfl rfl rfl ?_
        intro V2 hp2
        have k6 := hp2.bk (h6.ext hS2.ext) (Ne.symm n56)
        have := Bk.toAt (h := k6)
        skip
        refine Ops.store rfl rfl rfl rfl rfl ?_
        intro V3 hp3
        (refine jz ?_)
        have z2 := hp2.size
        have z3 := hp3.size
        have k5 : Bk V3 b5 (cxC ws i (some x)) 173 := hp3.bk ⟨hp2.new⟩ n56
        exact ⟨hS2.ext.tr.trans ((hp2.tr ⟨_, (f5).h, rfl⟩).trans (hp3.tr ⟨_, k6.h, rfl⟩)), (Fr.ext hS2.ext).trans ((hp2.frS (by omega)).trans (hp3.frS (by omega))), hp3.ext (hp2.ext (h1.trans hS2.ext) hw5') hw6', by omega, hp3.at_ (hp2.at_ (h3.ext hS2.ext) n35) n36, hp3.bk (hp2.bk (h4.ext hS2.ext) n45) n46, k5, ⟨hp3.new⟩⟩
      · have e : bestS (ordI ws side i) (some b) x = some b := if_neg ho
        rw [e]
        (refine jjD ?_; refine jjB ?_; refine jjC ?_; refine jN rfl rfl rfl ?_; refine jp rfl ?_; apply jI; exact eB rfl; refine jT rfl rfl rfl ?_; refine jN rfl rfl rfl ?_; refine jT rfl rfl rfl ?_; refine jO rfl rfl rfl rfl ?_; refine jT rfl rfl rfl ?_; refine jO rfl rfl rfl rfl ?_; refine jT rfl rfl rfl ?_)
        refine jjQ (slip1_slip br2 ws wd side i _ _ x b _ hs hxm.1 hbm.1 hxm.2 hbm.2) rfl rfl ?_
        rintro _ w2 hS2 rfl
        (refine jT rfl rfl rfl ?_; refine jja rfl rfl (by omega) ?_; apply jL rfl; exact eB rfl; refine jz ?_; refine jjK rfl ?_; refine jjG ?_)
        have z9 := hS2.size
        exact ⟨hS2.ext.tr, Fr.ext hS2.ext, h1.trans hS2.ext, by omega, h3.ext hS2.ext, h4.ext hS2.ext, h5.ext hS2.ext, h6.ext hS2.ext⟩
  case hdone =>
    rintro ds' V hmk htr ⟨h1, h2, h3, h4, h5, h6⟩
    rw [List.take_length, ← fstF, hbest] at h5
    have := Bk.toAt (h := h5)
    (refine jjB ?_; refine jjC ?_; refine jO rfl rfl rfl rfl ?_)
    refine Ops.store rfl rfl rfl rfl rfl ?_
    intro V2 hp2
    have k4 : Bk V2 b4 (cxC ws i (some (bestA ws side wd i))) 173 := ⟨hp2.new⟩
    (refine jz ?_; refine jjF ?_)
    refine fin1CM rfl rfl rfl k4 rfl rfl (hmk.tr (hp2.tr ⟨_, h4.h, rfl⟩)) fun w' g => ⟨(hp2.ext h1 (by omega)).ofGrow g (Nat.le_refl _), rfl⟩
end Go.Proofs.YtfebegbjggoijaaGreatDoor

/- slip: the slip of a word of a run. -/
namespace Go.Proofs.YtfebegbjggoijaaGreatDoor
open Go.RowKit

theorem joinB_fit {ws : List ByteArray} (hsz : ∀ s ∈ ws, s.size ≤ 1000) (hn : ws.length ≤ 1000000) (a b : Nat) : (joinB ((ws.take b).drop a)).size ≤ 140737488355328 := by
  have h1 := joinB_size ((ws.take b).drop a) (m := 1000) fun s h => hsz s (List.mem_of_mem_take (List.mem_of_mem_drop h))
  have h2 : ((ws.take b).drop a).length ≤ 1000000 := by rw [List.length_drop, List.length_take]; omega
  have := Nat.mul_le_mul_right (1000 + 1) h2
  omega
theorem bestA_in {ws : List ByteArray} {side W : Int} {i : Nat} (hi : i < ws.length) : (bestA ws side W i).1 ≤ i ∧ i ≤ (bestA ws side W i).2 ∧ (bestA ws side W i).2 < ws.length := by
  have := stB_in (side := side) (W := W) (a := i + 1) (m := 0) hi (Nat.le_refl _) (by omega) (.inr rfl)
  rwa [stB_zero, stA_end] at this
set_option maxHeartbeats 4000000 in
theorem slip_slip (ws : List ByteArray) (ps : List Pl) (wd side : Int) (i : Nat) (p : Pl) (wa : Option Addr) (wc : Nat) (aa : Option Addr) (ac : Nat) (w : World) (hp : ps[i]? = some p) (hl : ps.length = ws.length) (hsz : ∀ s ∈ ws, s.size ≤ 1000) (hn : ws.length ≤ 1000000) (hW : 0 ≤ wd ∧ wd ≤ 1000) (hs : 1 ≤ side ∧ side ≤ 3) (hwi : ∀ s ∈ ws, (s.size : Int) ≤ wd)
    (hRw : RowV w false 1 (.slice wa ws.length wc) (ws.map strV)) (hRa : RowV w true 3 (.slice aa ps.length ac) (ps.map encPl)) (hg : At w 2 0 sidesC) :
    Ct Tryz.prog 98 [.agg #[.int .i64 wd, .int .u8 side, .slice wa ws.length wc, .slice aa ps.length ac], .int .i64 (i : Int)] w fun v _ => v = encSl (slipX ws side wd i p) := by
  have hi : i < ws.length := by have := (List.getElem?_eq_some_iff.1 hp).1; omega
  have hip : i < ps.length := by omega
  obtain ⟨bw, ow, rfl, hAw⟩ := hRw.place' (map_get hi)
  rw [Nat.mul_one] at hAw
  obtain ⟨ba, oa, rfl, hAp⟩ := hRa.place' (by rw [List.getElem?_map, hp]; rfl)
  have hcw := hRw.cap.2
  rw [List.length_map] at hcw
  have hlw := hAw.lt
  have hla := hAp.lt
  refine Ct.ofW (by simp) ?_
  (refine jjB ?_; refine jjC ?_)
  (refine jy rfl ?_; intro b2 w_b2 hb_b2 hs_b2 hS_b2 hk_b2; have hA_b2 := At.ofBlock hk_b2)
  ((skip); refine jjY ?_; intro b4 w_b4 hb_b4 hs_b4 hS_b4 hk_b4; have hA_b4 := Bk.of hk_b4)
  (refine jz ?_; refine jjB ?_; refine jjC ?_; refine jO rfl rfl rfl rfl ?_; apply jI; exact eI rfl)
  refine jjQ (contexts_slip ws wd side i _ wc _ ps.length ac _) rfl rfl ?_
  rintro _ w2 hS2 ⟨bi, br, rfl, hAi, hAr⟩
  have hE2 : Ext w w2 := inferInstance
  (refine jv ?_)
  refine jjQ (first_slip bi br b2 ws wd side i _ wc _ ps.length ac _ hi hsz hn hW hs (hwi _ (List.getElem_mem hi)) ⟨hAi, hAr, hRw.ext hE2⟩ inferInstance (hg.ext hE2)) rfl rfl ?_
  rintro _ w3 hS3 rfl
  obtain ⟨hin1, hin2, hin3⟩ := bestA_in (side := side) (W := wd) hi
  rw [slipX]
  generalize bestA ws side wd i = st at *
  skip
  (apply jjR rfl; (intro _; first|exact eI rfl|exact eB rfl|exact eP rfl|exact eS rfl|exact eT rfl|exact eA rfl|exact eU rfl|exact eF rfl|exact eM rfl|exact eN rfl|exact rfl); exact rfl; exact rfl; exact rfl; exact rfl; intro b5 w_b5 hb_b5 hs_b5 hS_b5 hk_b5; have hA_b5 := Bk.of hk_b5)
  (refine jz ?_; refine jjB ?_)
  have hE5 : Ext w w_b5 := inferInstance
  have z5 := hE5.size
  have hc1 := hRw.cut (lo := st.1) (hi := i) hin1 (by rw [List.length_map]; omega)
  have hc2 := hRw.cut (lo := i + 1) (hi := st.2 + 1) (by omega) (by rw [List.length_map]; omega)
  rw [← List.map_take, ← List.map_drop] at hc1 hc2
  have hd : ws.getD i ⟨#[]⟩ = ws[i] := by rw [List.getD_eq_getElem?_getD, List.getElem?_eq_getElem hi, Option.getD_some]
  rw [hd]
  have hb4 : Bk w_b5 b4 [.int .i64 0, .int .i64 0, .int .i64 0, .string ⟨#[]⟩, .string ⟨#[]⟩, .string ⟨#[]⟩] 113 := inferInstance
  have hb2 : At w_b5 b2 0 [.int .i64 wd, .int .u8 side, .slice (some ⟨bw, ow, none⟩) ws.length wc, .slice (some ⟨ba, oa, none⟩) ps.length ac] := inferInstance
  have hb5 : At w_b5 b5 0 [.int .i64 (st.1 : Int), .int .i64 (i : Int), .int .i64 (st.2 : Int), .int .i64 (lenX ws st)] := inferInstance
  have hAw5 := hAw.ext hE5
  have hAp5 := hAp.ext hE5
  have z2 := hS2.size
  have z3 := hS3.size
  have n2 : b2 ≠ b4 := by omega
  have n5 : b5 ≠ b4 := by omega
  have nw : bw ≠ b4 := by omega
  have na : ba ≠ b4 := by omega
  refine W.draw (fun w' => Only b4 w_b5 w') ?_
  intro wC hSC
  have hC : Ext w_b5 wC := hSC.ext
  (refine jjV [0, 1, 2, 3, 4, 5, 6, 7, 8, 9, 10, 11, 12, 13, 14] ?_ ?_ ?_; (decide +kernel); (exact .ofExt hC); (((apply jjT; exact rfl; rintro w' hq; have := hq.at_ hb2 n2; have := hq.at_ hb5 n5; have := hq.at_ hAw5 nw; have := hq.at_ hAp5 na; refine jm ?_; refine jn rfl ?_; refine jz ?_; exact ⟨rfl, rfl⟩; apply jjT; exact rfl; rintro w' hq; have := hq.at_ hb2 n2; have := hq.at_ hb5 n5; have := hq.at_ hAw5 nw; have := hq.at_ hAp5 na; refine jN rfl rfl rfl ?_; refine jz ?_; exact ⟨rfl, rfl⟩; apply jjT; exact rfl; rintro w' hq; have := hq.at_ hb2 n2; have := hq.at_ hb5 n5; have := hq.at_ hAw5 nw; have := hq.at_ hAp5 na; apply jI; exact eI rfl; refine jz ?_; exact ⟨rfl, rfl⟩; apply jjT; exact rfl; rintro w' hq; have := hq.at_ hb2 n2; have := hq.at_ hb5 n5; have := hq.at_ hAw5 nw; have := hq.at_ hAp5 na; refine jH _ rfl rfl rfl (by omega) ?_; refine jz ?_; exact ⟨rfl, rfl⟩; apply jjT; exact rfl; rintro w' hq; have := hq.at_ hb2 n2; have := hq.at_ hb5 n5; have := hq.at_ hAw5 nw; have := hq.at_ hAp5 na; refine jQ rfl rfl ?_; refine jz ?_; exact ⟨rfl, rfl⟩; apply jjT; exact rfl; rintro w' hq; have := hq.at_ hb2 n2; have := hq.at_ hb5 n5; have := hq.at_ hAw5 nw; have := hq.at_ hAp5 na; refine jm ?_; refine jn rfl ?_; refine jz ?_; exact ⟨rfl, rfl⟩; apply jjT; exact rfl; rintro w' hq; have := hq.at_ hb2 n2; have := hq.at_ hb5 n5; have := hq.at_ hAw5 nw; have := hq.at_ hAp5 na; refine jN rfl rfl rfl ?_; refine jz ?_; exact ⟨rfl, rfl⟩; apply jjT; exact rfl; rintro w' hq; have := hq.at_ hb2 n2; have := hq.at_ hb5 n5; have := hq.at_ hAw5 nw; have := hq.at_ hAp5 na; apply jI; exact eI rfl; refine jz ?_; exact ⟨rfl, rfl⟩; apply jjT; exact rfl; rintro w' hq; have := hq.at_ hb2 n2; have := hq.at_ hb5 n5; have := hq.at_ hAw5 nw; have := hq.at_ hAp5 na; refine jG rfl rfl rfl (by omega) ?_; refine jz ?_; exact ⟨rfl, rfl⟩; apply jjT; exact rfl; rintro w' hq; have := hq.at_ hb2 n2; have := hq.at_ hb5 n5; have := hq.at_ hAw5 nw; have := hq.at_ hAp5 na; refine jQ rfl rfl ?_; refine jz ?_; exact ⟨rfl, rfl⟩; apply jjT; exact rfl; rintro w' hq; have := hq.at_ hb2 n2; have := hq.at_ hb5 n5; have := hq.at_ hAw5 nw; have := hq.at_ hAp5 na; refine jm ?_; refine jn rfl ?_; refine jz ?_; exact ⟨rfl, rfl⟩; apply jjT; exact rfl; rintro w' hq; have := hq.at_ hb2 n2; have := hq.at_ hb5 n5; have := hq.at_ hAw5 nw; have := hq.at_ hAp5 na; refine jN rfl rfl rfl ?_; refine jz ?_; exact ⟨rfl, rfl⟩; apply jjT; exact rfl; rintro w' hq; have := hq.at_ hb2 n2; have := hq.at_ hb5 n5; have := hq.at_ hAw5 nw; have := hq.at_ hAp5 na; refine jm ?_; refine jn rfl ?_; refine jz ?_; exact ⟨rfl, rfl⟩; apply jjT; exact rfl; rintro w' hq; have := hq.at_ hb2 n2; have := hq.at_ hb5 n5; have := hq.at_ hAw5 nw; have := hq.at_ hAp5 na; refine jN rfl rfl rfl ?_; refine jz ?_; exact ⟨rfl, rfl⟩; apply jjT; exact rfl; rintro w' hq; have := hq.at_ hb2 n2; have := hq.at_ hb5 n5; have := hq.at_ hAw5 nw; have := hq.at_ hAp5 na; apply jI; exact eI rfl; refine jz ?_; exact ⟨rfl, rfl⟩; refine jjU ?_))))
  refine jjV [15] (by decide +kernel) (.ofExt hC) (jjT (v := cutV (some ⟨bw, ow, none⟩) wc 1 st.1 i) rfl (fun w' q1 => ?_) (jjU ?_)); (refine Ops.sliceLHv (lo := st.1) (hi := i) rfl rfl rfl rfl rfl (by omega) (by omega) ?_; refine jz ?_; exact ⟨rfl, rfl⟩)
  (refine jjV [17, 18, 19, 20, 21, 22, 23] ?_ ?_ ?_; (decide +kernel); (exact .ofExt hC); (((apply jjT; exact rfl; rintro w' hq; have := hq.at_ hb2 n2; have := hq.at_ hb5 n5; refine jm ?_; refine jn rfl ?_; refine jz ?_; exact ⟨rfl, rfl⟩; apply jjT; exact rfl; rintro w' hq; have := hq.at_ hb2 n2; have := hq.at_ hb5 n5; refine jN rfl rfl rfl ?_; refine jz ?_; exact ⟨rfl, rfl⟩; apply jjT; exact rfl; rintro w' hq; have := hq.at_ hb2 n2; have := hq.at_ hb5 n5; apply jI; exact eI rfl; refine jz ?_; exact ⟨rfl, rfl⟩; apply jjT; exact rfl; rintro w' hq; have := hq.at_ hb2 n2; have := hq.at_ hb5 n5; refine jY rfl rfl (by omega) ?_; refine jz ?_; exact ⟨rfl, rfl⟩; apply jjT; exact rfl; rintro w' hq; have := hq.at_ hb2 n2; have := hq.at_ hb5 n5; refine jm ?_; refine jn rfl ?_; refine jz ?_; exact ⟨rfl, rfl⟩; apply jjT; exact rfl; rintro w' hq; have := hq.at_ hb2 n2; have := hq.at_ hb5 n5; refine jN rfl rfl rfl ?_; refine jz ?_; exact ⟨rfl, rfl⟩; apply jjT; exact rfl; rintro w' hq; have := hq.at_ hb2 n2; have := hq.at_ hb5 n5; refine jY rfl rfl (by omega) ?_; refine jz ?_; exact ⟨rfl, rfl⟩; refine jjU ?_))))
  refine jjV [24] (by decide +kernel) (.ofExt hC) (jjT (v := cutV (some ⟨bw, ow, none⟩) wc 1 (i + 1) (st.2 + 1)) rfl (fun w' q1 => ?_) (jjU ?_)); (refine Ops.sliceLHv (lo := i + 1) (hi := st.2 + 1) rfl rfl rfl rfl rfl (by omega) (by omega) ?_; refine jz ?_; exact ⟨rfl, rfl⟩)
  (apply jjW 16; (decide +kernel); exact rfl; (exact .ofExt hC))
  refine jjQ (Join_str _ _ _ ((ws.take i).drop st.1) _ (by rw [List.length_drop, List.length_take]; omega) (hc1.ext (hE5.trans hC)) (joinB_fit hsz hn _ _)) rfl rfl ?_
  rintro _ wD hSD rfl
  refine jz ?_
  have hD : Ext w_b5 wD := hC.trans hSD.ext
  (apply jjW 25; (decide +kernel); exact rfl; (exact .ofExt hD))
  refine jjQ (Join_str _ _ _ ((ws.take (st.2 + 1)).drop (i + 1)) _ (by rw [List.length_drop, List.length_take]; omega) (hc2.ext (hE5.trans hD)) (joinB_fit hsz hn _ _)) rfl rfl ?_
  rintro _ wE hSE rfl
  refine jz ?_
  have hE : Ext w_b5 wE := hD.trans hSE.ext
  (apply jjW 26; (decide +kernel); exact rfl; (exact .ofExt hE))
  (refine jjS (cells := [.int .i64 p.1, .int .i64 p.2.1, .int .i64 p.2.2, .string ws[i], .string (joinB ((ws.take i).drop st.1)), .string (joinB ((ws.take (st.2 + 1)).drop (i + 1)))]) ?_ ?_; exact rfl)
  refine jz ?_
  (apply jjW 27; (decide +kernel); exact rfl; (exact .ofExt hE))
  have h4E := hb4.ext hE
  refine Ops.store rfl rfl rfl rfl rfl ?_
  intro wF hpF
  refine jz ?_
  refine jjX (by decide +kernel) ((Only.ofExt hE).trans (.ofPut hpF)) ?_
  have k4 : At wF b4 0 [.int .i64 p.1, .int .i64 p.2.1, .int .i64 p.2.2, .string ws[i], .string (joinB ((ws.take i).drop st.1)), .string (joinB ((ws.take (st.2 + 1)).drop (i + 1)))] := Bk.toAt (h := ⟨hpF.new⟩)
  (refine jjF ?_)
  refine fin1C rfl rfl rfl rfl rfl ⟨hpF.ext (hE5.trans hE) (by omega), rfl⟩
end Go.Proofs.YtfebegbjggoijaaGreatDoor

/- slip: the slips of a text. -/
namespace Go.Proofs.YtfebegbjggoijaaGreatDoor
open Go.RowKit

/-- A text in the variable bt, a cut in the variable bc, and the table of sides. -/
structure SlF (bt bc : Nat) (a : Option Addr) (c : Nat) (cs : List Ch) (wd side : Int) (w : World) : Prop where
  txt : At w bt 0 [.slice a cs.length c]
  cut : At w bc 0 [.int .i64 wd, .int .u8 side]
  row : RowV w true 2 (.slice a cs.length c) (cs.map encCh)
  tx : TextI w cs
  sd : At w 2 0 sidesC
abbrev encSl1 (s : Slp) : List Value := [encSl s]
theorem cutB_in {wd side : Int} (h : cutB wd side = true) : 12 ≤ wd ∧ wd ≤ 80 ∧ 1 ≤ side ∧ side ≤ 3 := cutB_width h
theorem rnW_fit {cs : List Ch} {wd side : Int} (ht : textB (txF cs) = true) (hc : cutB wd side = true) {k : Nat} (hk : k < cs.length) : ∀ s ∈ rnW cs[k], (s.size : Int) ≤ wd := fun s h => by
  have := word_short ht (k := k) (by rw [txF_len]; exact hk) (s := s) (by rw [wsT_get hk]; exact h)
  have := cutB_in hc
  omega
set_option maxHeartbeats 2000000 in
theorem slips1_slip (bt bc : Nat) (a : Option Addr) (c : Nat) (cs : List Ch) (wd side : Int) (hs : SmallT cs) (ht : textB (txF cs) = true) (hc : cutB wd side = true) :
    Iter Tryz.prog 96 [.pointer (some ⟨bt, 0, none⟩), .pointer (some ⟨bc, 0, none⟩)] (allS (txF cs) side wd) encSl1 (SlF bt bc a c cs wd side) := by
  intro l J Jx M w hJ hJx hF hM1 hM2 hY h0
  have hs1 := hs.1
  have hcb := cutB_in hc
  have hF0 := hF 0 w h0
  have := hF0.txt
  refine Calls.ofW (by simp) ?_
  (refine jjB ?_; refine jjC ?_; refine jm ?_; refine jn rfl ?_; refine jN rfl rfl rfl ?_; refine jh rfl ?_; apply jI; exact eI rfl; refine jz ?_; refine jjD ?_)
  refine W.keep0 [(0, .func (.yield l) #[] #[]), (1, .pointer (some ⟨bt, 0, none⟩)), (2, .pointer (some ⟨bc, 0, none⟩)), (9, .int .i64 (cs.length : Int)), (10, .int .i64 ((0 : Nat) : Int))] ⟨eF rfl, eP rfl, eP rfl, eI rfl, eI rfl, trivial⟩ fun s0 => ?_
  refine W.loopG (11 :: 12 :: 4 :: 13 :: 14 :: 15 :: 16 :: 5 :: 17 :: 18 :: 19 :: 20 :: 21 :: 22 :: 6 :: 23 :: 24 :: 25 :: 26 :: 27 :: 28 :: 29 :: 30 :: 10 :: []) (fun g s' w' => ∃ k : Nat, s' 10 = .int .i64 ((k : Nat) : Int) ∧ k ≤ cs.length ∧ g = cs.length - k ∧ J (slA (txF cs) side wd k).length w') cs.length ⟨0, rfl, by omega, rfl, h0⟩ ?_
  rintro _ sd w' ⟨k, h10, hk, rfl, hJk⟩
  refine W.fix h10 ?_
  clear h10
  have hFk := hF _ _ hJk
  have := hFk.txt
  have := hFk.cut
  by_cases hkc : k < cs.length
  rotate_left
  · obtain rfl : k = cs.length := by omega
    (refine jjB ?_; refine jjC ?_; refine jja rfl rfl (by omega) ?_; refine jz ?_; refine jjB ?_; refine jjK rfl ?_; refine jjE ?_; refine jA rfl ⟨⟨_, rfl⟩, ?_⟩)
    refine .inl ?_
    rw [← slA_end, txF_len]; exact hJk
  have i1 : RowI w' (.slice a cs.length c) true 2 (cs.map encCh) := ⟨hFk.row⟩
  have i2 : TextI w' cs := hFk.tx
  (refine jjB ?_; refine jjC ?_; refine jjZ rfl rfl (by omega) ?_; refine jz ?_; refine jjB ?_; refine jjJ rfl ?_; refine jjG ?_; refine jjB ?_; refine jjD ?_; refine jjB ?_; refine jjC ?_; apply jI; exact eI rfl; apply jJ; exact eI rfl; refine jz ?_; refine jjB ?_; refine jjC ?_; refine jO rfl rfl rfl rfl ?_; refine jO rfl rfl rfl rfl ?_; apply jI; exact eI rfl)
  have hget : ∀ i (_ : i < (rnW cs[k]).length), ∃ p, (runA k (chW cs[k]))[i]? = some p ∧ (allS (txF cs) side wd)[(slA (txF cs) side wd k).length + i]? = some (slipX (rnW cs[k]) side wd i p) := fun i hi => by
    have hi2 : i < (runA k (chW cs[k])).length := by rw [runA_len]; exact hi
    obtain ⟨p, hp0⟩ : ∃ p, (runA k (chW cs[k]))[i]? = some p := ⟨_, List.getElem?_eq_getElem hi2⟩
    have hp := hp0
    rw [← wsT_get hkc] at hp
    have h1 := slA_get (side := side) (W := wd) (n := (txF cs).length) (by rw [txF_len]; exact hkc) hp
    rw [slA_end, slP_eq (by rw [txF_len]; exact hkc) hp, wsT_get hkc] at h1
    exact ⟨p, hp0, h1⟩
  have hnext : (slA (txF cs) side wd k).length + (rnW cs[k]).length = (slA (txF cs) side wd (k + 1)).length := by
    rw [slA_succ, List.length_append, slsN_len (Nat.le_refl _), wsT_get hkc]
  obtain ⟨hn, hsz⟩ := rnW_small hs hkc
  have hwi := rnW_fit ht hc hkc
  have hlen : (runA k (chW cs[k])).length = (rnW cs[k]).length := runA_len _ _
  refine jjQ (runs_slip a c cs _ hs wd side k hkc) rfl rfl ?_
  rintro _ w2 hS2 ⟨wv, av, rfl, hOw, hOa⟩
  generalize rnW cs[k] = ws at *
  generalize runA k (chW cs[k]) = ps at *
  generalize (slA (txF cs) side wd k).length = L at *
  obtain ⟨wa, wc, rfl⟩ := hOw.slice
  obtain ⟨aa, ac, rfl⟩ := hOa.slice
  rw [List.length_map] at hOw hOa ⊢
  rw [List.length_map]
  skip
  (apply jjR rfl; (intro _; first|exact eI rfl|exact eB rfl|exact eP rfl|exact eS rfl|exact eT rfl|exact eA rfl|exact eU rfl|exact eF rfl|exact eM rfl|exact eN rfl|exact rfl); exact rfl; exact rfl; exact rfl; exact rfl; intro b5 w_b5 hb_b5 hs_b5 hS_b5 hk_b5; have hA_b5 := Bk.of hk_b5)
  (refine jz ?_; refine jjB ?_; refine jjC ?_; refine jm ?_; refine jn rfl ?_; refine jN rfl rfl rfl ?_; refine jh rfl ?_; apply jI; exact eI rfl; refine jz ?_; refine jjD ?_)
  have hE5 : Ext w' w_b5 := hS2.ext.trans hS_b5.ext
  have hJ5 := hJ _ _ _ hJk hE5
  have hMx : ∀ g, w'.heap.size ≤ g → ¬ M w_b5 g := fun g hg hm => by
    have := hM1 _ _ _ hJk (hM2 _ _ _ _ hJk hE5 hm)
    omega
  have z2 := hS2.size
  have hOw0 := hOw
  have hOa0 := hOa
  refine W.keep [(0, .func (.yield l) #[] #[]), (1, .pointer (some ⟨bt, 0, none⟩)), (2, .pointer (some ⟨bc, 0, none⟩)), (9, .int .i64 (cs.length : Int)), (10, .int .i64 ((k : Nat) : Int)), (5, .pointer (some ⟨b5, 0, none⟩)), (19, .int .i64 (ws.length : Int)), (20, .int .i64 ((0 : Nat) : Int))] (D := (11 :: 12 :: 4 :: 13 :: 14 :: 15 :: 16 :: 5 :: 17 :: 18 :: 19 :: 20 :: 21 :: 22 :: 6 :: 23 :: 24 :: 25 :: 26 :: 27 :: 28 :: 29 :: 30 :: 10 :: [])) (sO := upds s0 _) (by ((refine Same.upd rfl ?_; refine Same.upd rfl ?_; refine Same.upd rfl ?_; refine Same.upd rfl ?_; refine Same.upd rfl ?_; refine Same.upd rfl ?_; refine Same.upd rfl ?_; refine Same.upd rfl ?_; refine Same.upd rfl ?_; refine Same.upd rfl ?_; refine Same.upd rfl ?_; refine Same.upd rfl ?_; refine Same.upd rfl ?_; exact Same.ovN))) ⟨eF rfl, eP rfl, eP rfl, eI rfl, eI rfl, eP rfl, eI rfl, eI rfl, trivial⟩ fun s1 hs1' => ?_
  refine W.loopG (21 :: 22 :: 6 :: 23 :: 24 :: 25 :: 26 :: 27 :: 28 :: 29 :: 20 :: []) (fun g s' V => ∃ i : Nat, s' 20 = .int .i64 ((i : Nat) : Int) ∧ i ≤ ws.length ∧ g = ws.length - i ∧ J (L + i) V ∧ Bk V b5 [.int .i64 wd, .int .u8 side, .slice wa ws.length wc, .slice aa ps.length ac] 161 ∧ (∀ g, w'.heap.size ≤ g → g < w_b5.heap.size → ¬ M V g) ∧ w_b5.heap.size ≤ V.heap.size ∧ OwnL V w'.heap.size 9 false 1 (.slice wa ws.length wc) (ws.map strV) ∧ OwnL V w'.heap.size 111 true 3 (.slice aa ps.length ac) (ps.map encPl)) ws.length ⟨0, rfl, by omega, rfl, hJ5, inferInstance, fun g hg _ => hMx g hg, Nat.le_refl _, hOw.ext hS_b5.ext, hOa.ext hS_b5.ext⟩ ?_
  rintro _ sd2 V ⟨i, h20, hi, rfl, hJi, hB5, hMV, hzV, hOw, hOa⟩
  refine W.fix h20 ?_
  clear h20
  by_cases hil : i < ws.length
  rotate_left
  · obtain rfl : i = ws.length := by omega
    (refine jjB ?_; refine jjC ?_; refine jja rfl rfl (by omega) ?_; refine jz ?_; refine jjB ?_; refine jjK rfl ?_; refine jjE ?_; refine jjC ?_; refine jY rfl rfl (by omega) ?_; apply jI; exact eI rfl; refine jz ?_)
    exact ⟨rfl, by ((refine Same.upd rfl ?_; refine Same.upd rfl ?_; refine Same.upd rfl ?_; refine Same.upd rfl ?_; refine Same.ovN' rfl ?_; assumption)), cs.length - (k + 1), by omega, k + 1, congrArg (Value.int .i64) (by omega), by omega, rfl, hnext ▸ hJi⟩
  obtain ⟨p, hp, hall⟩ := hget i hil
  have := Bk.toAt (h := hB5)
  have hRw := hOw.row
  have hRa := hOa.row
  have hgs := (hF _ _ hJi).sd
  (refine jjB ?_; refine jjC ?_; refine jjZ rfl rfl (by omega) ?_; refine jz ?_; refine jjB ?_; refine jjJ rfl ?_; refine jjG ?_; refine jjB ?_; refine jjD ?_; refine jjB ?_; refine jjC ?_; apply jI; exact eI rfl; apply jJ; exact eI rfl; refine jz ?_; refine jjB ?_; refine jjC ?_; apply jI; exact eF rfl; refine jO rfl rfl rfl rfl ?_; apply jI; exact eI rfl)
  refine jjQ (slip_slip ws ps wd side i p wa wc aa ac _ hp hlen hsz hn (by omega) (by omega) hwi hRw hRa hgs) rfl rfl ?_
  rintro _ V2 hSV rfl
  have hJ2 := hJ _ _ _ hJi hSV.ext
  have hB52 := hB5.ext hSV.ext
  have hM2' : ∀ g, w'.heap.size ≤ g → g < w_b5.heap.size → ¬ M V2 g := fun g h1 h2 hm => hMV g h1 h2 (hM2 _ _ _ _ hJi hSV.ext hm)
  have hOw2 := hOw.ext hSV.ext
  have hOa2 := hOa.ext hSV.ext
  have zV2 := hSV.size
  skip
  refine Ops.yield (hY _ _ _ hall hJ2) rfl rfl ?_
  rintro e V3 (⟨rfl, hJ3, hFr⟩ | ⟨rfl, hJx3⟩)
  · refine ⟨_, rfl, ?_⟩
    (refine jp rfl ?_; refine jz ?_; refine jjK rfl ?_; refine jjG ?_; refine jjC ?_; refine jY rfl rfl (by omega) ?_; apply jI; exact eI rfl; refine jz ?_)
    have zF := hFr.size
    exact ⟨rfl, by ((refine Same.upd rfl ?_; refine Same.upd rfl ?_; refine Same.upd rfl ?_; refine Same.upd rfl ?_; refine Same.upd rfl ?_; refine Same.upd rfl ?_; refine Same.upd rfl ?_; refine Same.upd rfl ?_; refine Same.upd rfl ?_; refine Same.upd rfl ?_; refine Same.upd rfl ?_; refine Same.upd rfl ?_; exact Same.ovN)), ws.length - (i + 1), by omega, i + 1, congrArg (Value.int .i64) (by omega), by omega, rfl, hJ3, ⟨hFr.keep _ _ hB52.h rfl (hM2' b5 (by omega) (by omega))⟩, fun g h1 h2 hm => (hFr.own g hm).elim (hM2' g h1 h2) (fun h => by omega), by omega, hOw2.fr hFr (fun g hg => hM2' g (hOw0.block g hg).1 (by have := (hOw0.block g hg).2; omega)), hOa2.fr hFr (fun g hg => hM2' g (hOa0.block g hg).1 (by have := (hOa0.block g hg).2; omega))⟩
  · refine ⟨_, rfl, ?_⟩
    (refine jq rfl ?_; refine jz ?_; refine jjJ rfl ?_; refine jjF ?_; refine jA rfl ⟨⟨_, rfl⟩, ?_⟩)
    exact .inr ⟨_, (List.getElem?_eq_some_iff.1 hall).1, hJx3⟩
theorem slips_slip (a : Option Addr) (c : Nat) (cs : List Ch) (wd side : Int) (w : World) : Ct Tryz.prog 75 [.agg #[.slice a cs.length c], encCut wd side] w fun v w' => ∃ bt bc, v = .func (.func 96) #[] ([.pointer (some ⟨bt, 0, none⟩), .pointer (some ⟨bc, 0, none⟩)] : List Value).toArray ∧ (w.heap.size ≤ bt ∧ w.heap.size ≤ bc) ∧ At w' bt 0 [.slice a cs.length c] ∧ At w' bc 0 [.int .i64 wd, .int .u8 side] := by
  refine Ct.ofW (by simp) ?_
  (refine jjB ?_; refine jjC ?_)
  (refine jy rfl ?_; intro bt w_bt hb_bt hs_bt hS_bt hk_bt; have hA_bt := At.ofBlock hk_bt)
  skip
  (refine jy rfl ?_; intro bc w_bc hb_bc hs_bc hS_bc hk_bc; have hA_bc := At.ofBlock hk_bc)
  (apply jJ; exact rfl; refine jz ?_; refine jjB ?_; refine jjC ?_; refine jv ?_; apply jJ; exact eF rfl; refine jz ?_; refine jjF ?_; refine jB rfl rfl ⟨inferInstance, ?_⟩)
  exact ⟨bt, bc, rfl, ⟨by omega, by omega⟩, inferInstance, inferInstance⟩
end Go.Proofs.YtfebegbjggoijaaGreatDoor

/- slip: Index of a place, made, Make. -/
namespace Go.Proofs.YtfebegbjggoijaaGreatDoor
open Go.RowKit

section
variable (a : Option Addr) (c : Nat) (cs : List Ch) (wd side : Int) (w : World) [hrow : RowI w (.slice a cs.length c) true 2 (cs.map encCh)] [hT : TextI w cs] [hgs : At w 2 0 sidesC]
end
end Go.Proofs.YtfebegbjggoijaaGreatDoor

/- slices.AppendSeq, slices.Collect (of slips). -/
namespace Go.Proofs.YtfebegbjggoijaaGreatDoor
open Go.RowKit

theorem App.fr {M : World → Nat → Prop} {B : Nat} {w w' : World} {v : Value} (a : App B w w' v) (hM : ∀ k, v.ownBlock = some k → M w k) (ho : ∀ k, M w' k → M w k ∨ w.heap.size ≤ k) : Fr M w w' :=
  ⟨a.g.size, fun k _ hk _ hm => a.other hk (fun e => hm (hM k e)), ho⟩
theorem one_sl (x : Slp) : [encSl x].all (fun v => v.cells.toList.all (·.oneCell')) = true := rfl
theorem AppendSeq_sl (xs : List Slp) (gf : Nat) (lb : List Value) (Fct : World → Prop) (w : World) (hit : Iter Tryz.prog gf lb xs (fun s => [encSl s]) Fct) [he : Enters Tryz.prog gf] (hF : ∀ w', Ext w w' → Fct w') (hlen : xs.length ≤ 1000000) :
    Ct Tryz.prog 95 [.slice none 0 0, .func (.func gf) #[] lb.toArray] w fun v w' => OwnL w' w.heap.size 113 true 6 v (xs.map encSl) := by
  refine Ct.ofWM (by simp) ?_
  (refine jjB ?_; refine jjC ?_)
  (refine jy rfl ?_; intro b2 w_b2 hb_b2 hs_b2 hS_b2 hk_b2; have hA_b2 := At.ofBlock hk_b2)
  have hBk := Bk.of (cs := [.slice none 0 0]) hk_b2
  (apply jJ; exact eS rfl; refine jz ?_; refine jjB ?_; refine jjB ?_; refine jjC ?_; apply jI; exact eF rfl; refine jz ?_; refine jjD ?_)
  have hsz := hS_b2.size
  refine W.rangeM w.heap.size xs (fun s => [encSl s]) hit rfl (fun _ => rfl) trivial inferInstance hsz
    (fun i V => Ext w V ∧ w_b2.heap.size ≤ V.heap.size ∧ ∃ v, Bk V b2 [v] 75 ∧ OwnL V w_b2.heap.size 113 true 6 v ((xs.take i).map encSl))
    (fun _ _ _ => False) ?hJ (fun _ _ _ _ h _ => h) (fun i V h => hF V h.1) ⟨inferInstance, Nat.le_refl _, _, hBk, OwnL.nil _ _ _ _ _⟩
    (MB w_b2.heap.size b2) ?hW1 ?hW2 ?hW3 (fun x s' V => ∃ b5, s' 2 = .pointer (some ⟨b2, 0, none⟩) ∧ s' 5 = .pointer (some ⟨b5, 0, none⟩) ∧ Bk V b5 (encSl x).cells.toList 113) (fun x s V V' ⟨b5, h1, h2, h3⟩ g => ⟨b5, h1, h2, h3.grow g⟩) ?hassign ?hbody ?hdone (fun _ _ _ _ _ _ _ h => h.elim)
  case hJ =>
    rintro i V V' ⟨h1, h2, v, h3, h4⟩ g
    exact ⟨h1.ofGrow g hsz, Nat.le_trans h2 g.size, v, h3.grow g, h4.grow g⟩
  case hW1 => exact fun i V k ⟨h1, h2, v, h3, h4⟩ h => MB.lt h2 h3 h4 h
  case hW2 => exact fun i V V' k ⟨h1, h2, v, h3, h4⟩ g h => MB.back h3 g h
  case hW3 => exact fun V V' k g h => .inl (MB.grow (by omega) g h)
  case hassign =>
    rintro l i x V hx ⟨h1, h2, v, h3, h4⟩ hl hr
    (refine jjC ?_)
    (apply jjR rfl; (intro _; first|exact eI rfl|exact eB rfl|exact eP rfl|exact eS rfl|exact eT rfl|exact eA rfl|exact eU rfl|exact eF rfl|exact eM rfl|exact eN rfl|exact rfl); exact rfl; exact rfl; exact rfl; exact rfl; intro b5 w_b5 hb_b5 hs_b5 hS_b5 hk_b5; have hA_b5 := Bk.of hk_b5)
    (refine jz ?_)
    exact ⟨rfl, hS_b5.ext.tr, Fr.ofExt hS_b5.ext fun k hk => .inl (MB.same h3 (h3.ext hS_b5.ext) hk), ⟨h1.trans hS_b5.ext, by have := hS_b5.size; omega, v, h3.ext hS_b5.ext, h4.ext hS_b5.ext⟩, b5, rfl, rfl, inferInstance⟩
  case hbody =>
    rintro l i x s' V hx ⟨h1, h2, v, h3, h4⟩ ⟨b5, ha2, ha5, hb5⟩ hl hr
    have hlt := (List.getElem?_eq_some_iff.1 hx).1
    refine W.fix (d := 2) ha2 (W.fix (d := 5) ha5 ?_)
    have hb5' : Bk V b5 [.int .i64 x.1.1, .int .i64 x.1.2.1, .int .i64 x.1.2.2, .string x.2.1, .string x.2.2.1, .string x.2.2.2] 113 := hb5
    (refine jjD ?_; refine jjC ?_; refine jN rfl rfl rfl ?_; refine jO rfl rfl rfl rfl ?_)
    (refine jjP (v := .agg _) rfl (by exact rfl) (by exact rfl) (by exact rfl) (by exact rfl) ?_; intro b10 w_b10 hb_b10 hs_b10 hS_b10 hk_b10; have hR_b10 := RowV.one (agg := true) (k := 6) rfl hk_b10)
    have hown := h4.ext hS_b10.ext
    have hz10 := hS_b10.size
    have hR1 : RowV w_b10 true 6 (.slice (some ⟨b10, 0, none⟩) 1 1) [encSl x] := hR_b10
    refine Ops.appendL hown (by omega) hR1 rfl rfl rfl rfl (one_sl x) ?_ ?_ ?_
    · simp; omega
    · simp; omega
    intro v2 V2 hA hO _ hown2
    obtain ⟨a2, c2, rfl⟩ := hO.slice
    have hb2 : ∀ g, v.ownBlock = some g → w_b2.heap.size ≤ g := fun g hg => (h4.block g hg).1
    have hne : v.ownBlock ≠ some b2 := fun e => by have := hb2 b2 e; omega
    have hB2 : Bk V2 b2 [v] 75 := hA.bk (h3.ext hS_b10.ext) hne
    skip
    refine Ops.store rfl rfl rfl rfl rfl ?_
    intro V3 hp3
    (refine jz ?_)
    have hB3 : Bk V3 b2 [.slice a2 (List.map encSl (xs.take i) ++ [encSl x]).length c2] 75 := ⟨hp3.new⟩
    have hne2 : (Value.slice a2 (List.map encSl (xs.take i) ++ [encSl x]).length c2).ownBlock ≠ some b2 := fun e => by rcases hown2 with h | h <;> rw [h] at e; exact hne e; cases e; omega
    refine ⟨(hS_b10.ext.tr.trans hA.tr).trans (hp3.tr ⟨_, hB2.h, rfl⟩), ?_, hp3.ext (hA.ext (h1.trans hS_b10.ext) hsz) (by omega), ?_, _, hB3, ?_⟩
    · exact (Fr.ofExt hS_b10.ext fun k hk => .inl (MB.same h3 (h3.ext hS_b10.ext) hk)).trans (MB.append (by omega) (h3.ext hS_b10.ext) hA hp3 hB3 hown2)
    · have := hA.g.size; rw [hp3.size]; omega
    · rw [take_snoc_get hx, List.map_append]
      exact hO.put hp3 hne2
  case hdone =>
    rintro ds' V hmk htr ⟨h1, h2, v, h3, h4⟩
    have := h3
    (refine jjB ?_; refine jjC ?_; refine jN rfl rfl rfl ?_; apply jJ; exact rfl; refine jz ?_; refine jjF ?_)
    refine fin1M rfl rfl hmk fun w' g => ⟨h1.ofGrow g (Nat.le_refl _), ?_⟩
    rw [List.take_length] at h4
    exact (h4.grow g).mono hsz
theorem Collect_sl (xs : List Slp) (gf : Nat) (lb : List Value) (Fct : World → Prop) (w : World) (hit : Iter Tryz.prog gf lb xs (fun s => [encSl s]) Fct) [he : Enters Tryz.prog gf] (hF : ∀ w', Ext w w' → Fct w') (hlen : xs.length ≤ 1000000) :
    Ct Tryz.prog 74 [.func (.func gf) #[] lb.toArray] w fun v w' => OwnL w' w.heap.size 113 true 6 v (xs.map encSl) := by
  refine Ct.ofW (by simp) ?_
  (((refine jjB ?_; refine jjC ?_; apply jJ; exact eS rfl; refine jz ?_; refine jjB ?_; refine jjC ?_; apply jI; exact eF rfl)); refine jjQ (AppendSeq_sl xs gf lb Fct w hit hF hlen) rfl rfl ?_)
  rintro v w2 hS2 hO
  (apply jJ; exact rfl; refine jz ?_; refine jjF ?_; refine jB rfl rfl ⟨inferInstance, ?_⟩)
  exact hO
end Go.Proofs.YtfebegbjggoijaaGreatDoor

/- slip: Make, All, Part. -/
namespace Go.Proofs.YtfebegbjggoijaaGreatDoor
open Go.RowKit

section
variable (a : Option Addr) (c : Nat) (cs : List Ch) (wd side : Int) (w : World) [hrow : RowI w (.slice a cs.length c) true 2 (cs.map encCh)] [hT : TextI w cs] [hgs : At w 2 0 sidesC]
theorem All_slip (hs : SmallT cs) (hd : 0 ≤ side ∧ side ≤ 255) : Ct Tryz.prog 41 [.agg #[.slice a cs.length c], encCut wd side] w fun v w' => ∃ sv, v = .tuple #[sv, .int .i64 (askE (txF cs) wd side)] ∧ OwnL w' w.heap.size 113 true 6 sv ((allR (txF cs) wd side).map encSl) := by
  refine Ct.ofW (by simp) ?_
  (refine jjB ?_; refine jjC ?_)
  (refine jy rfl ?_; intro b2 w_b2 hb_b2 hs_b2 hS_b2 hk_b2; have hA_b2 := At.ofBlock hk_b2)
  skip
  (refine jy rfl ?_; intro b3 w_b3 hb_b3 hs_b3 hS_b3 hk_b3; have hA_b3 := At.ofBlock hk_b3)
  (apply jJ; exact eS rfl; apply jJ; exact eI rfl; refine jz ?_; refine jjB ?_; refine jjB ?_; refine jjC ?_; refine jO rfl rfl rfl rfl ?_; refine jO rfl rfl rfl rfl ?_)
  obtain ⟨e, he⟩ : ∃ e, askE (txF cs) wd side = e := ⟨_, rfl⟩
  have h3 := askE_in (txF cs) wd side
  rw [he] at h3
  refine jjQ ((open_slip a c cs wd side _ hs hd).mono fun v _ _ h => h.trans (by rw [he])) rfl rfl ?_
  rintro _ w8 hS8 rfl
  by_cases h0 : e = 0
  rotate_left
  · (apply jJ; exact eI rfl; refine jz ?_; refine jjB ?_; refine jjC ?_; apply jI; exact eI rfl; refine jjj rfl rfl (by omega) ?_; refine jz ?_; refine jjJ rfl ?_; refine jjB ?_; refine jjC ?_; apply jI; exact eI rfl; apply jJ; exact eS rfl; apply jJ; exact eI rfl; refine jz ?_; refine jjF ?_; refine jC rfl rfl rfl ⟨inferInstance, ?_⟩)
    rw [he, allR, if_neg (by rw [he]; exact h0)]
    exact ⟨_, rfl, OwnL.nil _ _ _ _ _⟩
  subst h0
  obtain ⟨ht, hc⟩ := askE_zero he
  (apply jJ; exact eI rfl; refine jz ?_; refine jjB ?_; refine jjC ?_; apply jI; exact eI rfl; refine jjk rfl rfl (by omega) ?_; refine jz ?_; refine jjK rfl ?_; refine jjG ?_; refine jjB ?_; refine jjC ?_; refine jO rfl rfl rfl rfl ?_; refine jO rfl rfl rfl rfl ?_)
  refine jjQ (slips_slip a c cs wd side _) rfl rfl ?_
  rintro _ w9 hS9 ⟨bt, bc, rfl, _, hA1, hA2⟩
  have hE9 : Ext w w9 := inferInstance
  skip
  refine jjQ (Collect_sl (allS (txF cs) side wd) _ _ _ _ (slips1_slip bt bc a c cs wd side hs ht hc) (fun w' h => ⟨hA1.ext h, hA2.ext h, hrow.h.ext (hE9.trans h), hT.ext (hE9.trans h), hgs.ext (hE9.trans h)⟩) (by have := allS_len (side := side) (wd := wd) ht; omega)) rfl rfl ?_
  rintro sv wA hSA hO
  (apply jJ; exact rfl; apply jJ; exact eI rfl; refine jz ?_; refine jjF ?_; refine jC rfl rfl rfl ⟨inferInstance, ?_⟩)
  rw [he, allR, if_pos he]
  exact ⟨sv, rfl, hO.mono hE9.size⟩
end
end Go.Proofs.YtfebegbjggoijaaGreatDoor

/- slip: Part. -/
namespace Go.Proofs.YtfebegbjggoijaaGreatDoor
open Go.RowKit

section
variable (a : Option Addr) (c : Nat) (cs : List Ch) (wd side : Int) (w : World) [hrow : RowI w (.slice a cs.length c) true 2 (cs.map encCh)] [hT : TextI w cs] [hgs : At w 2 0 sidesC]
end
end Go.Proofs.YtfebegbjggoijaaGreatDoor

/- slip: Where. -/
namespace Go.Proofs.YtfebegbjggoijaaGreatDoor
open Go.RowKit

section
variable (a : Option Addr) (c : Nat) (cs : List Ch) (w : World) [hrow : RowI w (.slice a cs.length c) true 2 (cs.map encCh)] [hT : TextI w cs]
end
end Go.Proofs.YtfebegbjggoijaaGreatDoor

/- Plain law: where slips may be from. -/
namespace Go.Proofs.YtfebegbjggoijaaGreatDoor
open Go.RowKit

/-- All places of a word. -/
def allW (t : Tx) (n : Nat) : List (Pl × ByteArray) := (List.range n).flatMap fun k => (runA k (wsT t k)).zip (wsT t k).flatten
def placesF (t : Tx) (w : ByteArray) : List Pl := ((allW t t.length).filter fun x => decide (x.2 = w)).map (·.1)
end Go.Proofs.YtfebegbjggoijaaGreatDoor

/- Plain law: all places of a text with their words, in order. -/
namespace Go.Proofs.YtfebegbjggoijaaGreatDoor
open Go.RowKit

theorem flat_get3 {α : Type} {f : Nat → List α} {q m r : Nat} {x : α} (hq : q < m) (h : (f q)[r]? = some x) : ((List.range m).flatMap f)[((List.range q).flatMap f).length + r]? = some x := by
  obtain ⟨s, hs⟩ := range_split hq
  rw [hs, List.flatMap_append, List.flatMap_cons, List.getElem?_append_right (by omega), Nat.add_sub_cancel_left, List.getElem?_append_left (List.getElem?_eq_some_iff.1 h).1, h]
theorem flat_at {α : Type} {x : List (List α)} {n w : Nat} (hn : n < x.length) (hw : w < x[n].length) : x.flatten[(x.take n).flatten.length + w]? = some x[n][w] := by
  have e : x = x.take n ++ (x[n] :: x.drop (n + 1)) := by rw [← List.drop_eq_getElem_cons hn, List.take_append_drop]
  conv => lhs; rw [e]
  rw [List.flatten_append, List.flatten_cons]
  have hl : ((x.take n ++ (x[n] :: x.drop (n + 1))).take n).flatten.length = (x.take n).flatten.length := by rw [← e]
  rw [hl, List.getElem?_append_right (by omega), Nat.add_sub_cancel_left, List.getElem?_append_left hw, List.getElem?_eq_getElem hw]
theorem lnPs_len (k : Nat) (x : List (List ByteArray)) : ∀ n, n ≤ x.length → ((List.range n).flatMap fun i => lnP k i (x.getD i []).length).length = (x.take n).flatten.length
  | 0, _ => by simp
  | n + 1, h => by
    have hg : x.getD n [] = x[n] := by rw [List.getD_eq_getElem?_getD, List.getElem?_eq_getElem (by omega), Option.getD_some]
    rw [List.range_succ, List.flatMap_append, List.length_append, lnPs_len k x n (by omega), take_snoc_get (List.getElem?_eq_getElem (show n < x.length by omega)), List.flatten_append, List.length_append]
    simp [lnP, List.getElem?_eq_getElem (show n < x.length by omega)]
theorem runA_at {k : Nat} {x : List (List ByteArray)} {n w : Nat} (hn : n < x.length) (hw : w < x[n].length) : (runA k x)[(x.take n).flatten.length + w]? = some ((k : Int), (n : Int), (w : Int)) := by
  have hg : x.getD n [] = x[n] := by rw [List.getD_eq_getElem?_getD, List.getElem?_eq_getElem hn, Option.getD_some]
  rw [← lnPs_len k x n (by omega), runA, runAn]
  refine flat_get3 hn ?_
  rw [hg, lnP, List.getElem?_map, List.getElem?_range hw]; rfl
theorem allW_len (t : Tx) (n : Nat) : (allW t n).length = (allP t n).length := by
  induction n with
  | zero => rfl
  | succ n ih =>
    rw [allP_succ, List.length_append, ← ih, allW, allW, List.range_succ, List.flatMap_append, List.length_append]
    simp [List.length_zip, runA_len]
theorem allW_fst (t : Tx) (n : Nat) : (allW t n).map (·.1) = allP t n := by
  rw [allW, allP, List.map_flatMap]
  congr 1
  funext k
  rw [List.map_fst_zip]
  rw [runA_len]; exact Nat.le_refl _
theorem allW_at {t : Tx} {k n w : Nat} (hk : k < t.length) (hn : n < (wsT t k).length) (hw : w < (wsT t k)[n].length) : (allW t t.length)[(allW t k).length + (((wsT t k).take n).flatten.length + w)]? = some (((k : Int), (n : Int), (w : Int)), (wsT t k)[n][w]) := by
  rw [allW]
  refine flat_get3 (f := fun k => (runA k (wsT t k)).zip (wsT t k).flatten) hk ?_
  rw [List.getElem?_zip_eq_some]
  exact ⟨runA_at hn hw, flat_at hn hw⟩
theorem allW_succ (t : Tx) (k : Nat) : (allW t (k + 1)).length = (allW t k).length + (wsT t k).flatten.length := by
  rw [allW_len, allW_len, allP_succ, List.length_append, runA_len]
theorem flat_len_succ {α : Type} {x : List (List α)} {n : Nat} (hn : n < x.length) : (x.take (n + 1)).flatten.length = (x.take n).flatten.length + x[n].length := by
  rw [take_snoc_get (List.getElem?_eq_getElem hn), List.flatten_append, List.length_append]; simp
/-- The words of places. -/
theorem allW_word {t : Tx} {i : Nat} {p : Pl} {s : ByteArray} (h : (allW t t.length)[i]? = some (p, s)) : ∃ k n w : Nat, ∃ (hk : k < t.length) (hn : n < t[k].2.length) (hw : w < t[k].2[n].length), p = ((k : Int), (n : Int), (w : Int)) ∧ s = t[k].2[n][w] := by
  have hm := List.mem_of_getElem? h
  obtain ⟨k, hk, hz⟩ := List.mem_flatMap.1 hm
  rw [List.mem_range] at hk
  have hws : wsT t k = t[k].2 := by rw [wsT, List.getD_eq_getElem?_getD, List.getElem?_eq_getElem hk, Option.getD_some]
  obtain ⟨j, hj, e⟩ := List.mem_iff_getElem.1 hz
  have e' : ((runA k (wsT t k)).zip (wsT t k).flatten)[j]? = some (p, s) := by rw [List.getElem?_eq_getElem hj, e]
  rw [List.getElem?_zip_eq_some] at e'
  obtain ⟨n, w, hn, hw, hp⟩ := mem_runA.1 (List.mem_of_getElem? e'.1)
  have h1 := runA_at (k := k) hn hw
  subst hp
  have hji : j = ((wsT t k).take n).flatten.length + w := nodup_inj (runA_nodup k (wsT t k)) e'.1 h1
  have h2 := flat_at hn hw
  rw [← hji, e'.2] at h2
  simp only [hws] at hn hw h2
  exact ⟨k, n, w, hk, hn, hw, rfl, by simpa using h2⟩
end Go.Proofs.YtfebegbjggoijaaGreatDoor

/- slices.DeleteFunc of texts that are empty. -/
namespace Go.Proofs.YtfebegbjggoijaaGreatDoor
open Go.RowKit

end Go.Proofs.YtfebegbjggoijaaGreatDoor

/- The proof engine, part 26: entries of maps, what is read of them. -/
namespace Go.Proofs.YtfebegbjggoijaaGreatDoor
open Go.RowKit

theorem MapN.app {κ : Type} [DecidableEq κ] {encK : κ → Value} {w w' : World} {b B st : Nat} {m : List (κ × Value)} {k : κ} {v : Value} (h : MapN encK w b m k st) (a : App B w w' v) (hne : v.ownBlock ≠ some b) : MapN encK w' b m k st := by
  obtain ⟨es, cl, i, h1, h2⟩ := h.h
  exact ⟨es, cl, i, a.other h1 hne, h2⟩
section rules
variable {P : Program} {ro : Option Nat} {n : Nat} {all rest : List Oper} {K : Sl → World → Prop} {s : Sl} {w : World} {d : Nat} {ty : Nat} {pos : String} {af : Array Edge}
variable {x y : Operand} {t : Nat}
theorem Ops.lookupV {κ : Type} [DecidableEq κ] {encK : κ → Value} {b kt et : Nat} {m : List (κ × Value)} {k : κ} {z v : Value} {size bytes : Nat} (hv : (mget m k).getD z = v) (hm : MapE encK w b m) (hx : ev n s x = .map (some b)) (hy : ev n s y = encK k) [hk : KeyL P kt encK] [ht : TMap P t kt et] [hz : TS P et z size bytes]
    (h : Ops P ro n all rest K (upd s d v) w) : Ops P ro n all (⟨some d, .lookup t x y false, ty, pos, af, none⟩ :: rest) K s w := by
  subst hv
  exact Ops.lookup hm hx hy h
end rules
end Go.Proofs.YtfebegbjggoijaaGreatDoor

/- Places and slips as keys of maps. -/
namespace Go.Proofs.YtfebegbjggoijaaGreatDoor
open Go.RowKit

section
variable {P : Program} {κ : Type} [DecidableEq κ] {enc : κ → Value} {kt : Nat}
theorem findAsking_of [he : EqT P kt enc] (w : World) (k : κ) : ∀ (es : List MapEntry) (ks : List κ) (i : Nat), es.map (·.key) = ks.map enc →
    (Instr.findAsking kt (enc k) es i).run P w = .ok ((ks.findIdx? (fun x => decide (k = x))).map fun j => (i + j, ((es[j]?).map (·.val)).getD undef)) w
  | [], [], i, _ => rfl
  | [], _ :: _, i, h => by simp at h
  | _ :: _, [], i, h => by simp at h
  | e :: es, x :: ks, i, h => by
    simp only [List.map_cons, List.cons.injEq] at h
    have ih := findAsking_of w k es ks (i + 1) h.2
    have hq := he.eq w k x
    simp only [Instr.findAsking, Sem.run_bind, h.1, hq, Result.andThen]
    by_cases hk : k = x
    · simp [hk, List.findIdx?_cons]
    · simp only [hk, decide_false, ih, List.findIdx?_cons, Bool.false_eq_true, if_false, Option.map_map]
      congr 2
      funext j
      simp; omega
theorem keyL_struct {fs : Array Field} (hu : P.underlying kt = some (.struct fs)) [he : EqT P kt enc] (hag : ∀ k, ∃ cs, enc k = .agg cs) (hc : ∀ (em : Bool) (w : World) (k : κ), (Instr.checkKey em 10000 kt (enc k)).run P w = .ok () w) (hb : ∀ k, Instr.sameBits 10000 (enc k) (enc k) = true) : KeyL P kt enc where
  chk := hc
  find w k es ks hk := by
    have h1 := findAsking_of (P := P) (enc := enc) (kt := kt) w k es ks 0 hk
    simp only [Instr.findKey, Sem.run_bind, run_underlying hu, Result.andThen]
    cases es with
    | nil =>
      cases ks with
      | nil => rfl
      | cons x ks => simp at hk
    | cons e es =>
      have : Instr.findNow (.struct fs) (enc k) (e :: es) 0 = none := by
        obtain ⟨cs, h⟩ := hag k
        simp [Instr.findNow, Instr.sameNow]
      rw [this]
      simpa using h1
  bits := hb
end
theorem chk_place (em : Bool) (w : World) (n : Nat) (p : Pl) : (Instr.checkKey em (n + 2) 111 (encPl p)).run Tryz.prog w = .ok () w := by
  have h := Tryz.underlying111
  have hi := Tryz.underlying3
  simp [Instr.checkKey, run_underlying h, run_underlying hi, part, run_isAgg w tu3, TypeDesc.isAgg]
instance : KeyL Tryz.prog 111 encPl := keyL_struct Tryz.underlying111 (fun k => ⟨_, rfl⟩) (fun em w k => chk_place em w 9998 k) (fun k => by simp [Instr.sameBits])
theorem chk_slip (em : Bool) (w : World) (n : Nat) (x : Slp) : (Instr.checkKey em (n + 3) 113 (encSl x)).run Tryz.prog w = .ok () w := by
  have h := Tryz.underlying113
  have hs := Tryz.underlying9
  have hp := chk_place em w n x.1
  have e1 : (part 111 #[.int .i64 x.1.1, .int .i64 x.1.2.1, .int .i64 x.1.2.2, .string x.2.1, .string x.2.2.1, .string x.2.2.2] 0).run Tryz.prog w = .ok (encPl x.1) w := part_agg tu111 rfl ts111 rfl
  rw [Instr.checkKey]
  simp [run_underlying h, e1, hp, part, run_isAgg w tu9, TypeDesc.isAgg, Instr.checkKey, run_underlying hs]
instance : KeyL Tryz.prog 113 encSl := keyL_struct Tryz.underlying113 (fun k => ⟨_, rfl⟩) (fun em w k => chk_slip em w 9997 k) (fun k => by simp [Instr.sameBits, byteArray_beq])
end Go.Proofs.YtfebegbjggoijaaGreatDoor

/- The reference: Twin. -/
namespace Go.Proofs.YtfebegbjggoijaaGreatDoor
open Go.RowKit

/-- Lines of the call's own. -/
structure OwnLn (w : World) (B : Nat) (v : Value) (ys : List Ln) : Prop where
  out : OwnL w B 71 false 1 v (ys.map encLn)
  ins : ∀ y ∈ ys, OwnL w B 9 false 1 (encLn y) (y.2.2.map strV)
theorem OwnLn.ext {w w' : World} {B : Nat} {v : Value} {ys : List Ln} (h : OwnLn w B v ys) (hs : Ext w w') : OwnLn w' B v ys := ⟨h.out.ext hs, fun y hy => (h.ins y hy).ext hs⟩
theorem OwnLn.put {w w' : World} {B b : Nat} {o : Obj} {v : Value} {ys : List Ln} (h : OwnLn w B v ys) (p : PutO w w' b o) (hb : b < B) : OwnLn w' B v ys :=
  ⟨h.out.put p fun e => by have := (h.out.block _ e).1; omega, fun y hy => (h.ins y hy).put p fun e => by have := ((h.ins y hy).block _ e).1; omega⟩
theorem OwnLn.mono {w : World} {B B' : Nat} {v : Value} {ys : List Ln} (h : OwnLn w B v ys) (hB : B' ≤ B) : OwnLn w B' v ys := ⟨h.out.mono hB, fun y hy => (h.ins y hy).mono hB⟩
/-- Chapters of the call's own. -/
structure OwnCh (w : World) (B : Nat) (v : Value) (cs : List Ch) : Prop where
  out : OwnL w B 116 true 2 v (cs.map encCh)
  ins : ∀ x ∈ cs, OwnLn w B (.slice x.2.1 x.2.2.2.length x.2.2.1) x.2.2.2
theorem OwnCh.ext {w w' : World} {B : Nat} {v : Value} {cs : List Ch} (h : OwnCh w B v cs) (hs : Ext w w') : OwnCh w' B v cs := ⟨h.out.ext hs, fun y hy => (h.ins y hy).ext hs⟩
theorem OwnCh.put {w w' : World} {B b : Nat} {o : Obj} {v : Value} {cs : List Ch} (h : OwnCh w B v cs) (p : PutO w w' b o) (hb : b < B) : OwnCh w' B v cs :=
  ⟨h.out.put p fun e => by have := (h.out.block _ e).1; omega, fun y hy => (h.ins y hy).put p hb⟩
theorem OwnCh.mono {w : World} {B B' : Nat} {v : Value} {cs : List Ch} (h : OwnCh w B v cs) (hB : B' ≤ B) : OwnCh w B' v cs := ⟨h.out.mono hB, fun y hy => (h.ins y hy).mono hB⟩
theorem OwnCh.text {w : World} {B : Nat} {v : Value} {cs : List Ch} (h : OwnCh w B v cs) : TextI w cs := ⟨fun x hx => (h.ins x hx).out.row, fun x hx y hy => ((h.ins x hx).ins y hy).row⟩
theorem OwnLn.only {kb : Nat} {w w' : World} {B : Nat} {v : Value} {ys : List Ln} (h : OwnLn w B v ys) (o : Only kb w w') (hB : kb < B) : OwnLn w' B v ys := ⟨o.own h.out hB, fun y hy => o.own (h.ins y hy) hB⟩
/-- A row lies in no block of another type. -/
theorem OwnL.neB {w : World} {B e e' k b : Nat} {agg : Bool} {v : Value} {xs : List Value} {cs : List Value} (h : OwnL w B e agg k v xs) (hb : Bk w b cs e') (he : e ≠ e') : v.ownBlock ≠ some b := fun hv => by
  rcases h.own.2 with ⟨rfl, _⟩ | ⟨g, cap, cur, rfl, _, hg, _⟩
  · simp [Value.ownBlock] at hv
  · simp only [Value.ownBlock, Option.some.injEq] at hv
    subst hv
    rw [hb.h] at hg
    cases hg
    exact he rfl
/-- Chapters of the call's own, none of which lies in the block b, nor behind it. -/
theorem OwnCh.only {kb : Nat} {w w' : World} {B : Nat} {v : Value} {cs : List Ch} (h : OwnCh w B v cs) (o : Only kb w w') (hout : v.ownBlock ≠ some kb) (hb : ∃ vs, Bk w kb vs 116) : OwnCh w' B v cs := by
  obtain ⟨vs, hb⟩ := hb
  exact ⟨o.own' h.out hout, fun x hx => ⟨o.own' (h.ins x hx).out ((h.ins x hx).out.neB hb (by decide)), fun y hy => o.own' ((h.ins x hx).ins y hy) (((h.ins x hx).ins y hy).neB hb (by decide))⟩⟩
section
variable (a : Option Addr) (c : Nat) (cs : List Ch) (w : World) [hrow : RowI w (.slice a cs.length c) true 2 (cs.map encCh)] [hT : TextI w cs]
end
end Go.Proofs.YtfebegbjggoijaaGreatDoor

/- leaf: the text of a copy. -/
namespace Go.Proofs.YtfebegbjggoijaaGreatDoor
open Go.RowKit

abbrev nilV : Value := .slice none 0 0
end Go.Proofs.YtfebegbjggoijaaGreatDoor

/- leaf: copies that are right. -/
namespace Go.Proofs.YtfebegbjggoijaaGreatDoor
open Go.RowKit

end Go.Proofs.YtfebegbjggoijaaGreatDoor

/- leaf: copied, stands, Stands. -/
namespace Go.Proofs.YtfebegbjggoijaaGreatDoor
open Go.RowKit

theorem placeB_line {t : Tx} {p : Pl} (h : placeB t p = true) : ∃ l, lineT t p = some l ∧ ∃ q : Nat, q < l.length ∧ p.2.2 = (q : Int) := by
  unfold placeB at h
  split at h
  · cases h
  · refine ⟨_, ‹_›, p.2.2.toNat, ?_, ?_⟩ <;> (simp [inB] at h; omega)
end Go.Proofs.YtfebegbjggoijaaGreatDoor

/- The reference: Run, index, joined, Length. -/
namespace Go.Proofs.YtfebegbjggoijaaGreatDoor
open Go.RowKit

section
variable (a : Option Addr) (c : Nat) (cs : List Ch) (w : World) [hrow : RowI w (.slice a cs.length c) true 2 (cs.map encCh)] [hT : TextI w cs]
end
end Go.Proofs.YtfebegbjggoijaaGreatDoor

/- The reference: index, joined, Length. -/
namespace Go.Proofs.YtfebegbjggoijaaGreatDoor
open Go.RowKit

end Go.Proofs.YtfebegbjggoijaaGreatDoor

/- The reference: joined. -/
namespace Go.Proofs.YtfebegbjggoijaaGreatDoor
open Go.RowKit

end Go.Proofs.YtfebegbjggoijaaGreatDoor

/- The reference: slip. -/
namespace Go.Proofs.YtfebegbjggoijaaGreatDoor
open Go.RowKit

theorem OwnL.nth {w : World} {B e : Nat} {agg : Bool} {k : Nat} {v : Value} {xs : List Value} (h : OwnL w B e agg k v xs) : ∃ a c, v = .slice a xs.length c := h.slice
section
variable (a : Option Addr) (c : Nat) (cs : List Ch) (w : World) [hrow : RowI w (.slice a cs.length c) true 2 (cs.map encCh)] [hT : TextI w cs]
end
end Go.Proofs.YtfebegbjggoijaaGreatDoor

/- The reference: All places. -/
namespace Go.Proofs.YtfebegbjggoijaaGreatDoor
open Go.RowKit

section
variable (a : Option Addr) (c : Nat) (cs : List Ch) (w : World) [hrow : RowI w (.slice a cs.length c) true 2 (cs.map encCh)] [hT : TextI w cs]
end
end Go.Proofs.YtfebegbjggoijaaGreatDoor

/- The reference: Make, All, Part. -/
namespace Go.Proofs.YtfebegbjggoijaaGreatDoor
open Go.RowKit

theorem makeF_mem {t : Tx} {side wd : Int} {p : Pl} {n : Nat} (h : p ∈ allP t n) (hn : n ≤ t.length) : makeF t side wd p = some (slP t side wd p) := by
  obtain ⟨k, hk, hm⟩ := mem_allP.1 h
  obtain ⟨i, hi, e⟩ := List.mem_iff_getElem.1 hm
  have hg : (runA k (wsT t k))[i]? = some p := by rw [List.getElem?_eq_getElem hi, e]
  rw [makeF_yes (by omega) hg, slP_eq (by omega) hg]
section
variable (a : Option Addr) (c : Nat) (cs : List Ch) (wd side : Int) (w : World) [hrow : RowI w (.slice a cs.length c) true 2 (cs.map encCh)] [hT : TextI w cs]
end
end Go.Proofs.YtfebegbjggoijaaGreatDoor

/- slip: Wrong; the reference: Wrong. -/
namespace Go.Proofs.YtfebegbjggoijaaGreatDoor
open Go.RowKit

section
variable (a : Option Addr) (c : Nat) (cs : List Ch) (wd side : Int) (w : World) [hrow : RowI w (.slice a cs.length c) true 2 (cs.map encCh)] [hT : TextI w cs]
end
end Go.Proofs.YtfebegbjggoijaaGreatDoor

/- Plain law: which places have slips. -/
namespace Go.Proofs.YtfebegbjggoijaaGreatDoor
open Go.RowKit

theorem wsT_at {t : Tx} {k : Nat} (hk : k < t.length) : wsT t k = t[k].2 := by rw [wsT, List.getD_eq_getElem?_getD, List.getElem?_eq_getElem hk, Option.getD_some]
theorem lineT_at {t : Tx} {k n : Nat} {q : Int} (hk : k < t.length) (hn : n < t[k].2.length) : lineT t ((k : Int), (n : Int), q) = some t[k].2[n] := by
  rw [lineT, if_pos ⟨by simp, by simp⟩]
  simp only [Int.toNat_natCast]
  rw [List.getElem?_eq_getElem hk, Option.bind_some, List.getElem?_eq_getElem hn]
theorem placeB_get {t : Tx} {p : Pl} (h : placeB t p = true) : ∃ (k n w : Nat) (hk : k < t.length) (hn : n < t[k].2.length) (hw : w < t[k].2[n].length), p = ((k : Int), (n : Int), (w : Int)) := by
  obtain ⟨l, hl, q, hq, hp⟩ := placeB_line h
  rw [lineT] at hl
  split at hl
  · rename_i hc
    obtain ⟨x, hx, hl⟩ := Option.bind_eq_some_iff.1 hl
    obtain ⟨hk, rfl⟩ := List.getElem?_eq_some_iff.1 hx
    obtain ⟨hn, rfl⟩ := List.getElem?_eq_some_iff.1 hl
    exact ⟨_, _, q, hk, hn, hq, by ext <;> simp <;> omega⟩
  · cases hl
theorem placeB_yes {t : Tx} {k n w : Nat} (hk : k < t.length) (hn : n < t[k].2.length) (hw : w < t[k].2[n].length) : placeB t ((k : Int), (n : Int), (w : Int)) = true := by
  rw [placeB, lineT_at hk hn]
  simp only [inB, Bool.and_eq_true, decide_eq_true_eq]
  omega
theorem wordT_at {t : Tx} {k n w : Nat} (hk : k < t.length) (hn : n < t[k].2.length) (hw : w < t[k].2[n].length) : wordT t ((k : Int), (n : Int), (w : Int)) = t[k].2[n][w] := by
  rw [wordT, lineT_at hk hn, Option.getD_some, Int.toNat_natCast, List.getD_eq_getElem?_getD, List.getElem?_eq_getElem hw, Option.getD_some]
theorem placeB_mem {t : Tx} {p : Pl} : placeB t p = true ↔ p ∈ allP t t.length := by
  constructor
  · intro h
    obtain ⟨k, n, w, hk, hn, hw, rfl⟩ := placeB_get h
    refine mem_allP.2 ⟨k, hk, mem_runA.2 ⟨n, w, ?_, ?_, rfl⟩⟩
    · rw [wsT_at hk]; exact hn
    · simp only [wsT_at hk]; exact hw
  · intro h
    obtain ⟨k, hk, hm⟩ := mem_allP.1 h
    obtain ⟨n, w, hn, hw, rfl⟩ := mem_runA.1 hm
    simp only [wsT_at hk] at hn hw
    exact placeB_yes hk hn hw
end Go.Proofs.YtfebegbjggoijaaGreatDoor
