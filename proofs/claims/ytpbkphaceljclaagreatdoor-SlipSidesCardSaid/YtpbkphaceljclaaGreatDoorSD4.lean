/- Texts of the proof, part 4: SlO, PlC, PlD, Eng24, LibC, SlN, SrW, CmpL, SrO, Sl2, Sl3, Sl4, Sl5, Sl6, Sl7, LibS, Sl8, Sl9, Sw5, PlF, Sr1, Sr2, Sr3, Sr4, Sr5, Sr6, PlE, Sw2, Sw3, MpK, KeyP, Eng26, Sw4. -/
import Derived.Lib.AppendZerosOnto
import Derived.Test.YtpbkphaceljclaaGreatDoorSD3
/- The order of texts and of slips: cmp.Compare of texts, slip.right, slip.Order. -/
namespace Go.Proofs.YtpbkphaceljclaaGreatDoor
open Go.RowKit

/-- The order of two texts. -/
def cmpS (x y : ByteArray) : Int := if Op.bytesLess x.toList y.toList then -1 else if x = y then 0 else 1
def slipB (x : Slp) : Bool := wordsB x.2.2.1 && (wordsB x.2.2.2 && wordB x.2.1)
def SmallS (x : Slp) : Prop := x.2.1.size ≤ 1000 ∧ x.2.2.1.size ≤ 1000 ∧ x.2.2.2.size ≤ 1000
/-- The order of two slips. -/
def ordS (a b : Slp) : Int := orF [cmpS a.2.1 b.2.1, cmpP a.1 b.1, cmpS a.2.2.2 b.2.2.2, cmpS a.2.2.1 b.2.2.1]
def ordR (a b : Slp) : Int × Int := if slipB a && slipB b then (ordS a b, 0) else (0, 31)

theorem isNaN_str (x : ByteArray) (w : World) : Ct Tryz.prog 95 [.string x] w fun v _ => v = .bool false := by
  refine Ct.ofW (by simp) ?_
  (refine jjB ?_; refine jjC ?_; apply jJ; exact eB rfl; refine jz ?_; refine jjB ?_; refine jjC ?_; apply jI; exact eT rfl; apply jI; exact eT rfl)
  refine Ops.neqS rfl rfl ?_
  (apply jJ; exact eB rfl; refine jz ?_; refine jjF ?_; refine jB rfl rfl ⟨inferInstance, ?_⟩)
  exact congrArg Value.bool (by simp)
theorem Compare_str (x y : ByteArray) (w : World) : Ct Tryz.prog 63 [.string x, .string y] w fun v _ => v = .int .i64 (cmpS x y) := by
  refine Ct.ofW (by simp) ?_
  (refine jjB ?_; refine jjC ?_; apply jJ; exact eI rfl; refine jz ?_; refine jjB ?_; refine jjC ?_; apply jI; exact eT rfl)
  refine jjQ (isNaN_str x _) rfl rfl ?_
  rintro _ w2 hS2 rfl
  (apply jJ; exact eB rfl; refine jz ?_; refine jjB ?_; refine jjC ?_; apply jI; exact eT rfl)
  refine jjQ (isNaN_str y _) rfl rfl ?_
  rintro _ w3 hS3 rfl
  (apply jJ; exact eB rfl; refine jz ?_; refine jjB ?_; refine jjB ?_; refine jjC ?_; apply jI; exact eB rfl; refine jz ?_; refine jjK rfl ?_; refine jjG ?_; refine jjB ?_; refine jjB ?_; refine jjC ?_; apply jI; exact eB rfl; refine jz ?_; refine jjK rfl ?_; refine jjG ?_; refine jjB ?_; refine jjB ?_; refine jjC ?_; apply jI; exact eT rfl; apply jI; exact eT rfl)
  refine Ops.lssS rfl rfl ?_
  obtain ⟨B, hB⟩ : ∃ B, Op.bytesLess x.toList y.toList = B := ⟨_, rfl⟩
  rw [cmpS, hB]
  cases B
  · (refine jz ?_; refine jjK rfl ?_; refine jjG ?_; refine jjB ?_; refine jjB ?_; refine jjC ?_; apply jI; exact eT rfl; apply jI; exact eT rfl)
    refine Ops.gtrS rfl rfl ?_
    rw [hB, beqS, Bool.false_or]
    by_cases e : x = y
    · rw [decide_eq_true e, if_pos e]
      (refine jz ?_; refine jjK rfl ?_; refine jjG ?_; refine jjB ?_; refine jjC ?_; apply jJ; exact eI rfl; refine jz ?_; refine jjF ?_; refine jB rfl rfl ⟨inferInstance, ?_⟩)
      exact rfl
    · rw [decide_eq_false e, if_neg e]
      (refine jz ?_; refine jjJ rfl ?_; refine jjB ?_; refine jjC ?_; apply jJ; exact eI rfl; refine jz ?_; refine jjF ?_; refine jB rfl rfl ⟨inferInstance, ?_⟩)
      exact rfl
  · (refine jz ?_; refine jjJ rfl ?_; refine jjB ?_; refine jjC ?_; apply jJ; exact eI rfl; refine jz ?_; refine jjF ?_; refine jB rfl rfl ⟨inferInstance, ?_⟩)
    exact rfl

section
variable (w : World) [hm : MxI w]
set_option maxHeartbeats 1000000 in
theorem right_slip (x : Slp) (hx : SmallS x) : Ct Tryz.prog 73 [encSl x] w fun v _ => v = .bool (slipB x) := by
  obtain ⟨h1, h2, h3⟩ := hx
  refine Ct.ofW (by simp) ?_
  (refine jjB ?_; refine jjC ?_)
  (refine jy rfl ?_; intro b1 w_b1 hb_b1 hs_b1 hS_b1 hk_b1; have hA_b1 := At.ofBlock hk_b1)
  (apply jJ; exact eB rfl; refine jz ?_; refine jjB ?_; refine jjC ?_; refine jm ?_; refine jn rfl ?_; refine jN rfl rfl rfl ?_)
  obtain ⟨B1, e1⟩ : ∃ B, wordsB x.2.2.1 = B := ⟨_, rfl⟩
  obtain ⟨B2, e2⟩ : ∃ B, wordsB x.2.2.2 = B := ⟨_, rfl⟩
  obtain ⟨B3, e3⟩ : ∃ B, wordB x.2.1 = B := ⟨_, rfl⟩
  refine jjQ ((words_slip _ x.2.2.1 h2).mono fun v _ _ h => by rw [e1] at h; exact h) rfl rfl ?_
  rintro _ w2 hS2 ⟨sv, rfl, -⟩
  (apply jI; exact eU rfl; refine ju rfl rfl ?_; refine ju rfl rfl ?_; apply jJ; exact rfl; apply jJ; exact eB rfl; refine jz ?_; refine jjB ?_; refine jjC ?_; refine jm ?_; refine jn rfl ?_; refine jN rfl rfl rfl ?_)
  refine jjQ ((words_slip _ x.2.2.2 h3).mono fun v _ _ h => by rw [e2] at h; exact h) rfl rfl ?_
  rintro _ w3 hS3 ⟨sv2, rfl, -⟩
  rw [slipB, e1, e2, e3]
  cases B1
  · (apply jI; exact eU rfl; refine ju rfl rfl ?_; refine ju rfl rfl ?_; apply jJ; exact rfl; apply jJ; exact eB rfl; refine jz ?_; refine jjB ?_; refine jjC ?_; apply jI; exact eB rfl; apply jI; exact eB rfl; refine jU rfl rfl rfl rfl ?_; apply jL rfl; exact eB rfl; apply jI; exact eB rfl; refine jU rfl rfl rfl rfl ?_; refine jU rfl rfl rfl rfl ?_; refine jU rfl rfl rfl rfl ?_; apply jL rfl; exact eB rfl; apply jJ; exact eB rfl; refine jz ?_; refine jjF ?_; refine jB rfl rfl ⟨inferInstance, ?_⟩)
    exact rfl
  cases B2
  · (apply jI; exact eU rfl; refine ju rfl rfl ?_; refine ju rfl rfl ?_; apply jJ; exact rfl; apply jJ; exact eB rfl; refine jz ?_; refine jjB ?_; refine jjC ?_; apply jI; exact eB rfl; apply jI; exact eB rfl; refine jT rfl rfl rfl ?_; apply jI; exact eB rfl; apply jK rfl; exact eB rfl; apply jI; exact eB rfl; refine jU rfl rfl rfl rfl ?_; refine jU rfl rfl rfl rfl ?_; refine jU rfl rfl rfl rfl ?_; apply jL rfl; exact eB rfl; apply jJ; exact eB rfl; refine jz ?_; refine jjF ?_; refine jB rfl rfl ⟨inferInstance, ?_⟩)
    exact rfl
  (apply jI; exact eU rfl; refine ju rfl rfl ?_; refine ju rfl rfl ?_; apply jJ; exact rfl; apply jJ; exact eB rfl; refine jz ?_; refine jjB ?_; refine jjC ?_; apply jI; exact eB rfl; apply jI; exact eB rfl; refine jT rfl rfl rfl ?_; apply jI; exact eB rfl; apply jK rfl; exact eB rfl; apply jI; exact eB rfl; refine jT rfl rfl rfl ?_; refine jm ?_; refine jn rfl ?_; refine jT rfl rfl rfl ?_; refine jN rfl rfl rfl ?_; refine jT rfl rfl rfl ?_)
  refine jjQ ((word_slip x.2.1 _ (by omega)).mono fun v _ _ h => h.trans (by rw [e3])) rfl rfl ?_
  rintro _ w4 hS4 rfl
  (apply jK rfl; exact eB rfl; apply jJ; exact eB rfl; refine jz ?_; refine jjF ?_; refine jB rfl rfl ⟨inferInstance, ?_⟩)
  exact rfl
set_option maxHeartbeats 2000000 in
theorem Order_slip (x y : Slp) (hx : SmallS x) (hy : SmallS y) : Ct Tryz.prog 39 [encSl x, encSl y] w fun v _ => v = .tuple #[.int .i64 (ordR x y).1, .int .i64 (ordR x y).2] := by
  refine Ct.ofW (by simp) ?_
  (refine jjB ?_; refine jjC ?_)
  (refine jy rfl ?_; intro b2 w_b2 hb_b2 hs_b2 hS_b2 hk_b2; have hA_b2 := At.ofBlock hk_b2)
  skip
  (refine jy rfl ?_; intro b3 w_b3 hb_b3 hs_b3 hS_b3 hk_b3; have hA_b3 := At.ofBlock hk_b3)
  obtain ⟨B1, e1⟩ : ∃ B, slipB x = B := ⟨_, rfl⟩
  obtain ⟨B2, e2⟩ : ∃ B, slipB y = B := ⟨_, rfl⟩
  (apply jJ; exact eI rfl; apply jJ; exact eI rfl; refine jz ?_; refine jjB ?_; refine jjB ?_; refine jjC ?_; refine jO rfl rfl rfl rfl ?_)
  refine jjQ ((right_slip _ x hx).mono fun v _ _ h => h.trans (by rw [e1])) rfl rfl ?_
  rintro _ w2 hS2 rfl
  rw [ordR, e1, e2]
  cases B1
  · (refine jq rfl ?_; apply jI; exact eB rfl; refine jU rfl rfl rfl rfl ?_; refine jU rfl rfl rfl rfl ?_; refine jU rfl rfl rfl rfl ?_; apply jK rfl; exact eB rfl; refine jz ?_; refine jjJ rfl ?_; refine jjB ?_; refine jjC ?_; apply jJ; exact eI rfl; apply jJ; exact eI rfl; refine jz ?_; refine jjF ?_; refine jC rfl rfl rfl ⟨inferInstance, ?_⟩)
    exact rfl
  (refine jp rfl ?_; apply jI; exact eB rfl; refine jT rfl rfl rfl ?_; refine jO rfl rfl rfl rfl ?_; refine jT rfl rfl rfl ?_)
  refine jjQ ((right_slip _ y hy).mono fun v _ _ h => h.trans (by rw [e2])) rfl rfl ?_
  rintro _ w3 hS3 rfl
  cases B2
  · (refine jT rfl rfl rfl ?_; refine jq rfl ?_; apply jL rfl; exact eB rfl; refine jz ?_; refine jjJ rfl ?_; refine jjB ?_; refine jjC ?_; apply jJ; exact eI rfl; apply jJ; exact eI rfl; refine jz ?_; refine jjF ?_; refine jC rfl rfl rfl ⟨inferInstance, ?_⟩)
    exact rfl
  (refine jT rfl rfl rfl ?_; refine jp rfl ?_; apply jL rfl; exact eB rfl; refine jz ?_; refine jjK rfl ?_; refine jjG ?_; refine jjB ?_)
  refine W.draw (fun w' => Ext w3 w') ?_
  intro w1 hS1
  have x1 := hS1.ext
  (refine jjV [0, 1, 2, 3, 5, 6, 7, 8, 10, 11, 12, 13, 15, 16, 17, 18] ?_ ?_ ?_; (decide +kernel); (exact x1); (((apply jjT; exact rfl; rintro w' hq; have := hq.toStep; refine jm ?_; refine jn rfl ?_; refine jz ?_; exact ⟨rfl, rfl⟩; apply jjT; exact rfl; rintro w' hq; have := hq.toStep; refine jN rfl rfl rfl ?_; refine jz ?_; exact ⟨rfl, rfl⟩; apply jjT; exact rfl; rintro w' hq; have := hq.toStep; refine jm ?_; refine jn rfl ?_; refine jz ?_; exact ⟨rfl, rfl⟩; apply jjT; exact rfl; rintro w' hq; have := hq.toStep; refine jN rfl rfl rfl ?_; refine jz ?_; exact ⟨rfl, rfl⟩; apply jjT; exact rfl; rintro w' hq; have := hq.toStep; refine jm ?_; refine jn rfl ?_; refine jz ?_; exact ⟨rfl, rfl⟩; apply jjT; exact rfl; rintro w' hq; have := hq.toStep; refine jO rfl rfl rfl rfl ?_; refine jz ?_; exact ⟨rfl, rfl⟩; apply jjT; exact rfl; rintro w' hq; have := hq.toStep; refine jm ?_; refine jn rfl ?_; refine jz ?_; exact ⟨rfl, rfl⟩; apply jjT; exact rfl; rintro w' hq; have := hq.toStep; refine jO rfl rfl rfl rfl ?_; refine jz ?_; exact ⟨rfl, rfl⟩; apply jjT; exact rfl; rintro w' hq; have := hq.toStep; refine jm ?_; refine jn rfl ?_; refine jz ?_; exact ⟨rfl, rfl⟩; apply jjT; exact rfl; rintro w' hq; have := hq.toStep; refine jN rfl rfl rfl ?_; refine jz ?_; exact ⟨rfl, rfl⟩; apply jjT; exact rfl; rintro w' hq; have := hq.toStep; refine jm ?_; refine jn rfl ?_; refine jz ?_; exact ⟨rfl, rfl⟩; apply jjT; exact rfl; rintro w' hq; have := hq.toStep; refine jN rfl rfl rfl ?_; refine jz ?_; exact ⟨rfl, rfl⟩; apply jjT; exact rfl; rintro w' hq; have := hq.toStep; refine jm ?_; refine jn rfl ?_; refine jz ?_; exact ⟨rfl, rfl⟩; apply jjT; exact rfl; rintro w' hq; have := hq.toStep; refine jN rfl rfl rfl ?_; refine jz ?_; exact ⟨rfl, rfl⟩; apply jjT; exact rfl; rintro w' hq; have := hq.toStep; refine jm ?_; refine jn rfl ?_; refine jz ?_; exact ⟨rfl, rfl⟩; apply jjT; exact rfl; rintro w' hq; have := hq.toStep; refine jN rfl rfl rfl ?_; refine jz ?_; exact ⟨rfl, rfl⟩; refine jjU ?_))))
  (apply jjW 4; (decide +kernel); exact rfl; (exact x1))
  refine jjQ (Compare_str _ _ _) rfl rfl ?_
  rintro _ w4 hS4 rfl
  refine jz ?_
  have x2 := x1.trans hS4.ext
  (apply jjW 9; (decide +kernel); exact rfl; (exact x2))
  refine jjQ (places_slip x.1 y.1 _) rfl rfl ?_
  rintro _ w5 hS5 rfl
  refine jz ?_
  have x3 := x2.trans hS5.ext
  (apply jjW 14; (decide +kernel); exact rfl; (exact x3))
  refine jjQ (Compare_str _ _ _) rfl rfl ?_
  rintro _ w6 hS6 rfl
  refine jz ?_
  have x4 := x3.trans hS6.ext
  (apply jjW 19; (decide +kernel); exact rfl; (exact x4))
  refine jjQ (Compare_str _ _ _) rfl rfl ?_
  rintro _ w7 hS7 rfl
  refine jz ?_
  have x5 := x4.trans hS7.ext
  (apply jjW 20; (decide +kernel); exact rfl; (exact x5))
  refine Ops.buildSlice4 (v1 := .int .i64 (cmpS x.2.1 y.2.1)) (v2 := .int .i64 (cmpP x.1 y.1)) (v3 := .int .i64 (cmpS x.2.2.2 y.2.2.2)) (v4 := .int .i64 (cmpS x.2.2.1 y.2.2.1)) rfl rfl rfl rfl rfl rfl rfl rfl rfl ?_
  intro b8 w8 hb8 hs8 hS8 hk8
  refine jz ?_
  have x6 := x5.trans hS8.ext
  (apply jjW 21; (decide +kernel); exact rfl; (exact x6))
  have hr8 : RowV w8 false 1 (.slice (some ⟨b8, 0, none⟩) 4 4) ([cmpS x.2.1 y.2.1, cmpP x.1 y.1, cmpS x.2.2.2 y.2.2.2, cmpS x.2.2.1 y.2.2.1].map intV) := hk8.row (fun x hx => by simp at hx; rcases hx with rfl | rfl | rfl | rfl <;> rfl) (by simp)
  refine jjQ (Or_int _ _ _ [cmpS x.2.1 y.2.1, cmpP x.1 y.1, cmpS x.2.2.2 y.2.2.2, cmpS x.2.2.1 y.2.2.1] _ rfl hr8) rfl rfl ?_
  rintro _ w9 hS9 rfl
  refine jz ?_
  have x7 := x6.trans hS9.ext
  (refine jjV [22, 23] ?_ ?_ ?_; (decide +kernel); (exact x7); (((apply jjT; exact rfl; rintro w' hq; apply jJ; exact eI rfl; refine jz ?_; exact ⟨rfl, rfl⟩; apply jjT; exact rfl; rintro w' hq; apply jJ; exact eI rfl; refine jz ?_; exact ⟨rfl, rfl⟩; refine jjU ?_))))
  refine jjX (by decide +kernel) x7 ?_
  have := x7.toStep
  (refine jjF ?_; refine jC rfl rfl rfl ⟨inferInstance, ?_⟩)
  exact rfl
end
end Go.Proofs.YtpbkphaceljclaaGreatDoor

/- Plain law: the slips of a valid text. -/
namespace Go.Proofs.YtpbkphaceljclaaGreatDoor
open Go.RowKit

theorem word_valid {t : Tx} {k : Nat} (h : textB t = true) {s : ByteArray} (hk : k < t.length) (hs : s ∈ (wsT t k).flatten) : wordB s = true := by
  simp only [textB, Bool.and_eq_true, List.all_eq_true] at h
  have hm : t.getD k (0, []) ∈ t := by rw [List.getD_eq_getElem?_getD, List.getElem?_eq_getElem hk, Option.getD_some]; exact List.getElem_mem hk
  have h1 := h.1.2 _ hm
  simp only [chapB, Bool.and_eq_true, List.all_eq_true] at h1
  obtain ⟨y, hy, hsy⟩ := List.mem_flatten.1 hs
  have h2 := h1.2 y hy
  simp only [lineB, Bool.and_eq_true, List.all_eq_true] at h2
  exact h2.2 s hsy
/-- A slip of a text: its chapter, its word's number there, and its context. -/
theorem make_open {t : Tx} (ht : textB t = true) {wd side : Int} (hc : cutB wd side = true) {p : Pl} {s : Slp} (h : makeF t side wd p = some s) :
    ∃ (k i : Nat) (hi : i < (wsT t k).flatten.length), k < t.length ∧ (runA k (wsT t k))[i]? = some p ∧ (∀ w ∈ (wsT t k).flatten, wordB w = true) ∧ (((wsT t k).flatten[i].size : Int) ≤ wd) ∧
      s = (p, (wsT t k).flatten[i], joinB (((wsT t k).flatten.take i).drop (bestA (wsT t k).flatten side wd i).1), joinB (((wsT t k).flatten.take ((bestA (wsT t k).flatten side wd i).2 + 1)).drop (i + 1))) := by
  obtain ⟨k, i, hk, hi, rfl⟩ := makeF_some h
  have hil : i < (wsT t k).flatten.length := by rw [← runA_len k]; exact (List.getElem?_eq_some_iff.1 hi).1
  have hw := fun w (hw : w ∈ (wsT t k).flatten) => word_valid ht hk hw
  have hcb := cutB_width hc
  have := word_size (hw _ (List.getElem_mem hil))
  refine ⟨k, i, hil, hk, hi, hw, by omega, ?_⟩
  rw [slipX, List.getD_eq_getElem?_getD, List.getElem?_eq_getElem hil, Option.getD_some]
theorem take_words {ws : List ByteArray} (h : ∀ w ∈ ws, wordB w = true) {a b : Nat} : ∀ w ∈ (ws.take b).drop a, wordB w = true := fun w hw => h w (List.mem_of_mem_take (List.mem_of_mem_drop hw))
theorem make_right {t : Tx} (ht : textB t = true) {wd side : Int} (hc : cutB wd side = true) {p : Pl} {s : Slp} (h : makeF t side wd p = some s) : slipB s = true ∧ (widthN s : Int) ≤ wd := by
  obtain ⟨k, i, hi, hk, hp, hw, hW, rfl⟩ := make_open ht hc h
  obtain ⟨⟨b1, b2, b3, b4⟩, _⟩ := best_spec (side := side) hi hW
  have hcb := cutB_width hc
  have hwid := width_cut hw hi b1 b2 b3 p
  refine ⟨?_, by omega⟩
  have h1 := word_size (hw _ (List.getElem_mem hi))
  have hg : ∀ s : ByteArray, s.size ≤ gapN s := fun s => by unfold gapN; split <;> omega
  have g1 := hg (joinB (((wsT t k).flatten.take i).drop (bestA (wsT t k).flatten side wd i).1))
  have g2 := hg (joinB (((wsT t k).flatten.take ((bestA (wsT t k).flatten side wd i).2 + 1)).drop (i + 1)))
  simp only [widthN] at hwid
  simp only [slipB, Bool.and_eq_true]
  exact ⟨wordsB_join (take_words hw) (by omega), wordsB_join (take_words hw) (by omega), hw _ (List.getElem_mem hi)⟩
end Go.Proofs.YtpbkphaceljclaaGreatDoor

/- Plain law: wider cuts, sides, how many words stand in a context. -/
namespace Go.Proofs.YtpbkphaceljclaaGreatDoor
open Go.RowKit

/-- How many words a text of words has: its spaces, and one. -/
def nW (s : ByteArray) : Nat := if s.size = 0 then 0 else s.data.toList.count 32 + 1
theorem count_join : ∀ {ws : List (List UInt8)}, ws ≠ [] → (∀ w ∈ ws, noSp w) → (Lib.join ws [32]).count 32 + 1 = ws.length
  | [], h, _ => absurd rfl h
  | [x], _, h => by
    rw [Lib.join_one, List.count_eq_zero_of_not_mem fun hm => h x (by simp) 32 hm rfl]; rfl
  | x :: y :: r, _, h => by
    have ih := count_join (ws := y :: r) (by simp) fun w hw => h w (by simp only [List.mem_cons] at hw ⊢; exact .inr hw)
    rw [join_cc, List.count_append, List.count_eq_zero_of_not_mem fun hm => h x (by simp) 32 hm rfl, List.count_cons_self]
    simp only [List.length_cons] at ih ⊢
    omega
theorem nW_join {ws : List ByteArray} (h : ∀ w ∈ ws, wordB w = true) : nW (joinB ws) = ws.length := by
  by_cases hne : ws = []
  · subst hne; rfl
  · rw [nW, if_neg fun e => hne ((joinB_zero h).1 e)]
    have e : (joinB ws).data.toList = Lib.join (ws.map (·.data.toList)) [32] := by simp [joinB]
    rw [e, count_join (by simpa using hne) fun w hw => by
      obtain ⟨y, hy, rfl⟩ := List.mem_map.1 hw
      exact word_noSp (h y hy)]
    simp
theorem cut_len {α : Type} {ws : List α} {a b : Nat} (hab : a ≤ b) (hb : b ≤ ws.length) : ((ws.take b).drop a).length = b - a := by
  rw [List.length_drop, List.length_take]; omega
section
variable {ws : List ByteArray} {side : Int} {i : Nat} (hi : i < ws.length)
include hi
/-- The side changes no length; the left one has the most words before, the right one the fewest, the even one differs least. -/
theorem best_sides {W : Int} (hW : (ws[i].size : Int) ≤ W) (s s' : Int) : lenX ws (bestA ws s W i) = lenX ws (bestA ws s' W i) ∧
    (s' = 1 → (bestA ws s' W i).1 ≤ (bestA ws s W i).1) ∧ (s' = 2 → (bestA ws s W i).1 ≤ (bestA ws s' W i).1) ∧ (s' ≠ 1 → s' ≠ 2 → unE i (bestA ws s' W i) ≤ unE i (bestA ws s W i)) := by
  obtain ⟨⟨a1, a2, a3, a4⟩, a5⟩ := best_spec (side := s) hi hW
  obtain ⟨⟨b1, b2, b3, b4⟩, b5⟩ := best_spec (side := s') hi hW
  have h1 := b5 _ a1 a2 a3 a4
  have h2 := a5 _ b1 b2 b3 b4
  generalize bestA ws s W i = m at *
  generalize bestA ws s' W i = m' at *
  have hle : lenX ws m = lenX ws m' := by
    rcases h1 with h | h
    · rw [h]
    · rcases h2 with h' | h'
      · rw [h']
      · rw [ordI_lt] at h h'; omega
  refine ⟨hle, fun e => ?_, fun e => ?_, fun e1 e2 => ?_⟩
  · rcases h1 with h | h
    · rw [h]; exact Nat.le_refl _
    · rw [ordI_lt, sdI_lt] at h
      omega
  · rcases h1 with h | h
    · rw [h]; exact Nat.le_refl _
    · rw [ordI_lt, sdI_lt] at h
      omega
  · rcases h1 with h | h
    · rw [h]; exact Int.le_refl _
    · rw [ordI_lt, sdI_lt] at h
      omega
end
end Go.Proofs.YtpbkphaceljclaaGreatDoor

/- The proof engine, part 24: parts of strings; the first elements of a slice of the call's own; structs as keys of maps. -/
namespace Go.Proofs.YtpbkphaceljclaaGreatDoor
open Go.RowKit

section rules
variable {P : Program} {ro : Option Nat} {n : Nat} {all rest : List Oper} {K : Sl → World → Prop} {s : Sl} {w : World} {d : Nat} {ty : Nat} {pos : String} {af : Array Edge}
variable {x y : Operand} {t t' e : Nat}
theorem flatMap_take {k : Nat} : ∀ {xs : List Value} (m : Nat), (∀ x ∈ xs, x.cells.toList.length = k) → (xs.take m).flatMap (·.cells.toList) = (xs.flatMap (·.cells.toList)).take (m * k)
  | [], m, _ => by simp
  | y :: xs, 0, _ => by simp
  | y :: xs, m + 1, h => by
    have hy := h y List.mem_cons_self
    rw [List.take_succ_cons, List.flatMap_cons, List.flatMap_cons, flatMap_take m fun x hx => h x (List.mem_cons_of_mem _ hx), List.take_append, hy, Nat.add_mul, Nat.one_mul, Nat.add_sub_cancel]
    rw [List.take_of_length_le (l := y.cells.toList) (by omega)]
/-- The first m elements of a slice of the call's own. -/
theorem OwnL.cut {w : World} {B e k l c : Nat} {agg : Bool} {a : Option Addr} {xs : List Value} (h : OwnL w B e agg k (.slice a l c) xs) {m : Nat} (hm : m ≤ xs.length) (h0 : 0 < c) : OwnL w B e agg k (.slice a m c) (xs.take m) := by
  have hl : (xs.take m).length = m := by rw [List.length_take]; omega
  have hf : ∀ x ∈ xs.take m, fitsV agg k x = true := fun x hx => h.fit x (List.mem_of_mem_take hx)
  have hlen := h.len
  refine ⟨⟨?_, ?_⟩, hf, by omega⟩
  · rw [flatMap_take (k := k) m fun x hx => by rw [Array.length_toList]; exact fitsV_cells (h.fit x hx)]
    rw [List.length_take, hl, flat_len (k := k) (xs := xs) fun y hy => fitsV_cells (h.fit y hy)]
    exact Nat.min_eq_left (Nat.mul_le_mul_right _ hm)
  · rcases h.own.2 with ⟨e0, _⟩ | ⟨g, cap, cur, e0, hB, hh, hn, hm', hs, ht⟩
    · simp only [Value.slice.injEq] at e0; omega
    · simp only [Value.slice.injEq] at e0
      obtain ⟨rfl, _, rfl⟩ := e0
      refine .inr ⟨g, c, cur, by rw [hl], hB, hh, by omega, hm', hs, ?_⟩
      rw [hl, flatMap_take (k := k) m fun x hx => by rw [Array.length_toList]; exact fitsV_cells (h.fit x hx), ← ht, List.take_take, Nat.min_eq_left (Nat.mul_le_mul_right _ hm)]
theorem Ops.sliceXHv {l c hi k bytes : Nat} {j : Int} {k2 : IntKind} {xh : Operand} {a : Option Addr} {z : Value} (hx : ev n s x = .slice a l c) (hh : ev n s xh = .int k2 j) (hj : j = (hi : Int)) (h2 : hi ≤ c) (h0 : 0 < c) [ht : TSl P t e] [hz : TS P e z k bytes]
    (h : Ops P ro n all rest K (upd s d (.slice a hi c)) w) : Ops P ro n all (⟨some d, .slice t x none (some xh) none, ty, pos, af, none⟩ :: rest) K s w := by
  subst hj
  refine Ops.ofRun rfl ?_ h
  have hc : ¬ c = 0 := by omega
  cases a <;> simp [execOp, Instr.sliceAt, Instr.slice, Instr.sliceBounds, Instr.sliceBound, hx, hh, run_underlying ht.h, asIntOf, h2, run_sizeOf' w hz, hc, Addr.add]
end rules
end Go.Proofs.YtpbkphaceljclaaGreatDoor

/- slices.Grow of nothing, slices.Concat, slices.Equal (of strings). -/
namespace Go.Proofs.YtpbkphaceljclaaGreatDoor
open Go.RowKit

section rules
variable {P : Program} {ro : Option Nat} {n : Nat} {all rest : List Oper} {K : Sl → World → Prop} {s : Sl} {w : World} {d : Nat} {ty : Nat} {pos : String} {af : Array Edge}
variable {x y : Operand} {t tn e : Nat}
/-- append(nil, make([]T, k)...). -/
theorem Ops.appendZeros {m bytes : Nat} {z : Value} {q : Int} (hx : ev n s x = .slice none 0 0) (hy : ev n s y = .int .i64 q) (hq : q = (m : Int)) (h0 : 0 < m) (hm : m ≤ 1000000) [ht : TSl P t e] [hz : TS P e z 1 bytes] [htn : TU P tn (.int .i64)] (hzz : z.cells.size = 1) (hb : bytes ≤ 1000)
    (h : ∀ b c w' cs, b = w.heap.size → Ext w w' → m ≤ c → c ≤ maxLen → cs.length = c → Bk w' b cs e → Ops P ro n all rest K (upd s d (.slice (some ⟨b, 0, none⟩) m c)) w') :
    Ops P ro n all (⟨some d, .call { callee := .builtin .append, args := #[x, y], argTypes := #[t, tn] }, ty, pos, af, none⟩ :: rest) K s w := by
  subst hq
  obtain ⟨i, hi, hiz, his, hib⟩ := hz.info
  have hold : (Builtin.firstCells i.size 0 (.slice none 0 0)).run P w.drew = .ok ([] : List Value).toArray w.drew := run_firstCells_none w.drew i.size 0 0 0
  have hmb : m * bytes ≤ 1000000 * 1000 := Nat.mul_le_mul hm hb
  have hcap : Builtin.nextslicecap (0 + m) 0 ≤ m := by unfold Builtin.nextslicecap; simp [h0]
  have hr := Lib.run_append_grow_zeros w t tn ty e i z .i64 .i64 ht.h htn.h hi hiz none 0 0 [] hold m h0 (by omega) (by omega) (by omega) (by rw [hib]; omega)
    (by
      have : Builtin.nextslicecap (0 + m) 0 * i.bytes ≤ m * bytes := by rw [hib]; exact Nat.mul_le_mul_right _ hcap
      omega)
  rw [Nat.zero_add] at hr
  have hge := grownCap_ge w m 0 e
  have hle := grownCap_le_maxLen w m 0 e (by unfold maxLen; omega)
  obtain ⟨cells, hcs⟩ : ∃ cells, cells = ([] : List Value).toArray ++ Builtin.zeroCells z.cells m ++ Builtin.zeroCells z.cells (grownCap w m 0 e - m) := ⟨_, rfl⟩
  have hsz : cells.size = grownCap w m 0 e := by
    rw [hcs]; simp [Builtin.zeroCells, hzz]; omega
  rw [← hcs] at hr
  clear hcs
  generalize grownCap w m 0 e = c at *
  refine Ops.ofRun (w' := w.drew.alloc (.cells cells e)) rfl (by simp [execOp, resolve, invoke, builtin, hx, hy, hr]) (h w.heap.size c _ cells.toList rfl ⟨((Below.refl _ w).drew).alloc (Nat.le_refl _) _⟩ hge hle (by simpa using hsz) (Bk.of ?_))
  have := World.alloc_heap_new w.drew (.cells cells e)
  simpa using this
theorem Ops.sliceNil {k bytes : Nat} {j : Int} {k2 : IntKind} {xh : Operand} {z : Value} (hx : ev n s x = .slice none 0 0) (hh : ev n s xh = .int k2 j) (hj : j = 0) [ht : TSl P t e] [hz : TS P e z k bytes]
    (h : Ops P ro n all rest K (upd s d (.slice none 0 0)) w) : Ops P ro n all (⟨some d, .slice t x none (some xh) none, ty, pos, af, none⟩ :: rest) K s w := by
  subst hj
  refine Ops.ofRun rfl ?_ h
  simp [execOp, Instr.sliceAt, Instr.slice, Instr.sliceBounds, Instr.sliceBound, hx, hh, run_underlying ht.h, asIntOf, run_sizeOf' w hz]
end rules
theorem Grow_str (m : Nat) (h0 : 0 < m) (hm : m ≤ 1000000) (w : World) : Ct Tryz.prog 111 [.slice none 0 0, .int .i64 (m : Int)] w fun v w' => OwnL w' w.heap.size 9 false 1 v [] := by
  refine Ct.ofW (by simp) ?_
  (refine jjB ?_; refine jjC ?_; apply jJ; exact eS rfl; refine jz ?_; refine jjB ?_; refine jjB ?_; refine jjC ?_; apply jI; exact eI rfl; refine jja rfl rfl (by omega) ?_; refine jz ?_; refine jjK rfl ?_; refine jjG ?_; refine jjB ?_; refine jjB ?_; refine jjC ?_; apply jI; exact eI rfl; apply jI; exact eS rfl; refine jl rfl ?_; apply jI; exact eS rfl; refine jh rfl ?_; refine jZ rfl rfl (by omega) ?_; refine jZ rfl rfl (by omega) ?_; apply jJ; exact eI rfl; refine jz ?_; refine jjB ?_; refine jjC ?_; apply jI; exact eI rfl; refine jjd rfl rfl (by omega) ?_; refine jz ?_; refine jjJ rfl ?_; refine jjC ?_; apply jI; exact eS rfl; apply jI; exact eS rfl; refine jl rfl ?_)
  refine Ops.sliceNil rfl rfl (by omega) ?_
  (apply jI; exact eI rfl)
  refine Ops.appendZeros (m := m) rfl rfl (by omega) h0 hm rfl (by omega) ?_
  intro b c w2 cs hb hE hmc hcm hlen hB
  have := hE.toStep
  (apply jI; exact eS rfl; refine jh rfl ?_)
  refine Ops.sliceXHv (hi := 0) rfl rfl rfl (Nat.zero_le _) (by omega) ?_
  (apply jJ; exact eS rfl; refine jz ?_; refine jjB ?_; refine jjC ?_; apply jI; exact eS rfl; apply jJ; exact eS rfl; refine jz ?_; refine jjF ?_; refine jB rfl rfl ⟨inferInstance, ?_⟩)
  exact OwnL.ofCells hB hlen (Nat.zero_le _) hcm rfl (by omega) (by omega) (by simp)
/-- All strings of some lines. -/
def catL (ls : List Ln) : List ByteArray := ls.flatMap (·.2.2)
theorem catL_len {ls : List Ln} {k : Nat} (hk : k < ls.length) : (catL (ls.take (k + 1))).length = (catL (ls.take k)).length + ls[k].2.2.length := by
  rw [catL, take_snoc_get (List.getElem?_eq_getElem hk), List.flatMap_append, List.length_append]
  simp [catL]
theorem catL_snoc {ls : List Ln} {k : Nat} (hk : k < ls.length) : catL (ls.take (k + 1)) = catL (ls.take k) ++ ls[k].2.2 := by
  rw [catL, take_snoc_get (List.getElem?_eq_getElem hk), List.flatMap_append]
  simp [catL]
theorem catL_le {ls : List Ln} (k : Nat) : (catL (ls.take k)).length ≤ (catL ls).length := by
  have h : catL ls = catL (ls.take k) ++ catL (ls.drop k) := by rw [catL, catL, catL, ← List.flatMap_append, List.take_append_drop]
  rw [h, List.length_append]; omega
theorem all_strC (l : List ByteArray) : (l.map strV).all (fun v => v.cells.toList.all (·.oneCell')) = true := by
  rw [List.all_eq_true]; intro x hx; obtain ⟨y, _, rfl⟩ := List.mem_map.1 hx; rfl
set_option maxHeartbeats 1000000 in
theorem Concat_str (a : Option Addr) (c : Nat) (ls : List Ln) (w : World) (hrow : RowV w false 1 (.slice a ls.length c) (ls.map encLn)) (hrows : ∀ y ∈ ls, RowV w false 1 (encLn y) (y.2.2.map strV)) (h0 : 0 < (catL ls).length) (hm : (catL ls).length ≤ 1000000) :
    Ct Tryz.prog 75 [.slice a ls.length c] w fun v w' => OwnL w' w.heap.size 9 false 1 v ((catL ls).map strV) := by
  have hlen := hrow.len
  rw [List.length_map] at hlen
  refine Ct.ofW (by simp) ?_
  (refine jjB ?_; refine jjC ?_; apply jJ; exact eS rfl; refine jz ?_; refine jjB ?_; refine jjC ?_; apply jJ; exact eI rfl; refine jz ?_; refine jjB ?_; refine jjB ?_; refine jjC ?_; apply jI; exact eS rfl; refine jh rfl ?_; apply jI; exact eI rfl; refine jz ?_; refine jjD ?_)
  refine W.keep0 [(0, .slice a ls.length c), (3, .int .i64 ((0 : Nat) : Int)), (9, .slice a ls.length c), (10, .int .i64 (ls.length : Int)), (11, .int .i64 ((0 : Nat) : Int))] ⟨eS rfl, eI rfl, eS rfl, eI rfl, eI rfl, trivial⟩ fun s0 => ?_
  refine W.loop (12 :: 13 :: 14 :: 5 :: 15 :: 16 :: 17 :: 18 :: 3 :: 19 :: 20 :: 21 :: 22 :: 11 :: []) (fun g s' V => ∃ k : Nat, s' 11 = .int .i64 ((k : Nat) : Int) ∧ s' 3 = .int .i64 ((catL (ls.take k)).length : Int) ∧ g = ls.length - k ∧ k ≤ ls.length) ls.length ⟨0, rfl, rfl, rfl, Nat.zero_le _⟩ ?_
  rintro _ sd V hS1 ⟨k, h11, h3, rfl, hk⟩
  refine W.fix h11 (W.fix (d := 3) h3 ?_)
  clear h11 h3
  have hle := catL_le (ls := ls) k
  by_cases hkl : k < ls.length
  · obtain ⟨b1, o1, rfl, hA1⟩ := hrow.place' (map_get hkl)
    have hsu := catL_len hkl
    have hle2 := catL_le (ls := ls) (k + 1)
    have hA1' := hA1.ext hS1.ext
    rw [Nat.mul_one] at hA1'
    (refine jjB ?_; refine jjC ?_; refine jjZ rfl rfl (by omega) ?_; refine jz ?_; refine jjB ?_; refine jjJ rfl ?_; refine jjG ?_; refine jjB ?_; refine jjD ?_; refine jjB ?_; refine jjC ?_; refine jG rfl rfl rfl (by omega) ?_; refine jQ rfl rfl ?_; apply jJ; exact eS rfl; refine jz ?_; refine jjB ?_; refine jjC ?_; apply jI; exact eI rfl; apply jI; exact eS rfl; refine jh rfl ?_; refine jY rfl rfl (by omega) ?_; apply jJ; exact eI rfl; refine jz ?_; refine jjB ?_; refine jjC ?_; apply jI; exact eI rfl; refine jja rfl rfl (by omega) ?_; refine jz ?_; refine jjK rfl ?_; refine jjG ?_; refine jjC ?_; refine jY rfl rfl (by omega) ?_; apply jI; exact eI rfl; refine jz ?_)
    exact ⟨rfl, by ((refine Same.upd rfl ?_; refine Same.upd rfl ?_; refine Same.upd rfl ?_; refine Same.upd rfl ?_; refine Same.upd rfl ?_; refine Same.upd rfl ?_; refine Same.upd rfl ?_; refine Same.upd rfl ?_; refine Same.upd rfl ?_; refine Same.upd rfl ?_; refine Same.upd rfl ?_; refine Same.upd rfl ?_; refine Same.upd rfl ?_; refine Same.upd rfl ?_; refine Same.upd rfl ?_; exact Same.ovN)), ls.length - (k + 1), by omega, inferInstance, k + 1, congrArg (Value.int .i64) (by omega), congrArg (Value.int .i64) (by omega), rfl, by omega⟩
  obtain rfl : k = ls.length := by omega
  rw [List.take_length]
  (refine jjB ?_; refine jjC ?_; refine jja rfl rfl (by omega) ?_; refine jz ?_; refine jjB ?_; refine jjK rfl ?_; refine jjE ?_; refine jjB ?_; refine jjC ?_; apply jI; exact eI rfl)
  refine jjQ (Grow_str (catL ls).length h0 hm _) rfl rfl ?_
  rintro sv w2 hS2 hO2
  have hE2 : Ext w w2 := inferInstance
  (apply jJ; exact rfl; refine jz ?_; refine jjB ?_; refine jjB ?_; refine jjC ?_; apply jI; exact eS rfl; refine jh rfl ?_; apply jI; exact eI rfl; refine jz ?_; refine jjD ?_)
  obtain ⟨ga, gl, gc, rfl⟩ := hO2.slice3
  refine W.keep0 [(0, .slice a ls.length c), (6, .slice ga gl gc), (25, .slice a ls.length c), (26, .int .i64 (ls.length : Int)), (27, .int .i64 ((0 : Nat) : Int))] ⟨eS rfl, eS rfl, eS rfl, eI rfl, eI rfl, trivial⟩ fun s0 => ?_
  refine W.loopG (28 :: 29 :: 30 :: 8 :: 31 :: 32 :: 33 :: 6 :: 34 :: 27 :: []) (fun g s' V => ∃ (k : Nat) (sv : Value), s' 27 = .int .i64 ((k : Nat) : Int) ∧ s' 6 = sv ∧ g = ls.length - k ∧ k ≤ ls.length ∧ Ext w V ∧ w2.heap.size ≤ V.heap.size ∧ OwnL V w.heap.size 9 false 1 sv ((catL (ls.take k)).map strV)) ls.length ⟨0, _, rfl, rfl, rfl, Nat.zero_le _, hE2, Nat.le_refl _, hO2.mono (hS1.ext.size)⟩ ?_
  clear hO2
  rintro _ sd V3 ⟨k, sv, h27, h6, rfl, hk, hE, hz, hO⟩
  obtain ⟨va, vl, vc, rfl⟩ := hO.slice3
  refine W.fix h27 (W.fix (d := 6) h6 ?_)
  clear h27 h6
  by_cases hkl : k < ls.length
  · obtain ⟨b1, o1, rfl, hA1⟩ := hrow.place' (map_get hkl)
    have hle2 := catL_le (ls := ls) (k + 1)
    have hsu := catL_len hkl
    have hA1' := hA1.ext hE
    rw [Nat.mul_one] at hA1'
    have hr1 := (hrows _ (List.getElem_mem hkl)).ext hE
    (refine jjB ?_; refine jjC ?_; refine jjZ rfl rfl (by omega) ?_; refine jz ?_; refine jjB ?_; refine jjJ rfl ?_; refine jjG ?_; refine jjB ?_; refine jjD ?_; refine jjB ?_; refine jjC ?_; refine jG rfl rfl rfl (by omega) ?_; refine jQ rfl rfl ?_; apply jJ; exact eS rfl; refine jz ?_; refine jjC ?_; apply jI; exact eS rfl; apply jI; exact eS rfl)
    refine Ops.appendL hO (by have := hE.size; omega) hr1 rfl rfl rfl rfl (all_strC _) ?_ ?_ ?_
    · rw [List.length_map, List.length_map]; omega
    · rw [List.length_map, List.length_map]; omega
    intro v2 V4 hA hO4 _ _
    rw [← List.map_append, ← catL_snoc hkl] at hO4
    obtain ⟨va4, vl4, vc4, rfl⟩ := hO4.slice3
    have zA := hA.g.size
    (apply jJ; exact eS rfl; refine jz ?_; refine jjC ?_; refine jY rfl rfl (by omega) ?_; apply jI; exact eI rfl; refine jz ?_)
    exact ⟨rfl, by ((refine Same.upd rfl ?_; refine Same.upd rfl ?_; refine Same.upd rfl ?_; refine Same.upd rfl ?_; refine Same.upd rfl ?_; refine Same.upd rfl ?_; refine Same.upd rfl ?_; refine Same.upd rfl ?_; refine Same.upd rfl ?_; refine Same.upd rfl ?_; refine Same.upd rfl ?_; refine Same.upd rfl ?_; exact Same.ovN)), ls.length - (k + 1), by omega, k + 1, _, congrArg (Value.int .i64) (by omega), rfl, rfl, by omega, hA.ext hE (Nat.le_refl _), by omega, hO4⟩
  obtain rfl : k = ls.length := by omega
  rw [List.take_length] at hO
  (refine jjB ?_; refine jjC ?_; refine jja rfl rfl (by omega) ?_; refine jz ?_; refine jjB ?_; refine jjK rfl ?_; refine jjE ?_; refine jjB ?_; refine jjC ?_; apply jI; exact eS rfl; apply jJ; exact eS rfl; refine jz ?_; refine jjF ?_; refine jB rfl rfl ⟨inferInstance, ?_⟩)
  exact hO
set_option maxHeartbeats 1000000 in
theorem Equal_str (a1 a2 : Option Addr) (c1 c2 n1 n2 : Nat) (xs ys : List ByteArray) (w : World) (h1 : xs.length = n1) (h2 : ys.length = n2) (hx : RowV w false 1 (.slice a1 n1 c1) (xs.map strV)) (hy : RowV w false 1 (.slice a2 n2 c2) (ys.map strV)) : Ct Tryz.prog 77 [.slice a1 n1 c1, .slice a2 n2 c2] w fun v _ => v = .bool (decide (xs = ys)) := by
  subst h1 h2
  have hlx := hx.len
  have hly := hy.len
  rw [List.length_map] at hlx hly
  refine Ct.ofW (by simp) ?_
  by_cases hl : xs.length = ys.length
  rotate_left
  · (refine jjB ?_; refine jjC ?_; apply jJ; exact eB rfl; refine jz ?_; refine jjB ?_; refine jjB ?_; refine jjC ?_; apply jI; exact eS rfl; refine jh rfl ?_; apply jI; exact eS rfl; refine jh rfl ?_; refine jjj rfl rfl (by omega) ?_; refine jz ?_; refine jjJ rfl ?_; refine jjB ?_; refine jjC ?_; apply jJ; exact eB rfl; refine jz ?_; refine jjF ?_; refine jB rfl rfl ⟨inferInstance, ?_⟩)
    rw [decide_eq_false (fun e => hl (by rw [e]))]; exact rfl
  (refine jjB ?_; refine jjC ?_; apply jJ; exact eB rfl; refine jz ?_; refine jjB ?_; refine jjB ?_; refine jjC ?_; apply jI; exact eS rfl; refine jh rfl ?_; apply jI; exact eS rfl; refine jh rfl ?_; refine jjk rfl rfl (by omega) ?_; refine jz ?_; refine jjK rfl ?_; refine jjG ?_; refine jjB ?_; refine jjB ?_; refine jjC ?_; apply jI; exact eS rfl; refine jh rfl ?_; apply jI; exact eI rfl; refine jz ?_; refine jjD ?_)
  refine W.keep0 [(0, .slice a1 xs.length c1), (1, .slice a2 ys.length c2), (12, .int .i64 (xs.length : Int)), (13, .int .i64 ((0 : Nat) : Int))] ⟨eS rfl, eS rfl, eI rfl, eI rfl, trivial⟩ fun s0 => ?_
  refine W.loop (14 :: 15 :: 5 :: 16 :: 17 :: 18 :: 19 :: 20 :: 21 :: 22 :: 23 :: 24 :: 4 :: 25 :: 13 :: []) (fun g s' V => ∃ k : Nat, s' 13 = .int .i64 ((k : Nat) : Int) ∧ g = xs.length - k ∧ k ≤ xs.length ∧ ∀ (j : Nat) (hj : j < xs.length), j < k → xs[j] = ys[j]'(by omega)) xs.length ⟨0, rfl, rfl, Nat.zero_le _, by intros; omega⟩ ?_
  rintro _ sd w1 hS1 ⟨k, h13, rfl, hk, hpre⟩
  refine W.fix h13 ?_
  clear h13
  by_cases hkl : k < xs.length
  rotate_left
  · have e : xs = ys := List.ext_getElem hl fun j hj _ => hpre j hj (by omega)
    (refine jjB ?_; refine jjC ?_; refine jja rfl rfl (by omega) ?_; refine jz ?_; refine jjB ?_; refine jjK rfl ?_; refine jjE ?_; refine jjB ?_; refine jjC ?_; apply jJ; exact eB rfl; refine jz ?_; refine jjF ?_; refine jB rfl rfl ⟨inferInstance, ?_⟩)
    rw [decide_eq_true e]; exact rfl
  have hkl2 : k < ys.length := by omega
  obtain ⟨b1, o1, rfl, hA1⟩ := hx.place' (map_get hkl)
  obtain ⟨b2, o2, rfl, hA2⟩ := hy.place' (map_get hkl2)
  rw [Nat.mul_one] at hA1 hA2
  (refine jjB ?_; refine jjC ?_; refine jjZ rfl rfl (by omega) ?_; refine jz ?_; refine jjB ?_; refine jjJ rfl ?_; refine jjG ?_; refine jjB ?_; refine jjD ?_; refine jjB ?_; refine jjC ?_; apply jI; exact eI rfl; apply jJ; exact eI rfl; refine jz ?_; refine jjB ?_)
  refine W.draw (fun w' => Ext w w') ?_
  intro w2 hS2
  have hE2 : Ext w w2 := hS1.ext.trans hS2.ext
  (refine jjV [0, 1, 2, 3, 4, 5, 6, 7] ?_ ?_ ?_; (decide +kernel); (exact hE2); (((apply jjT; exact rfl; rintro w' hq; have := hq.toStep; apply jI; exact eS rfl; refine jz ?_; exact ⟨rfl, rfl⟩; apply jjT; exact rfl; rintro w' hq; have := hq.toStep; apply jI; exact eI rfl; refine jz ?_; exact ⟨rfl, rfl⟩; apply jjT; exact rfl; rintro w' hq; have := hq.toStep; refine jG rfl rfl rfl (by omega) ?_; refine jz ?_; exact ⟨rfl, rfl⟩; apply jjT; exact rfl; rintro w' hq; have := hq.toStep; refine jQ rfl rfl ?_; refine jz ?_; exact ⟨rfl, rfl⟩; apply jjT; exact rfl; rintro w' hq; have := hq.toStep; apply jI; exact eS rfl; refine jz ?_; exact ⟨rfl, rfl⟩; apply jjT; exact rfl; rintro w' hq; have := hq.toStep; apply jI; exact eI rfl; refine jz ?_; exact ⟨rfl, rfl⟩; apply jjT; exact rfl; rintro w' hq; have := hq.toStep; refine jG rfl rfl rfl (by omega) ?_; refine jz ?_; exact ⟨rfl, rfl⟩; apply jjT; exact rfl; rintro w' hq; have := hq.toStep; refine jQ rfl rfl ?_; refine jz ?_; exact ⟨rfl, rfl⟩; refine jjU ?_))))
  by_cases hkj : xs[k] = ys[k]
  · refine jjV [8] (by decide +kernel) hE2 (jjT (v := .bool false) rfl (fun w' q1 => ?_) (jjU ?_)); (refine Ops.neqS (a := xs[k]) (b := ys[k]) rfl rfl ?_; rw [decide_eq_false (by simp [hkj])]; refine jz ?_; exact ⟨rfl, rfl⟩)
    refine jjX (by decide +kernel) hE2 ?_
    (refine jjK rfl ?_; refine jjG ?_; refine jjC ?_; refine jY rfl rfl (by omega) ?_; apply jI; exact eI rfl; refine jz ?_)
    refine ⟨rfl, by ((refine Same.upd rfl ?_; refine Same.upd rfl ?_; refine Same.upd rfl ?_; refine Same.upd rfl ?_; refine Same.upd rfl ?_; refine Same.upd rfl ?_; refine Same.upd rfl ?_; refine Same.upd rfl ?_; refine Same.upd rfl ?_; refine Same.upd rfl ?_; refine Same.upd rfl ?_; refine Same.upd rfl ?_; refine Same.upd rfl ?_; refine Same.upd rfl ?_; refine Same.upd rfl ?_; exact Same.ovN)), xs.length - (k + 1), by omega, inferInstance, k + 1, congrArg (Value.int .i64) (by omega), rfl, by omega, fun j hj hjk => ?_⟩
    by_cases e : j = k
    · subst e; exact hkj
    · exact hpre j hj (by omega)
  · refine jjV [8] (by decide +kernel) hE2 (jjT (v := .bool true) rfl (fun w' q1 => ?_) (jjU ?_)); (refine Ops.neqS (a := xs[k]) (b := ys[k]) rfl rfl ?_; rw [decide_eq_true hkj]; refine jz ?_; exact ⟨rfl, rfl⟩)
    refine jjX (by decide +kernel) hE2 ?_
    (refine jjJ rfl ?_; refine jjB ?_; refine jjC ?_; apply jJ; exact eB rfl; refine jz ?_; refine jjF ?_; refine jB rfl rfl ⟨inferInstance, ?_⟩)
    rw [decide_eq_false (fun e => hkj (by simp only [e]))]; exact rfl
end Go.Proofs.YtpbkphaceljclaaGreatDoor

/- Plain law: what Make, All and Part answer. -/
namespace Go.Proofs.YtpbkphaceljclaaGreatDoor
open Go.RowKit

/-- The slip that a function hands back where there is none. -/
abbrev noSl : Slp := ((0, 0, 0), ⟨#[]⟩, ⟨#[]⟩, ⟨#[]⟩)
noncomputable def makeR (t : Tx) (wd side : Int) (p : Pl) : Slp × Int := if askE t wd side = 0 then (match makeF t side wd p with
  | some s => (s, 0)
  | none => (noSl, 12)) else (noSl, askE t wd side)
theorem makeR_no {t : Tx} {wd side : Int} {p : Pl} (h : askE t wd side ≠ 0) : makeR t wd side p = (noSl, askE t wd side) := by rw [makeR, if_neg h]
theorem makeR_none {t : Tx} {wd side : Int} {p : Pl} (h : askE t wd side = 0) (h2 : makeF t side wd p = none) : makeR t wd side p = (noSl, 12) := by rw [makeR, if_pos h, h2]
theorem makeR_some {t : Tx} {wd side : Int} {p : Pl} {s : Slp} (h : askE t wd side = 0) (h2 : makeF t side wd p = some s) : makeR t wd side p = (s, 0) := by rw [makeR, if_pos h, h2]
noncomputable def allR (t : Tx) (wd side : Int) : List Slp := if askE t wd side = 0 then allS t side wd else []
def inP (a b p : Pl) : Bool := !befP p a && !befP b p
noncomputable def partR (t : Tx) (wd side : Int) (a b : Pl) : List Slp × Int :=
  if askE t wd side ≠ 0 then ([], askE t wd side) else if makeF t side wd a = none ∨ makeF t side wd b = none then ([], 12) else if befP b a then ([], 2) else (((allP t t.length).filter (inP a b)).map (slP t side wd), 0)
theorem askE_zero {t : Tx} {wd side : Int} (h : askE t wd side = 0) : textB t = true ∧ cutB wd side = true := by
  unfold askE at h
  split at h
  · split at h
    · exact ⟨by assumption, by assumption⟩
    · omega
  · omega
theorem askE_in (t : Tx) (wd side : Int) : askE t wd side = 0 ∨ askE t wd side = 10 ∨ askE t wd side = 30 := by
  unfold askE
  split
  · split
    · exact .inl rfl
    · exact .inr (.inr rfl)
  · exact .inr (.inl rfl)
theorem chap_len {t : Tx} (h : textB t = true) {k : Nat} (hk : k < t.length) : (wsT t k).flatten.length ≤ 100 := by
  simp only [textB, Bool.and_eq_true, List.all_eq_true] at h
  have hm : t.getD k (0, []) ∈ t := by rw [List.getD_eq_getElem?_getD, List.getElem?_eq_getElem hk, Option.getD_some]; exact List.getElem_mem hk
  have h1 := h.1.2 _ hm
  simp only [chapB, Bool.and_eq_true, List.all_eq_true] at h1
  have h3 := flatW_len (x := wsT t k) (m := 10) fun y hy => by
    have h2 := h1.2 y hy
    simp only [lineB, inB, Bool.and_eq_true, decide_eq_true_eq] at h2
    omega
  have h4 : (wsT t k).length ≤ 10 := by
    have := h1.1.2
    simp only [inB, decide_eq_true_eq] at this
    show (t.getD k (0, [])).2.length ≤ 10
    omega
  have := Nat.mul_le_mul_right 10 h4
  omega
theorem allP_len {t : Tx} (h : textB t = true) : ∀ {n : Nat}, n ≤ t.length → (allP t n).length ≤ n * 100
  | 0, _ => by simp [allP]
  | n + 1, hn => by
    rw [allP_succ, List.length_append, runA_len]
    have h1 := allP_len h (n := n) (by omega)
    have h2 := chap_len h (k := n) (by omega)
    omega
theorem textB_six {t : Tx} (h : textB t = true) : t.length ≤ 6 := by
  simp only [textB, Bool.and_eq_true] at h
  have := h.1.1
  simp only [inB, decide_eq_true_eq] at this
  omega
theorem allS_len {t : Tx} {side wd : Int} (h : textB t = true) : (allS t side wd).length ≤ 600 := by
  rw [allS, List.length_map]
  have h1 := allP_len h (Nat.le_refl t.length)
  have h2 := textB_six h
  have := Nat.mul_le_mul_right 100 h2
  omega
theorem filter_slP {t : Tx} {side wd : Int} {f : Pl → Bool} (l : List Pl) : (l.map (slP t side wd)).filter (fun s => f s.1) = (l.filter f).map (slP t side wd) := by
  rw [List.filter_map]
  congr 2
  funext p
  simp [slP_at]
end Go.Proofs.YtpbkphaceljclaaGreatDoor

/- The reference: parts of a text, slips that are valid. -/
namespace Go.Proofs.YtpbkphaceljclaaGreatDoor
open Go.RowKit

end Go.Proofs.YtpbkphaceljclaaGreatDoor

/- The order of places: its three answers. -/
namespace Go.Proofs.YtpbkphaceljclaaGreatDoor
open Go.RowKit

theorem cmpP_self (a : Pl) : cmpP a a = 0 := by simp [cmpP, cmp1, orF]
theorem cmpP_lt {a b : Pl} (h : befP a b = true) : cmpP a b = -1 := by
  unfold cmpP orF orF orF orF cmp1
  rw [befP_iff] at h
  repeat' split
  all_goals omega
theorem cmpP_gt {a b : Pl} (h : befP a b = false) (hne : a ≠ b) : cmpP a b = 1 := by
  have h2 : befP b a = true := by
    rcases befP_tri a b with h3 | h3 | h3
    · rw [h] at h3; cases h3
    · exact absurd h3 hne
    · exact h3
  unfold cmpP orF orF orF orF cmp1
  rw [befP_iff] at h2
  repeat' split
  all_goals omega
end Go.Proofs.YtpbkphaceljclaaGreatDoor

/- The reference: the order of slips. -/
namespace Go.Proofs.YtpbkphaceljclaaGreatDoor
open Go.RowKit

end Go.Proofs.YtpbkphaceljclaaGreatDoor

/- slip: contexts. -/
namespace Go.Proofs.YtpbkphaceljclaaGreatDoor
open Go.RowKit

/-- A context of the word i. -/
abbrev encX (ws : List ByteArray) (i : Nat) (x : Cx) : Value := .agg #[.int .i64 (x.1 : Int), .int .i64 (i : Int), .int .i64 (x.2 : Int), .int .i64 (lenX ws x)]
abbrev encX1 (ws : List ByteArray) (i : Nat) (x : Cx) : List Value := [encX ws i x]
/-- The run at br, the word's number at bi. -/
structure RunF (bi br : Nat) (ws : List ByteArray) (wd side : Int) (i : Nat) (wa : Option Addr) (wc : Nat) (aa : Option Addr) (al ac : Nat) (w : World) : Prop where
  num : At w bi 0 [.int .i64 (i : Int)]
  run : At w br 0 [.int .i64 wd, .int .u8 side, .slice wa ws.length wc, .slice aa al ac]
  row : RowV w false 1 (.slice wa ws.length wc) (ws.map strV)
set_option maxHeartbeats 2000000 in
theorem contexts1_slip (bi br : Nat) (ws : List ByteArray) (wd side : Int) (i : Nat) (wa : Option Addr) (wc : Nat) (aa : Option Addr) (al ac : Nat) (hi : i < ws.length) (hsz : ∀ s ∈ ws, s.size ≤ 1000) (hn : ws.length ≤ 1000000) (hW : 0 ≤ wd ∧ wd ≤ 1000) :
    Iter Tryz.prog 133 [.pointer (some ⟨bi, 0, none⟩), .pointer (some ⟨br, 0, none⟩)] (ctxA ws i wd) (encX1 ws i) (RunF bi br ws wd side i wa wc aa al ac) := by
  intro l J Jx M w hJ hJx hF hM1 hM2 hY h0
  have hF0 := hF 0 w h0
  have := hF0.num
  have := hF0.run
  refine Calls.ofW (by simp) ?_
  (refine jjB ?_; refine jjC ?_; apply jJ; exact eI rfl; refine jz ?_; refine jjB ?_; refine jjC ?_; refine jN rfl rfl rfl ?_; apply jJ; exact eI rfl; refine jz ?_; refine jjD ?_)
  refine W.keep0 [(0, .func (.yield l) #[] #[]), (1, .pointer (some ⟨bi, 0, none⟩)), (2, .pointer (some ⟨br, 0, none⟩)), (4, .int .i64 (-1 : Int)), (5, .int .i64 (i : Int))] ⟨eF rfl, eP rfl, eP rfl, eI rfl, eI rfl, trivial⟩ fun s0 => ?_
  refine W.loopG (9 :: 10 :: 13 :: 14 :: 15 :: 16 :: 17 :: 18 :: 19 :: 20 :: 21 :: 4 :: 22 :: 23 :: 24 :: 25 :: 26 :: 27 :: 6 :: 28 :: 7 :: 31 :: 32 :: 33 :: 34 :: 35 :: 36 :: 37 :: 38 :: 39 :: 40 :: 41 :: 42 :: 43 :: 44 :: 45 :: 46 :: 47 :: 48 :: 49 :: 50 :: 51 :: 52 :: 53 :: 54 :: 55 :: 56 :: 57 :: 58 :: 59 :: 60 :: 29 :: 30 :: 11 :: 12 :: 5 :: []) (fun g s' w' => ∃ j : Nat, s' 5 = .int .i64 ((i : Int) - j) ∧ s' 4 = .int .i64 (lenX ws (i + 1 - j, i)) ∧ j ≤ i + 1 ∧ g = i + 1 - j ∧ J (ctxN ws i wd j).length w') (i + 1) ⟨0, congrArg (Value.int .i64) (by omega), congrArg (Value.int .i64) (by simp only [lenX, Nat.sub_zero]; omega), by omega, rfl, h0⟩ ?_
  rintro _ sd w' ⟨j, h5, h4, hj, rfl, hJj⟩
  have hFj := hF _ _ hJj
  have := hFj.num
  have := hFj.run
  by_cases hji : j ≤ i
  rotate_left
  · obtain rfl : j = i + 1 := by omega
    refine W.fix h5 (W.fix (d := 4) h4 ?_)
    clear h5 h4
    (refine jjB ?_; refine jjB ?_; refine jjC ?_; apply jI; exact eI rfl; refine jjg rfl rfl (by omega) ?_; refine jz ?_; refine jjK rfl ?_; refine jjE ?_; refine jA rfl ⟨⟨_, rfl⟩, ?_⟩)
    exact .inl hJj
  replace h5 := h5.trans (congrArg (Value.int .i64) (show (i : Int) - j = ((i - j : Nat) : Int) by omega))
  refine W.fix h5 (W.fix (d := 4) h4 ?_)
  clear h5 h4
  have hlt : i - j < ws.length := by omega
  have hlf := lenX_from (b := i) hlt
  rw [show i - j + 1 = i + 1 - j by omega] at hlf
  have hsj := hsz _ (List.getElem_mem hlt)
  have hbd := lenX_bound (ws := ws) (a := i - j) (b := i) hsz hn (by omega) hi
  have hbd0 : -1 ≤ lenX ws (i + 1 - j, i) := by simp only [lenX]; have := preW_mono (ws := ws) (a := i + 1 - j) (b := i + 1) (by omega) (by omega); omega
  have hcast : ((i - j : Nat) : Int) = (i : Int) - j := by omega
  have hRow : RowI w' (.slice wa ws.length wc) false 1 (ws.map strV) := ⟨hFj.row⟩
  generalize lenX ws (i + 1 - j, i) = L0 at *
  by_cases hLW : wd < lenX ws (i - j, i)
  · have hst := ctxN_stop (m := i + 1) hi hj hLW
    (refine jjB ?_; refine jjB ?_; refine jjC ?_; apply jI; exact eI rfl; refine jjf rfl rfl (by omega) ?_; refine jz ?_; refine jjJ rfl ?_; refine jjG ?_; refine jjB ?_; refine jjD ?_; refine jjB ?_; refine jjC ?_; apply jI; exact eI rfl; refine jm ?_; refine jn rfl ?_; refine jN rfl rfl rfl ?_; apply jI; exact eI rfl; refine jF rfl rfl rfl (map_get (by omega)) ?_; intro _ _ _; refine jQ rfl rfl ?_; refine ji rfl ?_; refine jY rfl rfl (by omega) ?_; refine jY rfl rfl (by omega) ?_; apply jJ; exact eI rfl; refine jz ?_; refine jjB ?_; refine jjB ?_; refine jjC ?_; apply jI; exact eI rfl; refine jm ?_; refine jn rfl ?_; refine jm ?_; refine jn rfl ?_; refine jN rfl rfl rfl ?_; refine jjd rfl rfl (by omega) ?_; refine jz ?_; refine jjJ rfl ?_; refine jjF ?_; refine jA rfl ⟨⟨_, rfl⟩, ?_⟩)
    exact .inl (by rw [ctxA, hst]; exact hJj)
  (refine jjB ?_; refine jjB ?_; refine jjC ?_; apply jI; exact eI rfl; refine jjf rfl rfl (by omega) ?_; refine jz ?_; refine jjJ rfl ?_; refine jjG ?_; refine jjB ?_; refine jjD ?_; refine jjB ?_; refine jjC ?_; apply jI; exact eI rfl; refine jm ?_; refine jn rfl ?_; refine jN rfl rfl rfl ?_; apply jI; exact eI rfl; refine jF rfl rfl rfl (map_get (by omega)) ?_; intro _ _ _; refine jQ rfl rfl ?_; refine ji rfl ?_; refine jY rfl rfl (by omega) ?_; refine jY rfl rfl (by omega) ?_; apply jJ; exact eI rfl; refine jz ?_; refine jjB ?_; refine jjB ?_; refine jjC ?_; apply jI; exact eI rfl; refine jm ?_; refine jn rfl ?_; refine jm ?_; refine jn rfl ?_; refine jN rfl rfl rfl ?_; refine jje rfl rfl (by omega) ?_; refine jz ?_; refine jjK rfl ?_; refine jjG ?_; refine jjB ?_; refine jjC ?_; apply jI; exact eI rfl; apply jJ; exact eI rfl; refine jz ?_; refine jjB ?_; refine jjC ?_; refine jN rfl rfl rfl ?_; apply jJ; exact eI rfl; refine jz ?_; refine jjD ?_)
  refine W.keep [(0, .func (.yield l) #[] #[]), (1, .pointer (some ⟨bi, 0, none⟩)), (2, .pointer (some ⟨br, 0, none⟩)), (4, .int .i64 (lenX ws (i - j, i))), (5, .int .i64 ((i - j : Nat) : Int)), (6, .int .i64 (lenX ws (i - j, i))), (7, .int .i64 (i : Int))] (D := (9 :: 10 :: 13 :: 14 :: 15 :: 16 :: 17 :: 18 :: 19 :: 20 :: 21 :: 4 :: 22 :: 23 :: 24 :: 25 :: 26 :: 27 :: 6 :: 28 :: 7 :: 31 :: 32 :: 33 :: 34 :: 35 :: 36 :: 37 :: 38 :: 39 :: 40 :: 41 :: 42 :: 43 :: 44 :: 45 :: 46 :: 47 :: 48 :: 49 :: 50 :: 51 :: 52 :: 53 :: 54 :: 55 :: 56 :: 57 :: 58 :: 59 :: 60 :: 29 :: 30 :: 11 :: 12 :: 5 :: [])) (sO := upds s0 _) (by ((refine Same.upd rfl ?_; refine Same.upd rfl ?_; refine Same.upd rfl ?_; refine Same.upd rfl ?_; refine Same.upd rfl ?_; refine Same.upd rfl ?_; refine Same.upd rfl ?_; refine Same.upd rfl ?_; refine Same.upd rfl ?_; refine Same.upd rfl ?_; refine Same.upd rfl ?_; refine Same.upd rfl ?_; refine Same.upd rfl ?_; refine Same.upd rfl ?_; refine Same.upd rfl ?_; refine Same.upd rfl ?_; refine Same.upd rfl ?_; refine Same.upd rfl ?_; refine Same.upd rfl ?_; refine Same.upd rfl ?_; refine Same.upd rfl ?_; refine Same.upd rfl ?_; refine Same.upd rfl ?_; exact Same.ovN))) ⟨eF rfl, eP rfl, eP rfl, congrArg (Value.int .i64) (by omega), eI rfl, congrArg (Value.int .i64) (by omega), eI rfl, trivial⟩ fun s1 hs1 => ?_
  refine W.loopG (31 :: 32 :: 33 :: 34 :: 35 :: 36 :: 37 :: 38 :: 39 :: 40 :: 41 :: 42 :: 43 :: 44 :: 45 :: 46 :: 47 :: 6 :: 48 :: 49 :: 50 :: 51 :: 52 :: 53 :: 54 :: 55 :: 56 :: 57 :: 58 :: 59 :: 60 :: 29 :: 30 :: 7 :: []) (fun g s' V => ∃ t : Nat, s' 7 = .int .i64 ((i + t : Nat) : Int) ∧ s' 6 = .int .i64 (lenX ws (i - j, i + (t - 1))) ∧ i + t ≤ ws.length ∧ g = ws.length - (i + t) ∧ J ((ctxN ws i wd j).length + (ctxTo ws i wd (i - j) t).length) V) (ws.length - i) ⟨0, rfl, rfl, by omega, rfl, hJj⟩ ?_
  rintro _ sd2 V ⟨t, h7, h6, ht, rfl, hJt⟩
  have hFt := hF _ _ hJt
  have := hFt.num
  have := hFt.run
  have hRow : RowI V (.slice wa ws.length wc) false 1 (ws.map strV) := ⟨hFt.row⟩
  by_cases ht0 : t = 0
  · have htl : i + t < ws.length := by omega
    replace h6 := h6.trans (congrArg (fun b => Value.int .i64 (lenX ws (i - j, b))) (show i + (t - 1) = i + t by omega))
    have hLt : lenX ws (i - j, i + t) ≤ wd := by rw [ht0]; exact Int.not_lt.1 hLW
    refine W.fix h7 (W.fix (d := 6) h6 ?_)
    clear h7 h6
    (refine jjB ?_; refine jjD ?_; refine jjB ?_; refine jjB ?_; refine jjC ?_; apply jI; exact eI rfl; refine jN rfl rfl rfl ?_; refine jje rfl rfl (by omega) ?_; refine jz ?_; refine jjK rfl ?_; refine jjG ?_; refine jjB ?_; refine jjB ?_; refine jjC ?_; apply jI; exact eI rfl; refine jm ?_; refine jn rfl ?_; refine jm ?_; refine jn rfl ?_; refine jN rfl rfl rfl ?_; refine jje rfl rfl (by omega) ?_; refine jz ?_; refine jjK rfl ?_; refine jjG ?_; refine jjB ?_; refine jjC ?_; apply jI; exact eF rfl; apply jI; exact eI rfl; refine jN rfl rfl rfl ?_; apply jI; exact eI rfl; apply jI; exact eI rfl)
    have hget := ctx_get (ws := ws) (i := i) (W := wd) (j := j) (t := t) hji htl (by omega)
    rw [List.length_append] at hget
    have e1 : ctxTo ws i wd (i - j) (t + 1) = ctxTo ws i wd (i - j) t ++ [(i - j, i + t)] := by rw [ctxTo_succ, if_pos (show okX ws wd (i - j, i + t) = true from decide_eq_true (by omega))]
    (refine jjS (cells := [.int .i64 ((i - j : Nat) : Int), .int .i64 (i : Int), .int .i64 ((i + t : Nat) : Int), .int .i64 (lenX ws (i - j, i + t))]) ?_ ?_; exact rfl)
    skip
    refine Ops.yield (hY _ _ _ hget hJt) rfl rfl ?_
    rintro e w9 (⟨rfl, hJ9, hFr⟩ | ⟨rfl, hJx9⟩)
    · refine ⟨_, rfl, ?_⟩
      (refine jp rfl ?_; refine jz ?_; refine jjK rfl ?_; refine jjG ?_; refine jjC ?_; apply jI; exact eI rfl; refine jY rfl rfl (by omega) ?_; apply jJ; exact eI rfl; refine jz ?_)
      refine ⟨rfl, by ((refine Same.upd rfl ?_; refine Same.upd rfl ?_; refine Same.upd rfl ?_; refine Same.upd rfl ?_; refine Same.upd rfl ?_; refine Same.upd rfl ?_; refine Same.upd rfl ?_; refine Same.upd rfl ?_; refine Same.upd rfl ?_; refine Same.upd rfl ?_; refine Same.upd rfl ?_; refine Same.upd rfl ?_; refine Same.upd rfl ?_; refine Same.upd rfl ?_; refine Same.upd rfl ?_; refine Same.upd rfl ?_; refine Same.upd rfl ?_; refine Same.upd rfl ?_; refine Same.upd rfl ?_; refine Same.upd rfl ?_; refine Same.upd rfl ?_; exact Same.ovN)), ws.length - (i + (t + 1)), by omega, t + 1, congrArg (Value.int .i64) (by omega), rfl, by omega, rfl, ?_⟩
      rw [e1, List.length_append]; exact hJ9
    · refine ⟨_, rfl, ?_⟩
      (refine jq rfl ?_; refine jz ?_; refine jjJ rfl ?_; refine jjF ?_; refine jA rfl ⟨⟨_, rfl⟩, ?_⟩)
      exact .inr ⟨_, (List.getElem?_eq_some_iff.1 hget).1, hJx9⟩
  by_cases hte : i + t = ws.length
  · have hsu := ctxN_succ ws i wd j
    rw [show ws.length - i = t by omega] at hsu
    refine W.fix h7 (W.fix (d := 6) h6 ?_)
    clear h7 h6
    (refine jjB ?_; refine jjD ?_; refine jjB ?_; refine jjB ?_; refine jjC ?_; apply jI; exact eI rfl; refine jN rfl rfl rfl ?_; refine jjd rfl rfl (by omega) ?_; refine jz ?_; refine jjJ rfl ?_; refine jjB ?_; refine jjB ?_; refine jjC ?_; apply jI; exact eI rfl; refine jm ?_; refine jn rfl ?_; refine jN rfl rfl rfl ?_; refine jh rfl ?_; refine jjh rfl rfl (by omega) ?_; refine jz ?_; refine jjJ rfl ?_; refine jjE ?_; refine jjC ?_; apply jI; exact eI rfl; refine jZ rfl rfl (by omega) ?_; apply jJ; exact eI rfl; refine jz ?_)
    refine ⟨rfl, by ((refine Same.upd rfl ?_; refine Same.upd rfl ?_; refine Same.upd rfl ?_; refine Same.upd rfl ?_; refine Same.upd rfl ?_; refine Same.upd rfl ?_; refine Same.upd rfl ?_; refine Same.upd rfl ?_; refine Same.upd rfl ?_; refine Same.upd rfl ?_; refine Same.upd rfl ?_; refine Same.upd rfl ?_; refine Same.upd rfl ?_; refine Same.ovN' rfl ?_; assumption)), i + 1 - (j + 1), by omega, j + 1, congrArg (Value.int .i64) (by omega), congrArg (fun a => Value.int .i64 (lenX ws (a, i))) (by omega), by omega, rfl, ?_⟩
    rw [hsu, List.length_append]; exact hJt
  have htl : i + t < ws.length := by omega
  have hlt2 := lenX_to (ws := ws) (a := i - j) (b := i + (t - 1)) (by omega)
  have hst := hsz _ (List.getElem_mem htl)
  have hbt := lenX_bound (ws := ws) (a := i - j) (b := i + (t - 1)) hsz hn (by omega) (by omega)
  have hbt2 := lenX_bound (ws := ws) (a := i - j) (b := i + t) hsz hn (by omega) htl
  have hLe : lenX ws (i - j, i + t) = lenX ws (i - j, i + (t - 1)) + (ws[i + t].size + 1) := by
    have e : i + (t - 1) + 1 = i + t := by omega
    simp only [e] at hlt2
    exact hlt2
  refine W.fix h7 (W.fix (d := 6) h6 ?_)
  clear h7 h6
  generalize hL1 : lenX ws (i - j, i + (t - 1)) = L1 at *
  by_cases hLt : lenX ws (i - j, i + t) ≤ wd
  · (refine jjB ?_; refine jjD ?_; refine jjB ?_; refine jjB ?_; refine jjC ?_; apply jI; exact eI rfl; refine jN rfl rfl rfl ?_; refine jjd rfl rfl (by omega) ?_; refine jz ?_; refine jjJ rfl ?_; refine jjB ?_; refine jjB ?_; refine jjC ?_; apply jI; exact eI rfl; refine jm ?_; refine jn rfl ?_; refine jN rfl rfl rfl ?_; refine jh rfl ?_; refine jji rfl rfl (by omega) ?_; refine jz ?_; refine jjK rfl ?_; refine jjG ?_; refine jjC ?_; apply jI; exact eI rfl; refine jm ?_; refine jn rfl ?_; refine jN rfl rfl rfl ?_; apply jI; exact eI rfl; refine jF rfl rfl rfl (map_get (by omega)) ?_; intro _ _ _; refine jQ rfl rfl ?_; refine ji rfl ?_; refine jY rfl rfl (by omega) ?_; refine jY rfl rfl (by omega) ?_; apply jJ; exact eI rfl; refine jz ?_; refine jjB ?_; refine jjB ?_; refine jjC ?_; apply jI; exact eI rfl; refine jm ?_; refine jn rfl ?_; refine jm ?_; refine jn rfl ?_; refine jN rfl rfl rfl ?_; refine jje rfl rfl (by omega) ?_; refine jz ?_; refine jjK rfl ?_; refine jjG ?_; refine jjB ?_; refine jjC ?_; apply jI; exact eF rfl; apply jI; exact eI rfl; refine jN rfl rfl rfl ?_; apply jI; exact eI rfl; apply jI; exact eI rfl)
    have hget := ctx_get (ws := ws) (i := i) (W := wd) (j := j) (t := t) hji htl (by omega)
    rw [List.length_append] at hget
    have e1 : ctxTo ws i wd (i - j) (t + 1) = ctxTo ws i wd (i - j) t ++ [(i - j, i + t)] := by rw [ctxTo_succ, if_pos (show okX ws wd (i - j, i + t) = true from decide_eq_true (by omega))]
    have hy := hY _ _ _ hget hJt
    simp only [encX1, encX, hLe] at hy
    (refine jjS (cells := [.int .i64 ((i - j : Nat) : Int), .int .i64 (i : Int), .int .i64 ((i + t : Nat) : Int), .int .i64 (L1 + (ws[i + t].size + 1))]) ?_ ?_; exact rfl)
    skip
    refine Ops.yield hy rfl rfl ?_
    rintro e w9 (⟨rfl, hJ9, hFr⟩ | ⟨rfl, hJx9⟩)
    · refine ⟨_, rfl, ?_⟩
      (refine jp rfl ?_; refine jz ?_; refine jjK rfl ?_; refine jjG ?_; refine jjC ?_; apply jI; exact eI rfl; refine jY rfl rfl (by omega) ?_; apply jJ; exact eI rfl; refine jz ?_)
      refine ⟨rfl, by ((refine Same.upd rfl ?_; refine Same.upd rfl ?_; refine Same.upd rfl ?_; refine Same.upd rfl ?_; refine Same.upd rfl ?_; refine Same.upd rfl ?_; refine Same.upd rfl ?_; refine Same.upd rfl ?_; refine Same.upd rfl ?_; refine Same.upd rfl ?_; refine Same.upd rfl ?_; refine Same.upd rfl ?_; refine Same.upd rfl ?_; refine Same.upd rfl ?_; refine Same.upd rfl ?_; refine Same.upd rfl ?_; refine Same.upd rfl ?_; refine Same.upd rfl ?_; refine Same.upd rfl ?_; refine Same.upd rfl ?_; refine Same.upd rfl ?_; refine Same.upd rfl ?_; refine Same.upd rfl ?_; refine Same.upd rfl ?_; refine Same.upd rfl ?_; refine Same.upd rfl ?_; refine Same.upd rfl ?_; refine Same.upd rfl ?_; refine Same.upd rfl ?_; refine Same.upd rfl ?_; refine Same.upd rfl ?_; refine Same.upd rfl ?_; refine Same.upd rfl ?_; refine Same.upd rfl ?_; refine Same.upd rfl ?_; refine Same.upd rfl ?_; exact Same.ovN)), ws.length - (i + (t + 1)), by omega, t + 1, congrArg (Value.int .i64) (by omega), congrArg (Value.int .i64) (by rw [Nat.add_sub_cancel]; omega), by omega, rfl, ?_⟩
      rw [e1, List.length_append]; exact hJ9
    · refine ⟨_, rfl, ?_⟩
      (refine jq rfl ?_; refine jz ?_; refine jjJ rfl ?_; refine jjF ?_; refine jA rfl ⟨⟨_, rfl⟩, ?_⟩)
      exact .inr ⟨_, (List.getElem?_eq_some_iff.1 hget).1, hJx9⟩
  · have hsu := ctxN_succ ws i wd j
    have hsp := ctxTo_stop (ws := ws) (i := i) (W := wd) (a := i - j) (by omega) (t := t) (m := ws.length - i) (by omega) (by omega) (by omega)
    (refine jjB ?_; refine jjD ?_; refine jjB ?_; refine jjB ?_; refine jjC ?_; apply jI; exact eI rfl; refine jN rfl rfl rfl ?_; refine jjd rfl rfl (by omega) ?_; refine jz ?_; refine jjJ rfl ?_; refine jjB ?_; refine jjB ?_; refine jjC ?_; apply jI; exact eI rfl; refine jm ?_; refine jn rfl ?_; refine jN rfl rfl rfl ?_; refine jh rfl ?_; refine jji rfl rfl (by omega) ?_; refine jz ?_; refine jjK rfl ?_; refine jjG ?_; refine jjC ?_; apply jI; exact eI rfl; refine jm ?_; refine jn rfl ?_; refine jN rfl rfl rfl ?_; apply jI; exact eI rfl; refine jF rfl rfl rfl (map_get (by omega)) ?_; intro _ _ _; refine jQ rfl rfl ?_; refine ji rfl ?_; refine jY rfl rfl (by omega) ?_; refine jY rfl rfl (by omega) ?_; apply jJ; exact eI rfl; refine jz ?_; refine jjB ?_; refine jjB ?_; refine jjC ?_; apply jI; exact eI rfl; refine jm ?_; refine jn rfl ?_; refine jm ?_; refine jn rfl ?_; refine jN rfl rfl rfl ?_; refine jjd rfl rfl (by omega) ?_; refine jz ?_; refine jjJ rfl ?_; refine jjE ?_; refine jjC ?_; apply jI; exact eI rfl; refine jZ rfl rfl (by omega) ?_; apply jJ; exact eI rfl; refine jz ?_)
    refine ⟨rfl, by ((refine Same.upd rfl ?_; refine Same.upd rfl ?_; refine Same.upd rfl ?_; refine Same.upd rfl ?_; refine Same.upd rfl ?_; refine Same.upd rfl ?_; refine Same.upd rfl ?_; refine Same.upd rfl ?_; refine Same.upd rfl ?_; refine Same.upd rfl ?_; refine Same.upd rfl ?_; refine Same.upd rfl ?_; refine Same.upd rfl ?_; refine Same.upd rfl ?_; refine Same.upd rfl ?_; refine Same.upd rfl ?_; refine Same.upd rfl ?_; refine Same.upd rfl ?_; refine Same.upd rfl ?_; refine Same.upd rfl ?_; refine Same.upd rfl ?_; refine Same.upd rfl ?_; refine Same.upd rfl ?_; refine Same.upd rfl ?_; refine Same.upd rfl ?_; refine Same.upd rfl ?_; refine Same.upd rfl ?_; refine Same.upd rfl ?_; refine Same.ovN' rfl ?_; assumption)), i + 1 - (j + 1), by omega, j + 1, congrArg (Value.int .i64) (by omega), congrArg (fun a => Value.int .i64 (lenX ws (a, i))) (by omega), by omega, rfl, ?_⟩
    rw [hsu, hsp, List.length_append]; exact hJt
theorem contexts_slip (ws : List ByteArray) (wd side : Int) (i : Nat) (wa : Option Addr) (wc : Nat) (aa : Option Addr) (al ac : Nat) (w : World) : Ct Tryz.prog 119 [.agg #[.int .i64 wd, .int .u8 side, .slice wa ws.length wc, .slice aa al ac], .int .i64 (i : Int)] w fun v w' =>
    ∃ bi br, v = .func (.func 133) #[] ([.pointer (some ⟨bi, 0, none⟩), .pointer (some ⟨br, 0, none⟩)] : List Value).toArray ∧ At w' bi 0 [.int .i64 (i : Int)] ∧ At w' br 0 [.int .i64 wd, .int .u8 side, .slice wa ws.length wc, .slice aa al ac] := by
  refine Ct.ofW (by simp) ?_
  (refine jjB ?_; refine jjC ?_)
  (refine jy rfl ?_; intro br w_br hb_br hs_br hS_br hk_br; have hA_br := At.ofBlock hk_br)
  skip
  (refine jy rfl ?_; intro bi w_bi hb_bi hs_bi hS_bi hk_bi; have hA_bi := At.ofBlock hk_bi)
  (apply jJ; exact rfl; refine jz ?_; refine jjB ?_; refine jjC ?_; refine jv ?_; apply jJ; exact eF rfl; refine jz ?_; refine jjF ?_; refine jB rfl rfl ⟨inferInstance, ?_⟩)
  exact ⟨bi, br, rfl, inferInstance, inferInstance⟩
end Go.Proofs.YtpbkphaceljclaaGreatDoor

/- slip: the order of contexts. -/
namespace Go.Proofs.YtpbkphaceljclaaGreatDoor
open Go.RowKit

/-- A context of a short run. -/
abbrev InX (n i : Nat) (x : Cx) : Prop := x.1 ≤ i ∧ i ≤ x.2 ∧ x.2 < n ∧ n ≤ 1000000
theorem unE_bound {n i : Nat} {x : Cx} (h : InX n i x) : 0 ≤ unE i x ∧ unE i x ≤ 2000000 := by unfold unE; omega
theorem uneven_slip (ws : List ByteArray) (i : Nat) (x : Cx) (w : World) (hx : InX ws.length i x) : Ct Tryz.prog 198 [encX ws i x] w fun v _ => v = .int .i64 (unE i x) := by
  refine Ct.ofW (by simp) ?_
  (refine jjB ?_; refine jjC ?_)
  (refine jy rfl ?_; intro b1 w_b1 hb_b1 hs_b1 hS_b1 hk_b1; have hA_b1 := At.ofBlock hk_b1)
  (apply jJ; exact eI rfl; refine jz ?_; refine jjB ?_; refine jjC ?_; refine jm ?_; refine jn rfl ?_; refine jN rfl rfl rfl ?_; refine jm ?_; refine jn rfl ?_; refine jN rfl rfl rfl ?_; refine jZ rfl rfl (by omega) ?_; refine jm ?_; refine jn rfl ?_; refine jN rfl rfl rfl ?_; refine jm ?_; refine jn rfl ?_; refine jN rfl rfl rfl ?_; refine jZ rfl rfl (by omega) ?_; refine jZ rfl rfl (by omega) ?_; apply jJ; exact eI rfl; refine jz ?_; refine jjB ?_; refine jjC ?_; apply jI; exact eI rfl; apply jI; exact eI rfl)
  refine jjm rfl (by omega) ?_
  (refine jk rfl rfl ?_; apply jJ; exact eI rfl; refine jz ?_; refine jjF ?_; refine jB rfl rfl ⟨inferInstance, ?_⟩)
  exact rfl
theorem sides1_slip (ws : List ByteArray) (i : Nat) (a b : Cx) (w : World) (ha : InX ws.length i a) (hb : InX ws.length i b) : Ct Tryz.prog 201 [encX ws i a, encX ws i b] w fun v _ => v = .int .i64 ((a.1 : Int) - b.1) := by
  refine Ct.ofW (by simp) ?_
  (refine jjB ?_; refine jjC ?_)
  (refine jy rfl ?_; intro b1 w_b1 hb_b1 hs_b1 hS_b1 hk_b1; have hA_b1 := At.ofBlock hk_b1)
  skip
  (refine jy rfl ?_; intro b2 w_b2 hb_b2 hs_b2 hS_b2 hk_b2; have hA_b2 := At.ofBlock hk_b2)
  (apply jJ; exact eI rfl; refine jz ?_; refine jjB ?_; refine jjC ?_; refine jm ?_; refine jn rfl ?_; refine jN rfl rfl rfl ?_; refine jm ?_; refine jn rfl ?_; refine jN rfl rfl rfl ?_; refine jZ rfl rfl (by omega) ?_; apply jJ; exact eI rfl; refine jz ?_; refine jjF ?_; refine jB rfl rfl ⟨inferInstance, ?_⟩)
  exact rfl
theorem sides2_slip (ws : List ByteArray) (i : Nat) (a b : Cx) (w : World) (ha : InX ws.length i a) (hb : InX ws.length i b) : Ct Tryz.prog 202 [encX ws i a, encX ws i b] w fun v _ => v = .int .i64 ((b.1 : Int) - a.1) := by
  refine Ct.ofW (by simp) ?_
  (refine jjB ?_; refine jjC ?_)
  (refine jy rfl ?_; intro b1 w_b1 hb_b1 hs_b1 hS_b1 hk_b1; have hA_b1 := At.ofBlock hk_b1)
  skip
  (refine jy rfl ?_; intro b2 w_b2 hb_b2 hs_b2 hS_b2 hk_b2; have hA_b2 := At.ofBlock hk_b2)
  (apply jJ; exact eI rfl; refine jz ?_; refine jjB ?_; refine jjC ?_; refine jm ?_; refine jn rfl ?_; refine jN rfl rfl rfl ?_; refine jm ?_; refine jn rfl ?_; refine jN rfl rfl rfl ?_; refine jZ rfl rfl (by omega) ?_; apply jJ; exact eI rfl; refine jz ?_; refine jjF ?_; refine jB rfl rfl ⟨inferInstance, ?_⟩)
  exact rfl
theorem sides3_slip (ws : List ByteArray) (i : Nat) (a b : Cx) (w : World) (ha : InX ws.length i a) (hb : InX ws.length i b) : Ct Tryz.prog 203 [encX ws i a, encX ws i b] w fun v _ => v = .int .i64 (orF [unE i a - unE i b, (b.1 : Int) - a.1]) := by
  have u1 := unE_bound ha
  have u2 := unE_bound hb
  refine Ct.ofW (by simp) ?_
  (refine jjB ?_; refine jjC ?_)
  (refine jy rfl ?_; intro b1 w_b1 hb_b1 hs_b1 hS_b1 hk_b1; have hA_b1 := At.ofBlock hk_b1)
  skip
  (refine jy rfl ?_; intro b2 w_b2 hb_b2 hs_b2 hS_b2 hk_b2; have hA_b2 := At.ofBlock hk_b2)
  (apply jJ; exact eI rfl; refine jz ?_; refine jjB ?_)
  refine W.draw (fun w' => Ext w_b2 w') ?_
  intro w1 hS1
  (refine jjV [0, 2, 5, 6, 7, 8, 9] ?_ ?_ ?_; (decide +kernel); (exact hS1.ext); (((apply jjT; exact rfl; rintro w' hq; have := hq.toStep; refine jO rfl rfl rfl rfl ?_; refine jz ?_; exact ⟨rfl, rfl⟩; apply jjT; exact rfl; rintro w' hq; have := hq.toStep; refine jO rfl rfl rfl rfl ?_; refine jz ?_; exact ⟨rfl, rfl⟩; apply jjT; exact rfl; rintro w' hq; have := hq.toStep; refine jm ?_; refine jn rfl ?_; refine jz ?_; exact ⟨rfl, rfl⟩; apply jjT; exact rfl; rintro w' hq; have := hq.toStep; refine jN rfl rfl rfl ?_; refine jz ?_; exact ⟨rfl, rfl⟩; apply jjT; exact rfl; rintro w' hq; have := hq.toStep; refine jm ?_; refine jn rfl ?_; refine jz ?_; exact ⟨rfl, rfl⟩; apply jjT; exact rfl; rintro w' hq; have := hq.toStep; refine jN rfl rfl rfl ?_; refine jz ?_; exact ⟨rfl, rfl⟩; apply jjT; exact rfl; rintro w' hq; have := hq.toStep; refine jZ rfl rfl (by omega) ?_; refine jz ?_; exact ⟨rfl, rfl⟩; refine jjU ?_))))
  (apply jjW 1; (decide +kernel); exact rfl; (exact hS1.ext))
  refine jjQ (uneven_slip ws i a _ ha) rfl rfl ?_
  rintro _ w2 hS2 rfl
  refine jz ?_
  (apply jjW 3; (decide +kernel); exact rfl; (exact hS1.ext.trans hS2.ext))
  refine jjQ (uneven_slip ws i b _ hb) rfl rfl ?_
  rintro _ w3 hS3 rfl
  refine jz ?_
  have hE3 := (hS1.ext.trans hS2.ext).trans hS3.ext
  (refine jjV [4] ?_ ?_ ?_; (decide +kernel); (exact hE3); (((apply jjT; exact rfl; rintro w' hq; have := hq.toStep; refine jZ rfl rfl (by omega) ?_; refine jz ?_; exact ⟨rfl, rfl⟩; refine jjU ?_))))
  (apply jjW 10; (decide +kernel); exact rfl; (exact hE3))
  refine Ops.buildSlice2 (u := .int .i64 (unE i a - unE i b)) (v := .int .i64 ((b.1 : Int) - a.1)) rfl rfl rfl rfl rfl ?_
  intro b9 w4 hb4 hs4 hS4 hk4
  refine jz ?_
  have hE4 := hE3.trans hS4.ext
  have hr4 : RowV w4 false 1 (.slice (some ⟨b9, 0, none⟩) 2 2) ([unE i a - unE i b, (b.1 : Int) - a.1].map intV) := hk4.row (fun x hx => by simp at hx; rcases hx with rfl | rfl <;> rfl) (by simp)
  (apply jjW 11; (decide +kernel); exact rfl; (exact hE4))
  refine jjQ (Or_int _ _ _ [unE i a - unE i b, (b.1 : Int) - a.1] _ rfl hr4) rfl rfl ?_
  rintro _ w5 hS5 rfl
  refine jz ?_
  (apply jjW 12; (decide +kernel); exact rfl; (exact hE4.trans hS5.ext))
  (apply jJ; exact eI rfl; refine jz ?_)
  refine jjX (by decide +kernel) (hE4.trans hS5.ext) ?_
  (refine jjF ?_; refine jB rfl rfl ⟨inferInstance, ?_⟩)
  exact rfl

/-- The table of sides. -/
abbrev sidesC : List Value := [.nilFunc, .func (.func 201) #[] ([] : List Value).toArray, .func (.func 202) #[] ([] : List Value).toArray, .func (.func 203) #[] ([] : List Value).toArray]
set_option maxHeartbeats 2000000 in
theorem slip1_slip (br : Nat) (ws : List ByteArray) (wd side : Int) (i : Nat) (wv av : Value) (a b : Cx) (w : World) [hr : At w br 0 [.int .i64 wd, .int .u8 side, wv, av]] [hg : At w 0 0 sidesC] (hs : 1 ≤ side ∧ side ≤ 3) (ha : InX ws.length i a) (hb : InX ws.length i b)
    (la : 0 ≤ lenX ws a ∧ lenX ws a ≤ 1001000000) (lb : 0 ≤ lenX ws b ∧ lenX ws b ≤ 1001000000) : Ct Tryz.prog 120 [encX ws i a, encX ws i b, .pointer (some ⟨br, 0, none⟩)] w fun v _ => v = .int .i64 (ordI ws side i a b) := by
  have hsd : side = 1 ∨ side = 2 ∨ side = 3 := by omega
  rcases hsd with rfl | rfl | rfl
  · refine Ct.ofW (by simp) ?_
    (refine jjB ?_; refine jjC ?_)
    (refine jy rfl ?_; intro b3 w_b3 hb_b3 hs_b3 hS_b3 hk_b3; have hA_b3 := At.ofBlock hk_b3)
    skip
    (refine jy rfl ?_; intro b4 w_b4 hb_b4 hs_b4 hS_b4 hk_b4; have hA_b4 := At.ofBlock hk_b4)
    (apply jJ; exact eI rfl; refine jz ?_; refine jjB ?_)
    refine W.draw (fun w' => Ext w_b4 w') ?_
    intro w1 hS1
    (refine jjV [0, 1, 2, 3, 4, 5, 6, 7] ?_ ?_ ?_; (decide +kernel); (exact hS1.ext); (((apply jjT; exact rfl; rintro w' hq; have := hq.toStep; refine jm ?_; refine jn rfl ?_; refine jz ?_; exact ⟨rfl, rfl⟩; apply jjT; exact rfl; rintro w' hq; have := hq.toStep; refine jN rfl rfl rfl ?_; refine jz ?_; exact ⟨rfl, rfl⟩; apply jjT; exact rfl; rintro w' hq; have := hq.toStep; refine jm ?_; refine jn rfl ?_; refine jz ?_; exact ⟨rfl, rfl⟩; apply jjT; exact rfl; rintro w' hq; have := hq.toStep; refine jN rfl rfl rfl ?_; refine jz ?_; exact ⟨rfl, rfl⟩; apply jjT; exact rfl; rintro w' hq; have := hq.toStep; refine jZ rfl rfl (by omega) ?_; refine jz ?_; exact ⟨rfl, rfl⟩; apply jjT; exact rfl; rintro w' hq; have := hq.toStep; refine jm ?_; refine jn rfl ?_; refine jz ?_; exact ⟨rfl, rfl⟩; apply jjT; exact rfl; rintro w' hq; have := hq.toStep; refine jm ?_; refine jn rfl ?_; refine jz ?_; exact ⟨rfl, rfl⟩; apply jjT; exact rfl; rintro w' hq; have := hq.toStep; refine jN rfl rfl rfl ?_; refine jz ?_; exact ⟨rfl, rfl⟩; refine jjU ?_))))
    refine jjV [8] (by decide +kernel) hS1.ext (jjT (v := .pointer (some ⟨0, 0 + 1, none⟩)) rfl (fun w' q1 => ?_) (jjU ?_)); (refine Ops.indexAP (j := 1) rfl rfl rfl rfl ?_; refine jz ?_; exact ⟨rfl, rfl⟩)
    (refine jjV [9, 10, 11, 12] ?_ ?_ ?_; (decide +kernel); (exact hS1.ext); (((apply jjT; exact rfl; rintro w' hq; have := hq.toStep; refine jm ?_; refine jn rfl ?_; refine jz ?_; exact ⟨rfl, rfl⟩; apply jjT; exact rfl; rintro w' hq; have := hq.toStep; refine jN rfl rfl rfl ?_; refine jz ?_; exact ⟨rfl, rfl⟩; apply jjT; exact rfl; rintro w' hq; have := hq.toStep; refine jO rfl rfl rfl rfl ?_; refine jz ?_; exact ⟨rfl, rfl⟩; apply jjT; exact rfl; rintro w' hq; have := hq.toStep; refine jO rfl rfl rfl rfl ?_; refine jz ?_; exact ⟨rfl, rfl⟩; refine jjU ?_))))
    (apply jjW 13; (decide +kernel); exact rfl; (exact hS1.ext))
    refine jjQ (sides1_slip ws i a b _ ha hb) rfl rfl ?_
    rintro _ w2 hS2 rfl
    refine jz ?_
    (apply jjW 14; (decide +kernel); exact rfl; (exact hS1.ext.trans hS2.ext))
    refine Ops.buildSlice2 (u := .int .i64 (lenX ws b - lenX ws a)) (v := .int .i64 ((a.1 : Int) - b.1)) rfl rfl rfl rfl rfl ?_
    intro b9 w3 hb3 hs3 hS3 hk3
    refine jz ?_
    have hE3 := (hS1.ext.trans hS2.ext).trans hS3.ext
    have hr3 : RowV w3 false 1 (.slice (some ⟨b9, 0, none⟩) 2 2) ([lenX ws b - lenX ws a, (a.1 : Int) - b.1].map intV) := hk3.row (fun x hx => by simp at hx; rcases hx with rfl | rfl <;> rfl) (by simp)
    (apply jjW 15; (decide +kernel); exact rfl; (exact hE3))
    refine jjQ (Or_int _ _ _ [lenX ws b - lenX ws a, (a.1 : Int) - b.1] _ rfl hr3) rfl rfl ?_
    rintro _ w4 hS4 rfl
    refine jz ?_
    (apply jjW 16; (decide +kernel); exact rfl; (exact hE3.trans hS4.ext))
    (apply jJ; exact eI rfl; refine jz ?_)
    refine jjX (by decide +kernel) (hE3.trans hS4.ext) ?_
    (refine jjF ?_; refine jB rfl rfl ⟨inferInstance, ?_⟩)
    exact rfl
  · refine Ct.ofW (by simp) ?_
    (refine jjB ?_; refine jjC ?_)
    (refine jy rfl ?_; intro b3 w_b3 hb_b3 hs_b3 hS_b3 hk_b3; have hA_b3 := At.ofBlock hk_b3)
    skip
    (refine jy rfl ?_; intro b4 w_b4 hb_b4 hs_b4 hS_b4 hk_b4; have hA_b4 := At.ofBlock hk_b4)
    (apply jJ; exact eI rfl; refine jz ?_; refine jjB ?_)
    refine W.draw (fun w' => Ext w_b4 w') ?_
    intro w1 hS1
    (refine jjV [0, 1, 2, 3, 4, 5, 6, 7] ?_ ?_ ?_; (decide +kernel); (exact hS1.ext); (((apply jjT; exact rfl; rintro w' hq; have := hq.toStep; refine jm ?_; refine jn rfl ?_; refine jz ?_; exact ⟨rfl, rfl⟩; apply jjT; exact rfl; rintro w' hq; have := hq.toStep; refine jN rfl rfl rfl ?_; refine jz ?_; exact ⟨rfl, rfl⟩; apply jjT; exact rfl; rintro w' hq; have := hq.toStep; refine jm ?_; refine jn rfl ?_; refine jz ?_; exact ⟨rfl, rfl⟩; apply jjT; exact rfl; rintro w' hq; have := hq.toStep; refine jN rfl rfl rfl ?_; refine jz ?_; exact ⟨rfl, rfl⟩; apply jjT; exact rfl; rintro w' hq; have := hq.toStep; refine jZ rfl rfl (by omega) ?_; refine jz ?_; exact ⟨rfl, rfl⟩; apply jjT; exact rfl; rintro w' hq; have := hq.toStep; refine jm ?_; refine jn rfl ?_; refine jz ?_; exact ⟨rfl, rfl⟩; apply jjT; exact rfl; rintro w' hq; have := hq.toStep; refine jm ?_; refine jn rfl ?_; refine jz ?_; exact ⟨rfl, rfl⟩; apply jjT; exact rfl; rintro w' hq; have := hq.toStep; refine jN rfl rfl rfl ?_; refine jz ?_; exact ⟨rfl, rfl⟩; refine jjU ?_))))
    refine jjV [8] (by decide +kernel) hS1.ext (jjT (v := .pointer (some ⟨0, 0 + 2, none⟩)) rfl (fun w' q1 => ?_) (jjU ?_)); (refine Ops.indexAP (j := 2) rfl rfl rfl rfl ?_; refine jz ?_; exact ⟨rfl, rfl⟩)
    (refine jjV [9, 10, 11, 12] ?_ ?_ ?_; (decide +kernel); (exact hS1.ext); (((apply jjT; exact rfl; rintro w' hq; have := hq.toStep; refine jm ?_; refine jn rfl ?_; refine jz ?_; exact ⟨rfl, rfl⟩; apply jjT; exact rfl; rintro w' hq; have := hq.toStep; refine jN rfl rfl rfl ?_; refine jz ?_; exact ⟨rfl, rfl⟩; apply jjT; exact rfl; rintro w' hq; have := hq.toStep; refine jO rfl rfl rfl rfl ?_; refine jz ?_; exact ⟨rfl, rfl⟩; apply jjT; exact rfl; rintro w' hq; have := hq.toStep; refine jO rfl rfl rfl rfl ?_; refine jz ?_; exact ⟨rfl, rfl⟩; refine jjU ?_))))
    (apply jjW 13; (decide +kernel); exact rfl; (exact hS1.ext))
    refine jjQ (sides2_slip ws i a b _ ha hb) rfl rfl ?_
    rintro _ w2 hS2 rfl
    refine jz ?_
    (apply jjW 14; (decide +kernel); exact rfl; (exact hS1.ext.trans hS2.ext))
    refine Ops.buildSlice2 (u := .int .i64 (lenX ws b - lenX ws a)) (v := .int .i64 ((b.1 : Int) - a.1)) rfl rfl rfl rfl rfl ?_
    intro b9 w3 hb3 hs3 hS3 hk3
    refine jz ?_
    have hE3 := (hS1.ext.trans hS2.ext).trans hS3.ext
    have hr3 : RowV w3 false 1 (.slice (some ⟨b9, 0, none⟩) 2 2) ([lenX ws b - lenX ws a, (b.1 : Int) - a.1].map intV) := hk3.row (fun x hx => by simp at hx; rcases hx with rfl | rfl <;> rfl) (by simp)
    (apply jjW 15; (decide +kernel); exact rfl; (exact hE3))
    refine jjQ (Or_int _ _ _ [lenX ws b - lenX ws a, (b.1 : Int) - a.1] _ rfl hr3) rfl rfl ?_
    rintro _ w4 hS4 rfl
    refine jz ?_
    (apply jjW 16; (decide +kernel); exact rfl; (exact hE3.trans hS4.ext))
    (apply jJ; exact eI rfl; refine jz ?_)
    refine jjX (by decide +kernel) (hE3.trans hS4.ext) ?_
    (refine jjF ?_; refine jB rfl rfl ⟨inferInstance, ?_⟩)
    exact rfl
  · refine Ct.ofW (by simp) ?_
    (refine jjB ?_; refine jjC ?_)
    (refine jy rfl ?_; intro b3 w_b3 hb_b3 hs_b3 hS_b3 hk_b3; have hA_b3 := At.ofBlock hk_b3)
    skip
    (refine jy rfl ?_; intro b4 w_b4 hb_b4 hs_b4 hS_b4 hk_b4; have hA_b4 := At.ofBlock hk_b4)
    (apply jJ; exact eI rfl; refine jz ?_; refine jjB ?_)
    refine W.draw (fun w' => Ext w_b4 w') ?_
    intro w1 hS1
    (refine jjV [0, 1, 2, 3, 4, 5, 6, 7] ?_ ?_ ?_; (decide +kernel); (exact hS1.ext); (((apply jjT; exact rfl; rintro w' hq; have := hq.toStep; refine jm ?_; refine jn rfl ?_; refine jz ?_; exact ⟨rfl, rfl⟩; apply jjT; exact rfl; rintro w' hq; have := hq.toStep; refine jN rfl rfl rfl ?_; refine jz ?_; exact ⟨rfl, rfl⟩; apply jjT; exact rfl; rintro w' hq; have := hq.toStep; refine jm ?_; refine jn rfl ?_; refine jz ?_; exact ⟨rfl, rfl⟩; apply jjT; exact rfl; rintro w' hq; have := hq.toStep; refine jN rfl rfl rfl ?_; refine jz ?_; exact ⟨rfl, rfl⟩; apply jjT; exact rfl; rintro w' hq; have := hq.toStep; refine jZ rfl rfl (by omega) ?_; refine jz ?_; exact ⟨rfl, rfl⟩; apply jjT; exact rfl; rintro w' hq; have := hq.toStep; refine jm ?_; refine jn rfl ?_; refine jz ?_; exact ⟨rfl, rfl⟩; apply jjT; exact rfl; rintro w' hq; have := hq.toStep; refine jm ?_; refine jn rfl ?_; refine jz ?_; exact ⟨rfl, rfl⟩; apply jjT; exact rfl; rintro w' hq; have := hq.toStep; refine jN rfl rfl rfl ?_; refine jz ?_; exact ⟨rfl, rfl⟩; refine jjU ?_))))
    refine jjV [8] (by decide +kernel) hS1.ext (jjT (v := .pointer (some ⟨0, 0 + 3, none⟩)) rfl (fun w' q1 => ?_) (jjU ?_)); (refine Ops.indexAP (j := 3) rfl rfl rfl rfl ?_; refine jz ?_; exact ⟨rfl, rfl⟩)
    (refine jjV [9, 10, 11, 12] ?_ ?_ ?_; (decide +kernel); (exact hS1.ext); (((apply jjT; exact rfl; rintro w' hq; have := hq.toStep; refine jm ?_; refine jn rfl ?_; refine jz ?_; exact ⟨rfl, rfl⟩; apply jjT; exact rfl; rintro w' hq; have := hq.toStep; refine jN rfl rfl rfl ?_; refine jz ?_; exact ⟨rfl, rfl⟩; apply jjT; exact rfl; rintro w' hq; have := hq.toStep; refine jO rfl rfl rfl rfl ?_; refine jz ?_; exact ⟨rfl, rfl⟩; apply jjT; exact rfl; rintro w' hq; have := hq.toStep; refine jO rfl rfl rfl rfl ?_; refine jz ?_; exact ⟨rfl, rfl⟩; refine jjU ?_))))
    (apply jjW 13; (decide +kernel); exact rfl; (exact hS1.ext))
    refine jjQ (sides3_slip ws i a b _ ha hb) rfl rfl ?_
    rintro _ w2 hS2 rfl
    refine jz ?_
    (apply jjW 14; (decide +kernel); exact rfl; (exact hS1.ext.trans hS2.ext))
    refine Ops.buildSlice2 (u := .int .i64 (lenX ws b - lenX ws a)) (v := .int .i64 (orF [unE i a - unE i b, (b.1 : Int) - a.1])) rfl rfl rfl rfl rfl ?_
    intro b9 w3 hb3 hs3 hS3 hk3
    refine jz ?_
    have hE3 := (hS1.ext.trans hS2.ext).trans hS3.ext
    have hr3 : RowV w3 false 1 (.slice (some ⟨b9, 0, none⟩) 2 2) ([lenX ws b - lenX ws a, orF [unE i a - unE i b, (b.1 : Int) - a.1]].map intV) := hk3.row (fun x hx => by simp at hx; rcases hx with rfl | rfl <;> rfl) (by simp)
    (apply jjW 15; (decide +kernel); exact rfl; (exact hE3))
    refine jjQ (Or_int _ _ _ [lenX ws b - lenX ws a, orF [unE i a - unE i b, (b.1 : Int) - a.1]] _ rfl hr3) rfl rfl ?_
    rintro _ w4 hS4 rfl
    refine jz ?_
    (apply jjW 16; (decide +kernel); exact rfl; (exact hE3.trans hS4.ext))
    (apply jJ; exact eI rfl; refine jz ?_)
    refine jjX (by decide +kernel) (hE3.trans hS4.ext) ?_
    (refine jjF ?_; refine jB rfl rfl ⟨inferInstance, ?_⟩)
    exact rfl
end Go.Proofs.YtpbkphaceljclaaGreatDoor

/- slip: first. -/
namespace Go.Proofs.YtpbkphaceljclaaGreatDoor
open Go.RowKit

/-- What the best context's variable holds. -/
abbrev cxC (ws : List ByteArray) (i : Nat) : Option Cx → List Value
  | none => [.int .i64 0, .int .i64 0, .int .i64 0, .int .i64 0]
  | some x => [.int .i64 (x.1 : Int), .int .i64 (i : Int), .int .i64 (x.2 : Int), .int .i64 (lenX ws x)]
set_option maxHeartbeats 2000000 in
theorem first_slip (bi br br2 : Nat) (ws : List ByteArray) (wd side : Int) (i : Nat) (wa : Option Addr) (wc : Nat) (aa : Option Addr) (al ac : Nat) (w : World) (hi : i < ws.length) (hsz : ∀ s ∈ ws, s.size ≤ 1000) (hn : ws.length ≤ 1000000) (hW : 0 ≤ wd ∧ wd ≤ 1000) (hs : 1 ≤ side ∧ side ≤ 3) (hwi : (ws[i].size : Int) ≤ wd)
    (hF : RunF bi br ws wd side i wa wc aa al ac w) (hr2 : At w br2 0 [.int .i64 wd, .int .u8 side, .slice wa ws.length wc, .slice aa al ac]) (hg : At w 0 0 sidesC) :
    Ct Tryz.prog 118 [.func (.func 133) #[] ([.pointer (some ⟨bi, 0, none⟩), .pointer (some ⟨br, 0, none⟩)] : List Value).toArray, .func (.func 120) #[] ([.pointer (some ⟨br2, 0, none⟩)] : List Value).toArray] w fun v _ => v = encX ws i (bestA ws side wd i) := by
  have hbest := fst_best (side := side) hi hwi
  have hmem : ∀ x ∈ ctxA ws i wd, InX ws.length i x ∧ 0 ≤ lenX ws x ∧ lenX ws x ≤ 1001000000 := fun x hx => by
    have h := (mem_ctxA hi).1 hx
    exact ⟨⟨h.1, h.2.1, h.2.2.1, hn⟩, lenX_bound hsz hn (by omega) h.2.2.1⟩
  have hst : ∀ k b, ((ctxA ws i wd).take k).foldl (bestS (ordI ws side i)) none = some b → b ∈ ctxA ws i wd := by
    intro k b
    induction k generalizing b with
    | zero => intro h; cases h
    | succ k ih =>
      intro h
      by_cases hk : k < (ctxA ws i wd).length
      · rw [take_snoc_get (List.getElem?_eq_getElem hk), List.foldl_append, List.foldl_cons, List.foldl_nil] at h
        cases hq : ((ctxA ws i wd).take k).foldl (bestS (ordI ws side i)) none with
        | none => rw [hq] at h; cases h; exact List.getElem_mem hk
        | some c =>
          rw [hq] at h
          simp only [bestS] at h
          split at h
          · cases h; exact List.getElem_mem hk
          · cases h; exact ih _ hq
      · rw [List.take_of_length_le (by omega)] at h
        rw [List.take_of_length_le (by omega)] at ih
        exact ih b h
  refine Ct.ofWM (by simp) ?_
  (refine jjB ?_; refine jjC ?_)
  (refine jy rfl ?_; intro b3 w_b3 hb_b3 hs_b3 hS_b3 hk_b3; have hA_b3 := At.ofBlock hk_b3)
  ((skip); refine jjY ?_; intro b4 w_b4 hb_b4 hs_b4 hS_b4 hk_b4; have hA_b4 := Bk.of hk_b4)
  (((refine jz ?_; refine jjB ?_; refine jjC ?_)); refine jjY ?_; intro b5 w_b5 hb_b5 hs_b5 hS_b5 hk_b5; have hA_b5 := Bk.of hk_b5)
  (refine jz ?_; refine jjB ?_; refine jjC ?_)
  (apply jjR rfl; (intro _; first|exact eI rfl|exact eB rfl|exact eP rfl|exact eS rfl|exact eT rfl|exact eA rfl|exact eU rfl|exact eF rfl|exact eM rfl|exact eN rfl|exact rfl); exact rfl; exact rfl; exact rfl; exact rfl; intro b6 w_b6 hb_b6 hs_b6 hS_b6 hk_b6; have hA_b6 := Bk.of hk_b6)
  (refine jz ?_; refine jjB ?_; refine jjB ?_; refine jjC ?_; apply jI; exact eF rfl; refine jz ?_; refine jjD ?_)
  have hE6 : Ext w w_b6 := inferInstance
  refine W.range w.heap.size (ctxA ws i wd) (encX1 ws i) (contexts1_slip bi br ws wd side i wa wc aa al ac hi hsz hn hW) rfl (fun _ => rfl) trivial inferInstance hE6.size
    (fun k V => Ext w V ∧ w_b6.heap.size ≤ V.heap.size ∧ At V b3 0 [.func (.func 120) #[] ([.pointer (some ⟨br2, 0, none⟩)] : List Value).toArray] ∧ Bk V b4 [.int .i64 0, .int .i64 0, .int .i64 0, .int .i64 0] 178 ∧ Bk V b5 (cxC ws i (((ctxA ws i wd).take k).foldl (bestS (ordI ws side i)) none)) 178 ∧ Bk V b6 [.bool (((ctxA ws i wd).take k).foldl (bestS (ordI ws side i)) none).isSome] 4)
    (fun _ _ _ => False) ?hJ (fun _ _ _ _ h _ => h) ?hF ?h0 (fun x s' V => ∃ b7, s' 3 = .pointer (some ⟨b3, 0, none⟩) ∧ s' 5 = .pointer (some ⟨b5, 0, none⟩) ∧ s' 6 = .pointer (some ⟨b6, 0, none⟩) ∧ s' 7 = .pointer (some ⟨b7, 0, none⟩) ∧ w_b6.heap.size ≤ b7 ∧ Bk V b7 (cxC ws i (some x)) 178) (fun x s V V' ⟨b7, h1, h2, h3, h4, h5, h6⟩ g => ⟨b7, h1, h2, h3, h4, h5, h6.grow g⟩) ?hassign ?hbody ?hdone (fun _ _ _ _ _ _ _ h => h.elim)
  case hJ =>
    rintro k V V' ⟨h1, h2, h3, h4, h5, h6⟩ g
    exact ⟨h1.ofGrow g hE6.size, Nat.le_trans h2 g.size, h3.grow g, h4.grow g, h5.grow g, h6.grow g⟩
  case hF =>
    rintro k V ⟨h1, h2, h3, h4, h5, h6⟩
    exact ⟨h2, hF.num.ext h1, hF.run.ext h1, hF.row.ext h1⟩
  case h0 =>
    exact ⟨hE6, Nat.le_refl _, inferInstance, inferInstance, inferInstance, inferInstance⟩
  case hassign =>
    rintro l k x V hx ⟨h1, h2, h3, h4, h5, h6⟩ hl hr
    (refine jjC ?_)
    (apply jjR rfl; (intro _; first|exact eI rfl|exact eB rfl|exact eP rfl|exact eS rfl|exact eT rfl|exact eA rfl|exact eU rfl|exact eF rfl|exact eM rfl|exact eN rfl|exact rfl); exact rfl; exact rfl; exact rfl; exact rfl; intro b7 w_b7 hb_b7 hs_b7 hS_b7 hk_b7; have hA_b7 := Bk.of hk_b7)
    (refine jz ?_)
    exact ⟨rfl, hS_b7.ext.tr, Fr.ext hS_b7.ext, ⟨h1.trans hS_b7.ext, by have := hS_b7.size; omega, h3.ext hS_b7.ext, h4.ext hS_b7.ext, h5.ext hS_b7.ext, h6.ext hS_b7.ext⟩, b7, rfl, rfl, rfl, rfl, by omega, inferInstance⟩
  case hbody =>
    rintro l k x s' V hx ⟨h1, h2, h3, h4, h5, h6⟩ ⟨b7, ha3, ha5, ha6, ha7, hlb, hb7⟩ hl hr
    have hxm := hmem x (List.mem_of_getElem? hx)
    have hnext : ((ctxA ws i wd).take (k + 1)).foldl (bestS (ordI ws side i)) none = bestS (ordI ws side i) (((ctxA ws i wd).take k).foldl (bestS (ordI ws side i)) none) x := by rw [take_snoc_get hx, List.foldl_append, List.foldl_cons, List.foldl_nil]
    have hstk := hst k
    refine W.fix (d := 3) ha3 (W.fix (d := 5) ha5 (W.fix (d := 6) ha6 (W.fix (d := 7) ha7 ?_)))
    clear ha3 ha5 ha6 ha7
    rw [hnext]
    generalize ((ctxA ws i wd).take k).foldl (bestS (ordI ws side i)) none = st at h5 h6 hstk hnext ⊢
    clear hnext
    have n56 : b5 ≠ b6 := by omega
    have n46 : b4 ≠ b6 := by omega
    have n45 : b4 ≠ b5 := by omega
    have n35 : b3 ≠ b5 := by omega
    have n36 : b3 ≠ b6 := by omega
    have hw5 : b5 < w_b6.heap.size := by omega
    have hw6 : b6 < w_b6.heap.size := by omega
    have hw5' : w.heap.size ≤ b5 := by omega
    have hw6' : w.heap.size ≤ b6 := by omega
    have := Bk.toAt (h := h5)
    have := Bk.toAt (h := h6)
    have := Bk.toAt (h := hb7)
    cases st with
    | none =>
      (refine jjD ?_; refine jjB ?_; refine jjC ?_; refine jN rfl rfl rfl ?_; refine jq rfl ?_; apply jI; exact eB rfl; refine jU rfl rfl rfl rfl ?_; refine jU rfl rfl rfl rfl ?_; refine jU rfl rfl rfl rfl ?_; refine jU rfl rfl rfl rfl ?_; refine jU rfl rfl rfl rfl ?_; apply jK rfl; exact eB rfl; refine jz ?_; refine jjJ rfl ?_; refine jjC ?_; refine jO rfl rfl rfl rfl ?_)
      refine Ops.store rfl rfl rfl rfl rfl ?_
      intro V2 hp2
      have k6 := hp2.bk (h6) (Ne.symm n56)
      have := Bk.toAt (h := k6)
      skip
      refine Ops.store rfl rfl rfl rfl rfl ?_
      intro V3 hp3
      (refine jz ?_)
      have z2 := hp2.size
      have z3 := hp3.size
      have k5 : Bk V3 b5 (cxC ws i (some x)) 178 := hp3.bk ⟨hp2.new⟩ n56
      exact ⟨(hp2.tr ⟨_, (h5).h, rfl⟩).trans (hp3.tr ⟨_, k6.h, rfl⟩), (hp2.frS (by omega)).trans (hp3.frS (by omega)), hp3.ext (hp2.ext (h1) hw5') hw6', by omega, hp3.at_ (hp2.at_ (h3) n35) n36, hp3.bk (hp2.bk (h4) n45) n46, k5, ⟨hp3.new⟩⟩
    | some b =>
      have hbm := hmem b (hstk b rfl)
      have := hr2.ext h1
      have := hg.ext h1
      by_cases ho : ordI ws side i x b < 0
      · have e : bestS (ordI ws side i) (some b) x = some x := if_pos ho
        rw [e]
        (refine jjD ?_; refine jjB ?_; refine jjC ?_; refine jN rfl rfl rfl ?_; refine jp rfl ?_; apply jI; exact eB rfl; refine jT rfl rfl rfl ?_; refine jN rfl rfl rfl ?_; refine jT rfl rfl rfl ?_; refine jO rfl rfl rfl rfl ?_; refine jT rfl rfl rfl ?_; refine jO rfl rfl rfl rfl ?_; refine jT rfl rfl rfl ?_)
        refine jjQ (slip1_slip br2 ws wd side i _ _ x b _ hs hxm.1 hbm.1 hxm.2 hbm.2) rfl rfl ?_
        rintro _ w2 hS2 rfl
        have f5 := h5.ext hS2.ext
        have := Bk.toAt (h := f5)
        have z9 := hS2.size
        (refine jT rfl rfl rfl ?_; refine jjZ rfl rfl (by omega) ?_; apply jL rfl; exact eB rfl; refine jz ?_; refine jjJ rfl ?_; refine jjC ?_; refine jO rfl rfl rfl rfl ?_)
        refine Ops.store rfl rfl rfl rfl rfl ?_
        intro V2 hp2
        have k6 := hp2.bk (h6.ext hS2.ext) (Ne.symm n56)
        have := Bk.toAt (h := k6)
        skip
        refine Ops.store rfl rfl rfl rfl rfl ?_
        intro V3 hp3
        (refine jz ?_)
        have z2 := hp2.size
        have z3 := hp3.size
        have k5 : Bk V3 b5 (cxC ws i (some x)) 178 := hp3.bk ⟨hp2.new⟩ n56
        exact ⟨hS2.ext.tr.trans ((hp2.tr ⟨_, (f5).h, rfl⟩).trans (hp3.tr ⟨_, k6.h, rfl⟩)), (Fr.ext hS2.ext).trans ((hp2.frS (by omega)).trans (hp3.frS (by omega))), hp3.ext (hp2.ext (h1.trans hS2.ext) hw5') hw6', by omega, hp3.at_ (hp2.at_ (h3.ext hS2.ext) n35) n36, hp3.bk (hp2.bk (h4.ext hS2.ext) n45) n46, k5, ⟨hp3.new⟩⟩
      · have e : bestS (ordI ws side i) (some b) x = some b := if_neg ho
        rw [e]
        (refine jjD ?_; refine jjB ?_; refine jjC ?_; refine jN rfl rfl rfl ?_; refine jp rfl ?_; apply jI; exact eB rfl; refine jT rfl rfl rfl ?_; refine jN rfl rfl rfl ?_; refine jT rfl rfl rfl ?_; refine jO rfl rfl rfl rfl ?_; refine jT rfl rfl rfl ?_; refine jO rfl rfl rfl rfl ?_; refine jT rfl rfl rfl ?_)
        refine jjQ (slip1_slip br2 ws wd side i _ _ x b _ hs hxm.1 hbm.1 hxm.2 hbm.2) rfl rfl ?_
        rintro _ w2 hS2 rfl
        (refine jT rfl rfl rfl ?_; refine jja rfl rfl (by omega) ?_; apply jL rfl; exact eB rfl; refine jz ?_; refine jjK rfl ?_; refine jjG ?_)
        have z9 := hS2.size
        exact ⟨hS2.ext.tr, Fr.ext hS2.ext, h1.trans hS2.ext, by omega, h3.ext hS2.ext, h4.ext hS2.ext, h5.ext hS2.ext, h6.ext hS2.ext⟩
  case hdone =>
    rintro ds' V hmk htr ⟨h1, h2, h3, h4, h5, h6⟩
    rw [List.take_length, ← fstF, hbest] at h5
    have := Bk.toAt (h := h5)
    (refine jjB ?_; refine jjC ?_; refine jO rfl rfl rfl rfl ?_)
    refine Ops.store rfl rfl rfl rfl rfl ?_
    intro V2 hp2
    have k4 : Bk V2 b4 (cxC ws i (some (bestA ws side wd i))) 178 := ⟨hp2.new⟩
    (refine jz ?_; refine jjF ?_)
    refine fin1CM rfl rfl rfl k4 rfl rfl (hmk.tr (hp2.tr ⟨_, h4.h, rfl⟩)) fun w' g => ⟨(hp2.ext h1 (by omega)).ofGrow g (Nat.le_refl _), rfl⟩
end Go.Proofs.YtpbkphaceljclaaGreatDoor

/- slip: the slip of a word of a run. -/
namespace Go.Proofs.YtpbkphaceljclaaGreatDoor
open Go.RowKit

theorem joinB_fit {ws : List ByteArray} (hsz : ∀ s ∈ ws, s.size ≤ 1000) (hn : ws.length ≤ 1000000) (a b : Nat) : (joinB ((ws.take b).drop a)).size ≤ 140737488355328 := by
  have h1 := joinB_size ((ws.take b).drop a) (m := 1000) fun s h => hsz s (List.mem_of_mem_take (List.mem_of_mem_drop h))
  have h2 : ((ws.take b).drop a).length ≤ 1000000 := by rw [List.length_drop, List.length_take]; omega
  have := Nat.mul_le_mul_right (1000 + 1) h2
  omega
theorem bestA_in {ws : List ByteArray} {side W : Int} {i : Nat} (hi : i < ws.length) : (bestA ws side W i).1 ≤ i ∧ i ≤ (bestA ws side W i).2 ∧ (bestA ws side W i).2 < ws.length := by
  have := stB_in (side := side) (W := W) (a := i + 1) (m := 0) hi (Nat.le_refl _) (by omega) (.inr rfl)
  rwa [stB_zero, stA_end] at this
set_option maxHeartbeats 4000000 in
theorem slip_slip (ws : List ByteArray) (ps : List Pl) (wd side : Int) (i : Nat) (p : Pl) (wa : Option Addr) (wc : Nat) (aa : Option Addr) (ac : Nat) (w : World) (hp : ps[i]? = some p) (hl : ps.length = ws.length) (hsz : ∀ s ∈ ws, s.size ≤ 1000) (hn : ws.length ≤ 1000000) (hW : 0 ≤ wd ∧ wd ≤ 1000) (hs : 1 ≤ side ∧ side ≤ 3) (hwi : ∀ s ∈ ws, (s.size : Int) ≤ wd)
    (hRw : RowV w false 1 (.slice wa ws.length wc) (ws.map strV)) (hRa : RowV w true 3 (.slice aa ps.length ac) (ps.map encPl)) (hg : At w 0 0 sidesC) :
    Ct Tryz.prog 89 [.agg #[.int .i64 wd, .int .u8 side, .slice wa ws.length wc, .slice aa ps.length ac], .int .i64 (i : Int)] w fun v _ => v = encSl (slipX ws side wd i p) := by
  have hi : i < ws.length := by have := (List.getElem?_eq_some_iff.1 hp).1; omega
  have hip : i < ps.length := by omega
  obtain ⟨bw, ow, rfl, hAw⟩ := hRw.place' (map_get hi)
  rw [Nat.mul_one] at hAw
  obtain ⟨ba, oa, rfl, hAp⟩ := hRa.place' (by rw [List.getElem?_map, hp]; rfl)
  have hcw := hRw.cap.2
  rw [List.length_map] at hcw
  have hlw := hAw.lt
  have hla := hAp.lt
  refine Ct.ofW (by simp) ?_
  (refine jjB ?_; refine jjC ?_)
  (refine jy rfl ?_; intro b2 w_b2 hb_b2 hs_b2 hS_b2 hk_b2; have hA_b2 := At.ofBlock hk_b2)
  ((skip); refine jjY ?_; intro b4 w_b4 hb_b4 hs_b4 hS_b4 hk_b4; have hA_b4 := Bk.of hk_b4)
  (refine jz ?_; refine jjB ?_; refine jjC ?_; refine jO rfl rfl rfl rfl ?_; apply jI; exact eI rfl)
  refine jjQ (contexts_slip ws wd side i _ wc _ ps.length ac _) rfl rfl ?_
  rintro _ w2 hS2 ⟨bi, br, rfl, hAi, hAr⟩
  have hE2 : Ext w w2 := inferInstance
  (refine jv ?_)
  refine jjQ (first_slip bi br b2 ws wd side i _ wc _ ps.length ac _ hi hsz hn hW hs (hwi _ (List.getElem_mem hi)) ⟨hAi, hAr, hRw.ext hE2⟩ inferInstance (hg.ext hE2)) rfl rfl ?_
  rintro _ w3 hS3 rfl
  obtain ⟨hin1, hin2, hin3⟩ := bestA_in (side := side) (W := wd) hi
  rw [slipX]
  generalize bestA ws side wd i = st at *
  skip
  (apply jjR rfl; (intro _; first|exact eI rfl|exact eB rfl|exact eP rfl|exact eS rfl|exact eT rfl|exact eA rfl|exact eU rfl|exact eF rfl|exact eM rfl|exact eN rfl|exact rfl); exact rfl; exact rfl; exact rfl; exact rfl; intro b5 w_b5 hb_b5 hs_b5 hS_b5 hk_b5; have hA_b5 := Bk.of hk_b5)
  (refine jz ?_; refine jjB ?_)
  have hE5 : Ext w w_b5 := inferInstance
  have z5 := hE5.size
  have hc1 := hRw.cut (lo := st.1) (hi := i) hin1 (by rw [List.length_map]; omega)
  have hc2 := hRw.cut (lo := i + 1) (hi := st.2 + 1) (by omega) (by rw [List.length_map]; omega)
  rw [← List.map_take, ← List.map_drop] at hc1 hc2
  have hd : ws.getD i ⟨#[]⟩ = ws[i] := by rw [List.getD_eq_getElem?_getD, List.getElem?_eq_getElem hi, Option.getD_some]
  rw [hd]
  have hb4 : Bk w_b5 b4 [.int .i64 0, .int .i64 0, .int .i64 0, .string ⟨#[]⟩, .string ⟨#[]⟩, .string ⟨#[]⟩] 48 := inferInstance
  have hb2 : At w_b5 b2 0 [.int .i64 wd, .int .u8 side, .slice (some ⟨bw, ow, none⟩) ws.length wc, .slice (some ⟨ba, oa, none⟩) ps.length ac] := inferInstance
  have hb5 : At w_b5 b5 0 [.int .i64 (st.1 : Int), .int .i64 (i : Int), .int .i64 (st.2 : Int), .int .i64 (lenX ws st)] := inferInstance
  have hAw5 := hAw.ext hE5
  have hAp5 := hAp.ext hE5
  have z2 := hS2.size
  have z3 := hS3.size
  have n2 : b2 ≠ b4 := by omega
  have n5 : b5 ≠ b4 := by omega
  have nw : bw ≠ b4 := by omega
  have na : ba ≠ b4 := by omega
  refine W.draw (fun w' => Only b4 w_b5 w') ?_
  intro wC hSC
  have hC : Ext w_b5 wC := hSC.ext
  (refine jjV [0, 1, 2, 3, 4, 5, 6, 7, 8, 9, 10, 11, 12, 13, 14] ?_ ?_ ?_; (decide +kernel); (exact .ofExt hC); (((apply jjT; exact rfl; rintro w' hq; have := hq.at_ hb2 n2; have := hq.at_ hb5 n5; have := hq.at_ hAw5 nw; have := hq.at_ hAp5 na; refine jm ?_; refine jn rfl ?_; refine jz ?_; exact ⟨rfl, rfl⟩; apply jjT; exact rfl; rintro w' hq; have := hq.at_ hb2 n2; have := hq.at_ hb5 n5; have := hq.at_ hAw5 nw; have := hq.at_ hAp5 na; refine jN rfl rfl rfl ?_; refine jz ?_; exact ⟨rfl, rfl⟩; apply jjT; exact rfl; rintro w' hq; have := hq.at_ hb2 n2; have := hq.at_ hb5 n5; have := hq.at_ hAw5 nw; have := hq.at_ hAp5 na; apply jI; exact eI rfl; refine jz ?_; exact ⟨rfl, rfl⟩; apply jjT; exact rfl; rintro w' hq; have := hq.at_ hb2 n2; have := hq.at_ hb5 n5; have := hq.at_ hAw5 nw; have := hq.at_ hAp5 na; refine jH _ rfl rfl rfl (by omega) ?_; refine jz ?_; exact ⟨rfl, rfl⟩; apply jjT; exact rfl; rintro w' hq; have := hq.at_ hb2 n2; have := hq.at_ hb5 n5; have := hq.at_ hAw5 nw; have := hq.at_ hAp5 na; refine jQ rfl rfl ?_; refine jz ?_; exact ⟨rfl, rfl⟩; apply jjT; exact rfl; rintro w' hq; have := hq.at_ hb2 n2; have := hq.at_ hb5 n5; have := hq.at_ hAw5 nw; have := hq.at_ hAp5 na; refine jm ?_; refine jn rfl ?_; refine jz ?_; exact ⟨rfl, rfl⟩; apply jjT; exact rfl; rintro w' hq; have := hq.at_ hb2 n2; have := hq.at_ hb5 n5; have := hq.at_ hAw5 nw; have := hq.at_ hAp5 na; refine jN rfl rfl rfl ?_; refine jz ?_; exact ⟨rfl, rfl⟩; apply jjT; exact rfl; rintro w' hq; have := hq.at_ hb2 n2; have := hq.at_ hb5 n5; have := hq.at_ hAw5 nw; have := hq.at_ hAp5 na; apply jI; exact eI rfl; refine jz ?_; exact ⟨rfl, rfl⟩; apply jjT; exact rfl; rintro w' hq; have := hq.at_ hb2 n2; have := hq.at_ hb5 n5; have := hq.at_ hAw5 nw; have := hq.at_ hAp5 na; refine jG rfl rfl rfl (by omega) ?_; refine jz ?_; exact ⟨rfl, rfl⟩; apply jjT; exact rfl; rintro w' hq; have := hq.at_ hb2 n2; have := hq.at_ hb5 n5; have := hq.at_ hAw5 nw; have := hq.at_ hAp5 na; refine jQ rfl rfl ?_; refine jz ?_; exact ⟨rfl, rfl⟩; apply jjT; exact rfl; rintro w' hq; have := hq.at_ hb2 n2; have := hq.at_ hb5 n5; have := hq.at_ hAw5 nw; have := hq.at_ hAp5 na; refine jm ?_; refine jn rfl ?_; refine jz ?_; exact ⟨rfl, rfl⟩; apply jjT; exact rfl; rintro w' hq; have := hq.at_ hb2 n2; have := hq.at_ hb5 n5; have := hq.at_ hAw5 nw; have := hq.at_ hAp5 na; refine jN rfl rfl rfl ?_; refine jz ?_; exact ⟨rfl, rfl⟩; apply jjT; exact rfl; rintro w' hq; have := hq.at_ hb2 n2; have := hq.at_ hb5 n5; have := hq.at_ hAw5 nw; have := hq.at_ hAp5 na; refine jm ?_; refine jn rfl ?_; refine jz ?_; exact ⟨rfl, rfl⟩; apply jjT; exact rfl; rintro w' hq; have := hq.at_ hb2 n2; have := hq.at_ hb5 n5; have := hq.at_ hAw5 nw; have := hq.at_ hAp5 na; refine jN rfl rfl rfl ?_; refine jz ?_; exact ⟨rfl, rfl⟩; apply jjT; exact rfl; rintro w' hq; have := hq.at_ hb2 n2; have := hq.at_ hb5 n5; have := hq.at_ hAw5 nw; have := hq.at_ hAp5 na; apply jI; exact eI rfl; refine jz ?_; exact ⟨rfl, rfl⟩; refine jjU ?_))))
  refine jjV [15] (by decide +kernel) (.ofExt hC) (jjT (v := cutV (some ⟨bw, ow, none⟩) wc 1 st.1 i) rfl (fun w' q1 => ?_) (jjU ?_)); (refine Ops.sliceLHv (lo := st.1) (hi := i) rfl rfl rfl rfl rfl (by omega) (by omega) ?_; refine jz ?_; exact ⟨rfl, rfl⟩)
  (refine jjV [17, 18, 19, 20, 21, 22, 23] ?_ ?_ ?_; (decide +kernel); (exact .ofExt hC); (((apply jjT; exact rfl; rintro w' hq; have := hq.at_ hb2 n2; have := hq.at_ hb5 n5; refine jm ?_; refine jn rfl ?_; refine jz ?_; exact ⟨rfl, rfl⟩; apply jjT; exact rfl; rintro w' hq; have := hq.at_ hb2 n2; have := hq.at_ hb5 n5; refine jN rfl rfl rfl ?_; refine jz ?_; exact ⟨rfl, rfl⟩; apply jjT; exact rfl; rintro w' hq; have := hq.at_ hb2 n2; have := hq.at_ hb5 n5; apply jI; exact eI rfl; refine jz ?_; exact ⟨rfl, rfl⟩; apply jjT; exact rfl; rintro w' hq; have := hq.at_ hb2 n2; have := hq.at_ hb5 n5; refine jY rfl rfl (by omega) ?_; refine jz ?_; exact ⟨rfl, rfl⟩; apply jjT; exact rfl; rintro w' hq; have := hq.at_ hb2 n2; have := hq.at_ hb5 n5; refine jm ?_; refine jn rfl ?_; refine jz ?_; exact ⟨rfl, rfl⟩; apply jjT; exact rfl; rintro w' hq; have := hq.at_ hb2 n2; have := hq.at_ hb5 n5; refine jN rfl rfl rfl ?_; refine jz ?_; exact ⟨rfl, rfl⟩; apply jjT; exact rfl; rintro w' hq; have := hq.at_ hb2 n2; have := hq.at_ hb5 n5; refine jY rfl rfl (by omega) ?_; refine jz ?_; exact ⟨rfl, rfl⟩; refine jjU ?_))))
  refine jjV [24] (by decide +kernel) (.ofExt hC) (jjT (v := cutV (some ⟨bw, ow, none⟩) wc 1 (i + 1) (st.2 + 1)) rfl (fun w' q1 => ?_) (jjU ?_)); (refine Ops.sliceLHv (lo := i + 1) (hi := st.2 + 1) rfl rfl rfl rfl rfl (by omega) (by omega) ?_; refine jz ?_; exact ⟨rfl, rfl⟩)
  (apply jjW 16; (decide +kernel); exact rfl; (exact .ofExt hC))
  refine jjQ (Join_str _ _ _ ((ws.take i).drop st.1) _ (by rw [List.length_drop, List.length_take]; omega) (hc1.ext (hE5.trans hC)) (joinB_fit hsz hn _ _)) rfl rfl ?_
  rintro _ wD hSD rfl
  refine jz ?_
  have hD : Ext w_b5 wD := hC.trans hSD.ext
  (apply jjW 25; (decide +kernel); exact rfl; (exact .ofExt hD))
  refine jjQ (Join_str _ _ _ ((ws.take (st.2 + 1)).drop (i + 1)) _ (by rw [List.length_drop, List.length_take]; omega) (hc2.ext (hE5.trans hD)) (joinB_fit hsz hn _ _)) rfl rfl ?_
  rintro _ wE hSE rfl
  refine jz ?_
  have hE : Ext w_b5 wE := hD.trans hSE.ext
  (apply jjW 26; (decide +kernel); exact rfl; (exact .ofExt hE))
  (refine jjS (cells := [.int .i64 p.1, .int .i64 p.2.1, .int .i64 p.2.2, .string ws[i], .string (joinB ((ws.take i).drop st.1)), .string (joinB ((ws.take (st.2 + 1)).drop (i + 1)))]) ?_ ?_; exact rfl)
  refine jz ?_
  (apply jjW 27; (decide +kernel); exact rfl; (exact .ofExt hE))
  have h4E := hb4.ext hE
  refine Ops.store rfl rfl rfl rfl rfl ?_
  intro wF hpF
  refine jz ?_
  refine jjX (by decide +kernel) ((Only.ofExt hE).trans (.ofPut hpF)) ?_
  have k4 : At wF b4 0 [.int .i64 p.1, .int .i64 p.2.1, .int .i64 p.2.2, .string ws[i], .string (joinB ((ws.take i).drop st.1)), .string (joinB ((ws.take (st.2 + 1)).drop (i + 1)))] := Bk.toAt (h := ⟨hpF.new⟩)
  (refine jjF ?_)
  refine fin1C rfl rfl rfl rfl rfl ⟨hpF.ext (hE5.trans hE) (by omega), rfl⟩
end Go.Proofs.YtpbkphaceljclaaGreatDoor

/- slip: the slips of a text. -/
namespace Go.Proofs.YtpbkphaceljclaaGreatDoor
open Go.RowKit

/-- A text in the variable bt, a cut in the variable bc, and the table of sides. -/
structure SlF (bt bc : Nat) (a : Option Addr) (c : Nat) (cs : List Ch) (wd side : Int) (w : World) : Prop where
  txt : At w bt 0 [.slice a cs.length c]
  cut : At w bc 0 [.int .i64 wd, .int .u8 side]
  row : RowV w true 2 (.slice a cs.length c) (cs.map encCh)
  tx : TextI w cs
  sd : At w 0 0 sidesC
abbrev encSl1 (s : Slp) : List Value := [encSl s]
theorem cutB_in {wd side : Int} (h : cutB wd side = true) : 12 ≤ wd ∧ wd ≤ 80 ∧ 1 ≤ side ∧ side ≤ 3 := cutB_width h
theorem rnW_fit {cs : List Ch} {wd side : Int} (ht : textB (txF cs) = true) (hc : cutB wd side = true) {k : Nat} (hk : k < cs.length) : ∀ s ∈ rnW cs[k], (s.size : Int) ≤ wd := fun s h => by
  have := word_short ht (k := k) (by rw [txF_len]; exact hk) (s := s) (by rw [wsT_get hk]; exact h)
  have := cutB_in hc
  omega
set_option maxHeartbeats 2000000 in
theorem slips1_slip (bt bc : Nat) (a : Option Addr) (c : Nat) (cs : List Ch) (wd side : Int) (hs : SmallT cs) (ht : textB (txF cs) = true) (hc : cutB wd side = true) :
    Iter Tryz.prog 91 [.pointer (some ⟨bt, 0, none⟩), .pointer (some ⟨bc, 0, none⟩)] (allS (txF cs) side wd) encSl1 (SlF bt bc a c cs wd side) := by
  intro l J Jx M w hJ hJx hF hM1 hM2 hY h0
  have hs1 := hs.1
  have hcb := cutB_in hc
  have hF0 := hF 0 w h0
  have := hF0.txt
  refine Calls.ofW (by simp) ?_
  (refine jjB ?_; refine jjC ?_; refine jm ?_; refine jn rfl ?_; refine jN rfl rfl rfl ?_; refine jh rfl ?_; apply jI; exact eI rfl; refine jz ?_; refine jjD ?_)
  refine W.keep0 [(0, .func (.yield l) #[] #[]), (1, .pointer (some ⟨bt, 0, none⟩)), (2, .pointer (some ⟨bc, 0, none⟩)), (9, .int .i64 (cs.length : Int)), (10, .int .i64 ((0 : Nat) : Int))] ⟨eF rfl, eP rfl, eP rfl, eI rfl, eI rfl, trivial⟩ fun s0 => ?_
  refine W.loopG (11 :: 12 :: 4 :: 13 :: 14 :: 15 :: 16 :: 5 :: 17 :: 18 :: 19 :: 20 :: 21 :: 22 :: 6 :: 23 :: 24 :: 25 :: 26 :: 27 :: 28 :: 29 :: 30 :: 10 :: []) (fun g s' w' => ∃ k : Nat, s' 10 = .int .i64 ((k : Nat) : Int) ∧ k ≤ cs.length ∧ g = cs.length - k ∧ J (slA (txF cs) side wd k).length w') cs.length ⟨0, rfl, by omega, rfl, h0⟩ ?_
  rintro _ sd w' ⟨k, h10, hk, rfl, hJk⟩
  refine W.fix h10 ?_
  clear h10
  have hFk := hF _ _ hJk
  have := hFk.txt
  have := hFk.cut
  by_cases hkc : k < cs.length
  rotate_left
  · obtain rfl : k = cs.length := by omega
    (refine jjB ?_; refine jjC ?_; refine jja rfl rfl (by omega) ?_; refine jz ?_; refine jjB ?_; refine jjK rfl ?_; refine jjE ?_; refine jA rfl ⟨⟨_, rfl⟩, ?_⟩)
    refine .inl ?_
    rw [← slA_end, txF_len]; exact hJk
  have i1 : RowI w' (.slice a cs.length c) true 2 (cs.map encCh) := ⟨hFk.row⟩
  have i2 : TextI w' cs := hFk.tx
  (refine jjB ?_; refine jjC ?_; refine jjZ rfl rfl (by omega) ?_; refine jz ?_; refine jjB ?_; refine jjJ rfl ?_; refine jjG ?_; refine jjB ?_; refine jjD ?_; refine jjB ?_; refine jjC ?_; apply jI; exact eI rfl; apply jJ; exact eI rfl; refine jz ?_; refine jjB ?_; refine jjC ?_; refine jO rfl rfl rfl rfl ?_; refine jO rfl rfl rfl rfl ?_; apply jI; exact eI rfl)
  have hget : ∀ i (_ : i < (rnW cs[k]).length), ∃ p, (runA k (chW cs[k]))[i]? = some p ∧ (allS (txF cs) side wd)[(slA (txF cs) side wd k).length + i]? = some (slipX (rnW cs[k]) side wd i p) := fun i hi => by
    have hi2 : i < (runA k (chW cs[k])).length := by rw [runA_len]; exact hi
    obtain ⟨p, hp0⟩ : ∃ p, (runA k (chW cs[k]))[i]? = some p := ⟨_, List.getElem?_eq_getElem hi2⟩
    have hp := hp0
    rw [← wsT_get hkc] at hp
    have h1 := slA_get (side := side) (W := wd) (n := (txF cs).length) (by rw [txF_len]; exact hkc) hp
    rw [slA_end, slP_eq (by rw [txF_len]; exact hkc) hp, wsT_get hkc] at h1
    exact ⟨p, hp0, h1⟩
  have hnext : (slA (txF cs) side wd k).length + (rnW cs[k]).length = (slA (txF cs) side wd (k + 1)).length := by
    rw [slA_succ, List.length_append, slsN_len (Nat.le_refl _), wsT_get hkc]
  obtain ⟨hn, hsz⟩ := rnW_small hs hkc
  have hwi := rnW_fit ht hc hkc
  have hlen : (runA k (chW cs[k])).length = (rnW cs[k]).length := runA_len _ _
  refine jjQ (runs_slip a c cs _ hs wd side k hkc) rfl rfl ?_
  rintro _ w2 hS2 ⟨wv, av, rfl, hOw, hOa⟩
  generalize rnW cs[k] = ws at *
  generalize runA k (chW cs[k]) = ps at *
  generalize (slA (txF cs) side wd k).length = L at *
  obtain ⟨wa, wc, rfl⟩ := hOw.slice
  obtain ⟨aa, ac, rfl⟩ := hOa.slice
  rw [List.length_map] at hOw hOa ⊢
  rw [List.length_map]
  skip
  (apply jjR rfl; (intro _; first|exact eI rfl|exact eB rfl|exact eP rfl|exact eS rfl|exact eT rfl|exact eA rfl|exact eU rfl|exact eF rfl|exact eM rfl|exact eN rfl|exact rfl); exact rfl; exact rfl; exact rfl; exact rfl; intro b5 w_b5 hb_b5 hs_b5 hS_b5 hk_b5; have hA_b5 := Bk.of hk_b5)
  (refine jz ?_; refine jjB ?_; refine jjC ?_; refine jm ?_; refine jn rfl ?_; refine jN rfl rfl rfl ?_; refine jh rfl ?_; apply jI; exact eI rfl; refine jz ?_; refine jjD ?_)
  have hE5 : Ext w' w_b5 := hS2.ext.trans hS_b5.ext
  have hJ5 := hJ _ _ _ hJk hE5
  have hMx : ∀ g, w'.heap.size ≤ g → ¬ M w_b5 g := fun g hg hm => by
    have := hM1 _ _ _ hJk (hM2 _ _ _ _ hJk hE5 hm)
    omega
  have z2 := hS2.size
  have hOw0 := hOw
  have hOa0 := hOa
  refine W.keep [(0, .func (.yield l) #[] #[]), (1, .pointer (some ⟨bt, 0, none⟩)), (2, .pointer (some ⟨bc, 0, none⟩)), (9, .int .i64 (cs.length : Int)), (10, .int .i64 ((k : Nat) : Int)), (5, .pointer (some ⟨b5, 0, none⟩)), (19, .int .i64 (ws.length : Int)), (20, .int .i64 ((0 : Nat) : Int))] (D := (11 :: 12 :: 4 :: 13 :: 14 :: 15 :: 16 :: 5 :: 17 :: 18 :: 19 :: 20 :: 21 :: 22 :: 6 :: 23 :: 24 :: 25 :: 26 :: 27 :: 28 :: 29 :: 30 :: 10 :: [])) (sO := upds s0 _) (by ((refine Same.upd rfl ?_; refine Same.upd rfl ?_; refine Same.upd rfl ?_; refine Same.upd rfl ?_; refine Same.upd rfl ?_; refine Same.upd rfl ?_; refine Same.upd rfl ?_; refine Same.upd rfl ?_; refine Same.upd rfl ?_; refine Same.upd rfl ?_; refine Same.upd rfl ?_; refine Same.upd rfl ?_; refine Same.upd rfl ?_; exact Same.ovN))) ⟨eF rfl, eP rfl, eP rfl, eI rfl, eI rfl, eP rfl, eI rfl, eI rfl, trivial⟩ fun s1 hs1' => ?_
  refine W.loopG (21 :: 22 :: 6 :: 23 :: 24 :: 25 :: 26 :: 27 :: 28 :: 29 :: 20 :: []) (fun g s' V => ∃ i : Nat, s' 20 = .int .i64 ((i : Nat) : Int) ∧ i ≤ ws.length ∧ g = ws.length - i ∧ J (L + i) V ∧ Bk V b5 [.int .i64 wd, .int .u8 side, .slice wa ws.length wc, .slice aa ps.length ac] 140 ∧ (∀ g, w'.heap.size ≤ g → g < w_b5.heap.size → ¬ M V g) ∧ w_b5.heap.size ≤ V.heap.size ∧ OwnL V w'.heap.size 9 false 1 (.slice wa ws.length wc) (ws.map strV) ∧ OwnL V w'.heap.size 44 true 3 (.slice aa ps.length ac) (ps.map encPl)) ws.length ⟨0, rfl, by omega, rfl, hJ5, inferInstance, fun g hg _ => hMx g hg, Nat.le_refl _, hOw.ext hS_b5.ext, hOa.ext hS_b5.ext⟩ ?_
  rintro _ sd2 V ⟨i, h20, hi, rfl, hJi, hB5, hMV, hzV, hOw, hOa⟩
  refine W.fix h20 ?_
  clear h20
  by_cases hil : i < ws.length
  rotate_left
  · obtain rfl : i = ws.length := by omega
    (refine jjB ?_; refine jjC ?_; refine jja rfl rfl (by omega) ?_; refine jz ?_; refine jjB ?_; refine jjK rfl ?_; refine jjE ?_; refine jjC ?_; refine jY rfl rfl (by omega) ?_; apply jI; exact eI rfl; refine jz ?_)
    exact ⟨rfl, by ((refine Same.upd rfl ?_; refine Same.upd rfl ?_; refine Same.upd rfl ?_; refine Same.upd rfl ?_; refine Same.ovN' rfl ?_; assumption)), cs.length - (k + 1), by omega, k + 1, congrArg (Value.int .i64) (by omega), by omega, rfl, hnext ▸ hJi⟩
  obtain ⟨p, hp, hall⟩ := hget i hil
  have := Bk.toAt (h := hB5)
  have hRw := hOw.row
  have hRa := hOa.row
  have hgs := (hF _ _ hJi).sd
  (refine jjB ?_; refine jjC ?_; refine jjZ rfl rfl (by omega) ?_; refine jz ?_; refine jjB ?_; refine jjJ rfl ?_; refine jjG ?_; refine jjB ?_; refine jjD ?_; refine jjB ?_; refine jjC ?_; apply jI; exact eI rfl; apply jJ; exact eI rfl; refine jz ?_; refine jjB ?_; refine jjC ?_; apply jI; exact eF rfl; refine jO rfl rfl rfl rfl ?_; apply jI; exact eI rfl)
  refine jjQ (slip_slip ws ps wd side i p wa wc aa ac _ hp hlen hsz hn (by omega) (by omega) hwi hRw hRa hgs) rfl rfl ?_
  rintro _ V2 hSV rfl
  have hJ2 := hJ _ _ _ hJi hSV.ext
  have hB52 := hB5.ext hSV.ext
  have hM2' : ∀ g, w'.heap.size ≤ g → g < w_b5.heap.size → ¬ M V2 g := fun g h1 h2 hm => hMV g h1 h2 (hM2 _ _ _ _ hJi hSV.ext hm)
  have hOw2 := hOw.ext hSV.ext
  have hOa2 := hOa.ext hSV.ext
  have zV2 := hSV.size
  skip
  refine Ops.yield (hY _ _ _ hall hJ2) rfl rfl ?_
  rintro e V3 (⟨rfl, hJ3, hFr⟩ | ⟨rfl, hJx3⟩)
  · refine ⟨_, rfl, ?_⟩
    (refine jp rfl ?_; refine jz ?_; refine jjK rfl ?_; refine jjG ?_; refine jjC ?_; refine jY rfl rfl (by omega) ?_; apply jI; exact eI rfl; refine jz ?_)
    have zF := hFr.size
    exact ⟨rfl, by ((refine Same.upd rfl ?_; refine Same.upd rfl ?_; refine Same.upd rfl ?_; refine Same.upd rfl ?_; refine Same.upd rfl ?_; refine Same.upd rfl ?_; refine Same.upd rfl ?_; refine Same.upd rfl ?_; refine Same.upd rfl ?_; refine Same.upd rfl ?_; refine Same.upd rfl ?_; refine Same.upd rfl ?_; exact Same.ovN)), ws.length - (i + 1), by omega, i + 1, congrArg (Value.int .i64) (by omega), by omega, rfl, hJ3, ⟨hFr.keep _ _ hB52.h rfl (hM2' b5 (by omega) (by omega))⟩, fun g h1 h2 hm => (hFr.own g hm).elim (hM2' g h1 h2) (fun h => by omega), by omega, hOw2.fr hFr (fun g hg => hM2' g (hOw0.block g hg).1 (by have := (hOw0.block g hg).2; omega)), hOa2.fr hFr (fun g hg => hM2' g (hOa0.block g hg).1 (by have := (hOa0.block g hg).2; omega))⟩
  · refine ⟨_, rfl, ?_⟩
    (refine jq rfl ?_; refine jz ?_; refine jjJ rfl ?_; refine jjF ?_; refine jA rfl ⟨⟨_, rfl⟩, ?_⟩)
    exact .inr ⟨_, (List.getElem?_eq_some_iff.1 hall).1, hJx3⟩
theorem slips_slip (a : Option Addr) (c : Nat) (cs : List Ch) (wd side : Int) (w : World) : Ct Tryz.prog 55 [.agg #[.slice a cs.length c], encCut wd side] w fun v w' => ∃ bt bc, v = .func (.func 91) #[] ([.pointer (some ⟨bt, 0, none⟩), .pointer (some ⟨bc, 0, none⟩)] : List Value).toArray ∧ (w.heap.size ≤ bt ∧ w.heap.size ≤ bc) ∧ At w' bt 0 [.slice a cs.length c] ∧ At w' bc 0 [.int .i64 wd, .int .u8 side] := by
  refine Ct.ofW (by simp) ?_
  (refine jjB ?_; refine jjC ?_)
  (refine jy rfl ?_; intro bt w_bt hb_bt hs_bt hS_bt hk_bt; have hA_bt := At.ofBlock hk_bt)
  skip
  (refine jy rfl ?_; intro bc w_bc hb_bc hs_bc hS_bc hk_bc; have hA_bc := At.ofBlock hk_bc)
  (apply jJ; exact rfl; refine jz ?_; refine jjB ?_; refine jjC ?_; refine jv ?_; apply jJ; exact eF rfl; refine jz ?_; refine jjF ?_; refine jB rfl rfl ⟨inferInstance, ?_⟩)
  exact ⟨bt, bc, rfl, ⟨by omega, by omega⟩, inferInstance, inferInstance⟩
end Go.Proofs.YtpbkphaceljclaaGreatDoor

/- slip: Index of a place, made, Make. -/
namespace Go.Proofs.YtpbkphaceljclaaGreatDoor
open Go.RowKit

def idxZ (o : Option Nat) : Int := match o with
  | some i => (i : Int)
  | none => -1
set_option maxHeartbeats 1000000 in
theorem Index_pl (a : Option Addr) (c n : Nat) (l : List Pl) (p : Pl) (w : World) (hn : l.length = n) (hd : l.Nodup) (hrow : RowV w true 3 (.slice a n c) (l.map encPl)) : Ct Tryz.prog 88 [.slice a n c, encPl p] w fun v _ => v = .int .i64 (idxZ (idP l p)) := by
  subst hn
  have hlen := hrow.len
  rw [List.length_map] at hlen
  refine Ct.ofW (by simp) ?_
  (refine jjB ?_; refine jjC ?_)
  (refine jy rfl ?_; intro b3 w_b3 hb_b3 hs_b3 hS_b3 hk_b3; have hA_b3 := At.ofBlock hk_b3)
  (apply jJ; exact eI rfl; refine jz ?_; refine jjB ?_; refine jjB ?_; refine jjC ?_; apply jI; exact eS rfl; refine jh rfl ?_; apply jI; exact eI rfl; refine jz ?_; refine jjD ?_)
  refine W.keep0 [(0, .slice a l.length c), (3, .pointer (some ⟨b3, 0, none⟩)), (7, .int .i64 ((l.length : Nat) : Int)), (8, .int .i64 ((0 : Nat) : Int))] ⟨eS rfl, eP rfl, eI rfl, eI rfl, trivial⟩ fun s0 => ?_
  refine W.loop (9 :: 10 :: 5 :: 11 :: 12 :: 13 :: 14 :: 15 :: 16 :: 17 :: 4 :: 18 :: 8 :: []) (fun g s' V => ∃ k : Nat, s' 8 = .int .i64 ((k : Nat) : Int) ∧ g = l.length - k ∧ k ≤ l.length ∧ ∀ (j : Nat) (hj : j < l.length), j < k → l[j] ≠ p) l.length ⟨0, rfl, rfl, Nat.zero_le _, by intros; omega⟩ ?_
  rintro _ sd w1 hS1 ⟨k, h8, rfl, hk, hpre⟩
  refine W.fix h8 ?_
  clear h8
  by_cases hkl : k < l.length
  rotate_left
  · have e : idP l p = none := idP_none fun hm => by
      obtain ⟨j, hj, e⟩ := List.mem_iff_getElem.1 hm
      exact hpre j hj (by omega) e
    (refine jjB ?_; refine jjC ?_; refine jja rfl rfl (by omega) ?_; refine jz ?_; refine jjB ?_; refine jjK rfl ?_; refine jjE ?_; refine jjB ?_; refine jjC ?_; apply jJ; exact eI rfl; refine jz ?_; refine jjF ?_; refine jB rfl rfl ⟨inferInstance, ?_⟩)
    rw [e]; exact rfl
  obtain ⟨b', o', rfl, hA⟩ := hrow.place' (map_get hkl)
  (refine jjB ?_; refine jjC ?_; refine jjZ rfl rfl (by omega) ?_; refine jz ?_; refine jjB ?_; refine jjJ rfl ?_; refine jjG ?_; refine jjB ?_; refine jjD ?_; refine jjB ?_; refine jjC ?_; apply jI; exact eI rfl; apply jJ; exact eI rfl; refine jz ?_; refine jjB ?_)
  refine W.draw (fun w' => Ext w_b3 w') ?_
  intro w2 hS2
  have hE2 : Ext w_b3 w2 := hS1.ext.trans hS2.ext
  (refine jjV [0, 1, 2, 3, 4] ?_ ?_ ?_; (decide +kernel); (exact hE2); (((apply jjT; exact rfl; rintro w' hq; have := hq.toStep; refine jO rfl rfl rfl rfl ?_; refine jz ?_; exact ⟨rfl, rfl⟩; apply jjT; exact rfl; rintro w' hq; have := hq.toStep; apply jI; exact eS rfl; refine jz ?_; exact ⟨rfl, rfl⟩; apply jjT; exact rfl; rintro w' hq; have := hq.toStep; apply jI; exact eI rfl; refine jz ?_; exact ⟨rfl, rfl⟩; apply jjT; exact rfl; rintro w' hq; have := hq.toStep; refine jH _ rfl rfl rfl (by omega) ?_; refine jz ?_; exact ⟨rfl, rfl⟩; apply jjT; exact rfl; rintro w' hq; have := hq.toStep; refine jQ rfl rfl ?_; refine jz ?_; exact ⟨rfl, rfl⟩; refine jjU ?_))))
  by_cases hkj : p = l[k]
  · have e : idP l p = some k := idP_some hd (by rw [List.getElem?_eq_getElem hkl, hkj])
    refine jjV [5] (by decide +kernel) hE2 (jjT (v := .bool true) rfl (fun w' q1 => ?_) (jjU ?_)); (refine Ops.eqlT (enc := encPl) p l[k] rfl rfl ?_; rw [decide_eq_true hkj]; refine jz ?_; exact ⟨rfl, rfl⟩)
    refine jjX (by decide +kernel) hE2 ?_
    (refine jjJ rfl ?_; refine jjB ?_; refine jjC ?_; apply jI; exact eI rfl; apply jJ; exact eI rfl; refine jz ?_; refine jjF ?_; refine jB rfl rfl ⟨inferInstance, ?_⟩)
    rw [e]; exact rfl
  · refine jjV [5] (by decide +kernel) hE2 (jjT (v := .bool false) rfl (fun w' q1 => ?_) (jjU ?_)); (refine Ops.eqlT (enc := encPl) p l[k] rfl rfl ?_; rw [decide_eq_false hkj]; refine jz ?_; exact ⟨rfl, rfl⟩)
    refine jjX (by decide +kernel) hE2 ?_
    (refine jjK rfl ?_; refine jjG ?_; refine jjC ?_; refine jY rfl rfl (by omega) ?_; apply jI; exact eI rfl; refine jz ?_)
    refine ⟨rfl, by ((refine Same.upd rfl ?_; refine Same.upd rfl ?_; refine Same.upd rfl ?_; refine Same.upd rfl ?_; refine Same.upd rfl ?_; refine Same.upd rfl ?_; refine Same.upd rfl ?_; refine Same.upd rfl ?_; refine Same.upd rfl ?_; refine Same.upd rfl ?_; refine Same.upd rfl ?_; refine Same.upd rfl ?_; exact Same.ovN)), l.length - (k + 1), by omega, inferInstance, k + 1, congrArg (Value.int .i64) (by omega), rfl, by omega, fun j hj hjk => ?_⟩
    by_cases e : j = k
    · subst e; exact fun h => hkj h.symm
    · exact hpre j hj (by omega)

section
variable (a : Option Addr) (c : Nat) (cs : List Ch) (wd side : Int) (w : World) [hrow : RowI w (.slice a cs.length c) true 2 (cs.map encCh)] [hT : TextI w cs] [hgs : At w 0 0 sidesC]
set_option maxHeartbeats 2000000 in
theorem made_slip (p : Pl) (hs : SmallT cs) (ht : textB (txF cs) = true) (hc : cutB wd side = true) : Ct Tryz.prog 51 [.agg #[.slice a cs.length c], encCut wd side, encPl p] w fun v _ => v = .tuple #[encSl ((makeF (txF cs) side wd p).getD noSl), .bool (makeF (txF cs) side wd p).isSome] := by
  have hs1 := hs.1
  have hcb := cutB_in hc
  refine Ct.ofW (by simp) ?_
  (refine jjB ?_; refine jjC ?_)
  (refine jy rfl ?_; intro b3 w_b3 hb_b3 hs_b3 hS_b3 hk_b3; have hA_b3 := At.ofBlock hk_b3)
  skip
  (refine jy rfl ?_; intro b4 w_b4 hb_b4 hs_b4 hS_b4 hk_b4; have hA_b4 := At.ofBlock hk_b4)
  skip
  (refine jy rfl ?_; intro b5 w_b5 hb_b5 hs_b5 hS_b5 hk_b5; have hA_b5 := At.ofBlock hk_b5)
  ((skip); refine jjY ?_; intro b6 w_b6 hb_b6 hs_b6 hS_b6 hk_b6; have hA_b6 := Bk.of hk_b6)
  (apply jJ; exact eB rfl; refine jz ?_; refine jjB ?_; refine jjB ?_; refine jjC ?_; refine jm ?_; refine jn rfl ?_; refine jN rfl rfl rfl ?_; refine jh rfl ?_; refine jZ rfl rfl (by omega) ?_; refine jm ?_; refine jn rfl ?_; refine jN rfl rfl rfl ?_)
  (refine jjP (v := .int _ _) rfl (by exact rfl) (by exact rfl) (by exact rfl) (by exact rfl) ?_; intro b7 w_b7 hb_b7 hs_b7 hS_b7 hk_b7; have hR_b7 := RowV.one (agg := false) (k := 1) rfl hk_b7)
  obtain ⟨B1, h1⟩ : ∃ B, inB 0 ((cs.length : Int) - 1) p.1 = B := ⟨_, rfl⟩
  skip
  refine jjQ (inOne_slip 0 ((cs.length : Int) - 1) p.1 b7 B1 _ h1 hR_b7) rfl rfl ?_
  rintro _ w8 hS8 rfl
  have hb6 : Bk w8 b6 [.int .i64 0, .int .i64 0, .int .i64 0, .string ⟨#[]⟩, .string ⟨#[]⟩, .string ⟨#[]⟩] 48 := inferInstance
  have hE8 : Ext w w8 := inferInstance
  cases B1
  · have e : makeF (txF cs) side wd p = none := makeF_no (by rw [txF_len]; simp [inB] at h1; omega)
    (refine jq rfl ?_; refine jz ?_; refine jjJ rfl ?_; refine jjB ?_; refine jjC ?_)
    (refine jjS (cells := [.int .i64 0, .int .i64 0, .int .i64 0, .string ⟨#[]⟩, .string ⟨#[]⟩, .string ⟨#[]⟩]) ?_ ?_; exact rfl)
    skip
    refine Ops.store rfl rfl rfl rfl rfl ?_
    intro V2 hp2
    have := Bk.toAt (h := Bk.of hp2.new)
    (apply jJ; exact eB rfl; refine jz ?_; refine jjF ?_)
    refine fin2C rfl rfl rfl rfl rfl rfl ⟨hp2.ext hE8 (by omega), ?_⟩
    rw [e]; exact rfl
  obtain ⟨k, hk, hpk⟩ : ∃ k : Nat, k < cs.length ∧ p.1 = k := ⟨p.1.toNat, by simp [inB] at h1; omega, by simp [inB] at h1; omega⟩
  have hmk := makeF_in (side := side) (W := wd) (k := k) (t := txF cs) (by rw [txF_len]; exact hk) hpk
  rw [wsT_get hk] at hmk
  obtain ⟨hn, hsz⟩ := rnW_small hs hk
  have hwi := rnW_fit ht hc hk
  have hlen : (runA k (chW cs[k])).length = (rnW cs[k]).length := runA_len _ _
  have hnd := runA_nodup k (chW cs[k])
  have hst : ∀ i, slK side wd k (chW cs[k]) i = slipX (rnW cs[k]) side wd i ((runA k (chW cs[k])).getD i (0, 0, 0)) := fun i => rfl
  have hb5' : At w8 b5 0 [.int .i64 (k : Int), .int .i64 p.2.1, .int .i64 p.2.2] := by
    have h : At w8 b5 0 [.int .i64 p.1, .int .i64 p.2.1, .int .i64 p.2.2] := inferInstance
    rwa [hpk] at h
  obtain ⟨p1, p2, p3⟩ := p
  obtain rfl : p1 = (k : Int) := hpk
  (refine jp rfl ?_; refine jz ?_; refine jjK rfl ?_; refine jjG ?_; refine jjB ?_; refine jjC ?_; refine jO rfl rfl rfl rfl ?_; refine jO rfl rfl rfl rfl ?_; refine jm ?_; refine jn rfl ?_; refine jN rfl rfl rfl ?_)
  refine jjQ (runs_slip a c cs _ hs wd side k hk) rfl rfl ?_
  rintro _ w9 hS9 ⟨wv, av, rfl, hOw, hOa⟩
  generalize rnW cs[k] = ws at *
  generalize hps : runA k (chW cs[k]) = ps at *
  obtain ⟨wa, wc, rfl⟩ := hOw.slice
  obtain ⟨aa, ac, rfl⟩ := hOa.slice
  rw [List.length_map] at hOw hOa ⊢
  rw [List.length_map]
  skip
  (apply jjR rfl; (intro _; first|exact eI rfl|exact eB rfl|exact eP rfl|exact eS rfl|exact eT rfl|exact eA rfl|exact eU rfl|exact eF rfl|exact eM rfl|exact eN rfl|exact rfl); exact rfl; exact rfl; exact rfl; exact rfl; intro b8 w_b8 hb_b8 hs_b8 hS_b8 hk_b8; have hA_b8 := Bk.of hk_b8)
  (refine jz ?_; refine jjB ?_; refine jjC ?_; refine jm ?_; refine jn rfl ?_; refine jN rfl rfl rfl ?_; refine jO rfl rfl rfl rfl ?_)
  obtain ⟨o, ho⟩ : ∃ o, idP ps ((k : Int), p2, p3) = o := ⟨_, rfl⟩
  rw [ho] at hmk
  refine jjQ ((Index_pl aa ac _ ps ((k : Int), p2, p3) _ rfl hnd (hOa.ext hS_b8.ext).row).mono fun v _ _ e => e.trans (by rw [ho])) rfl rfl ?_
  rintro _ wA hSA rfl
  have hE9 : Ext w8 wA := (hS9.ext.trans hS_b8.ext).trans hSA.ext
  have hb6A := hb6.ext hE9
  cases o with
  | none =>
    rw [show idxZ none = -1 from rfl]
    (apply jJ; exact eI rfl; refine jz ?_; refine jjB ?_; refine jjB ?_; refine jjC ?_; apply jI; exact eI rfl; refine jjZ rfl rfl (by omega) ?_; refine jz ?_; refine jjJ rfl ?_; refine jjB ?_; refine jjC ?_)
    (refine jjS (cells := [.int .i64 0, .int .i64 0, .int .i64 0, .string ⟨#[]⟩, .string ⟨#[]⟩, .string ⟨#[]⟩]) ?_ ?_; exact rfl)
    skip
    refine Ops.store rfl rfl rfl rfl rfl ?_
    intro V2 hp2
    have := Bk.toAt (h := Bk.of hp2.new)
    (apply jJ; exact eB rfl; refine jz ?_; refine jjF ?_)
    refine fin2C rfl rfl rfl rfl rfl rfl ⟨hp2.ext (hE8.trans hE9) (by omega), ?_⟩
    rw [hmk]; exact rfl
  | some i =>
    have hp := idP_get ho
    have hw : ws.length ≤ 1000000 := hn
    rw [show idxZ (some i) = (i : Int) from rfl]
    (apply jJ; exact eI rfl; refine jz ?_; refine jjB ?_; refine jjB ?_; refine jjC ?_; apply jI; exact eI rfl; refine jja rfl rfl (by omega) ?_; refine jz ?_; refine jjK rfl ?_; refine jjG ?_; refine jjB ?_; refine jjC ?_; refine jO rfl rfl rfl rfl ?_; apply jI; exact eI rfl)
    refine jjQ (slip_slip ws ps wd side i ((k : Int), p2, p3) wa wc aa ac _ hp hlen hsz hn (by omega) (by omega) hwi ((hOw.ext hS_b8.ext).ext hSA.ext).row ((hOa.ext hS_b8.ext).ext hSA.ext).row inferInstance) rfl rfl ?_
    rintro _ wB hSB rfl
    have hb6B := hb6A.ext hSB.ext
    skip
    refine Ops.store rfl rfl rfl rfl rfl ?_
    intro V2 hp2
    have := Bk.toAt (h := Bk.of hp2.new)
    (apply jJ; exact eB rfl; refine jz ?_; refine jjF ?_)
    refine fin2C rfl rfl rfl rfl rfl rfl ⟨hp2.ext ((hE8.trans hE9).trans hSB.ext) (by omega), ?_⟩
    rw [hmk, Option.map_some, hst, List.getD_eq_getElem?_getD, hp]; exact rfl
end
end Go.Proofs.YtpbkphaceljclaaGreatDoor

/- slices.AppendSeq, slices.Collect (of slips). -/
namespace Go.Proofs.YtpbkphaceljclaaGreatDoor
open Go.RowKit

theorem App.fr {M : World → Nat → Prop} {B : Nat} {w w' : World} {v : Value} (a : App B w w' v) (hM : ∀ k, v.ownBlock = some k → M w k) (ho : ∀ k, M w' k → M w k ∨ w.heap.size ≤ k) : Fr M w w' :=
  ⟨a.g.size, fun k _ hk _ hm => a.other hk (fun e => hm (hM k e)), ho⟩
theorem one_sl (x : Slp) : [encSl x].all (fun v => v.cells.toList.all (·.oneCell')) = true := rfl
theorem AppendSeq_sl (xs : List Slp) (gf : Nat) (lb : List Value) (Fct : World → Prop) (w : World) (hit : Iter Tryz.prog gf lb xs (fun s => [encSl s]) Fct) [he : Enters Tryz.prog gf] (hF : ∀ w', Ext w w' → Fct w') (hlen : xs.length ≤ 1000000) :
    Ct Tryz.prog 90 [.slice none 0 0, .func (.func gf) #[] lb.toArray] w fun v w' => OwnL w' w.heap.size 48 true 6 v (xs.map encSl) := by
  refine Ct.ofWM (by simp) ?_
  (refine jjB ?_; refine jjC ?_)
  (refine jy rfl ?_; intro b2 w_b2 hb_b2 hs_b2 hS_b2 hk_b2; have hA_b2 := At.ofBlock hk_b2)
  have hBk := Bk.of (cs := [.slice none 0 0]) hk_b2
  (apply jJ; exact eS rfl; refine jz ?_; refine jjB ?_; refine jjB ?_; refine jjC ?_; apply jI; exact eF rfl; refine jz ?_; refine jjD ?_)
  have hsz := hS_b2.size
  refine W.rangeM w.heap.size xs (fun s => [encSl s]) hit rfl (fun _ => rfl) trivial inferInstance hsz
    (fun i V => Ext w V ∧ w_b2.heap.size ≤ V.heap.size ∧ ∃ v, Bk V b2 [v] 64 ∧ OwnL V w_b2.heap.size 48 true 6 v ((xs.take i).map encSl))
    (fun _ _ _ => False) ?hJ (fun _ _ _ _ h _ => h) (fun i V h => hF V h.1) ⟨inferInstance, Nat.le_refl _, _, hBk, OwnL.nil _ _ _ _ _⟩
    (MB w_b2.heap.size b2) ?hW1 ?hW2 ?hW3 (fun x s' V => ∃ b5, s' 2 = .pointer (some ⟨b2, 0, none⟩) ∧ s' 5 = .pointer (some ⟨b5, 0, none⟩) ∧ Bk V b5 (encSl x).cells.toList 48) (fun x s V V' ⟨b5, h1, h2, h3⟩ g => ⟨b5, h1, h2, h3.grow g⟩) ?hassign ?hbody ?hdone (fun _ _ _ _ _ _ _ h => h.elim)
  case hJ =>
    rintro i V V' ⟨h1, h2, v, h3, h4⟩ g
    exact ⟨h1.ofGrow g hsz, Nat.le_trans h2 g.size, v, h3.grow g, h4.grow g⟩
  case hW1 => exact fun i V k ⟨h1, h2, v, h3, h4⟩ h => MB.lt h2 h3 h4 h
  case hW2 => exact fun i V V' k ⟨h1, h2, v, h3, h4⟩ g h => MB.back h3 g h
  case hW3 => exact fun V V' k g h => .inl (MB.grow (by omega) g h)
  case hassign =>
    rintro l i x V hx ⟨h1, h2, v, h3, h4⟩ hl hr
    (refine jjC ?_)
    (apply jjR rfl; (intro _; first|exact eI rfl|exact eB rfl|exact eP rfl|exact eS rfl|exact eT rfl|exact eA rfl|exact eU rfl|exact eF rfl|exact eM rfl|exact eN rfl|exact rfl); exact rfl; exact rfl; exact rfl; exact rfl; intro b5 w_b5 hb_b5 hs_b5 hS_b5 hk_b5; have hA_b5 := Bk.of hk_b5)
    (refine jz ?_)
    exact ⟨rfl, hS_b5.ext.tr, Fr.ofExt hS_b5.ext fun k hk => .inl (MB.same h3 (h3.ext hS_b5.ext) hk), ⟨h1.trans hS_b5.ext, by have := hS_b5.size; omega, v, h3.ext hS_b5.ext, h4.ext hS_b5.ext⟩, b5, rfl, rfl, inferInstance⟩
  case hbody =>
    rintro l i x s' V hx ⟨h1, h2, v, h3, h4⟩ ⟨b5, ha2, ha5, hb5⟩ hl hr
    have hlt := (List.getElem?_eq_some_iff.1 hx).1
    refine W.fix (d := 2) ha2 (W.fix (d := 5) ha5 ?_)
    have hb5' : Bk V b5 [.int .i64 x.1.1, .int .i64 x.1.2.1, .int .i64 x.1.2.2, .string x.2.1, .string x.2.2.1, .string x.2.2.2] 48 := hb5
    (refine jjD ?_; refine jjC ?_; refine jN rfl rfl rfl ?_; refine jO rfl rfl rfl rfl ?_)
    (refine jjP (v := .agg _) rfl (by exact rfl) (by exact rfl) (by exact rfl) (by exact rfl) ?_; intro b10 w_b10 hb_b10 hs_b10 hS_b10 hk_b10; have hR_b10 := RowV.one (agg := true) (k := 6) rfl hk_b10)
    have hown := h4.ext hS_b10.ext
    have hz10 := hS_b10.size
    have hR1 : RowV w_b10 true 6 (.slice (some ⟨b10, 0, none⟩) 1 1) [encSl x] := hR_b10
    refine Ops.appendL hown (by omega) hR1 rfl rfl rfl rfl (one_sl x) ?_ ?_ ?_
    · simp; omega
    · simp; omega
    intro v2 V2 hA hO _ hown2
    obtain ⟨a2, c2, rfl⟩ := hO.slice
    have hb2 : ∀ g, v.ownBlock = some g → w_b2.heap.size ≤ g := fun g hg => (h4.block g hg).1
    have hne : v.ownBlock ≠ some b2 := fun e => by have := hb2 b2 e; omega
    have hB2 : Bk V2 b2 [v] 64 := hA.bk (h3.ext hS_b10.ext) hne
    skip
    refine Ops.store rfl rfl rfl rfl rfl ?_
    intro V3 hp3
    (refine jz ?_)
    have hB3 : Bk V3 b2 [.slice a2 (List.map encSl (xs.take i) ++ [encSl x]).length c2] 64 := ⟨hp3.new⟩
    have hne2 : (Value.slice a2 (List.map encSl (xs.take i) ++ [encSl x]).length c2).ownBlock ≠ some b2 := fun e => by rcases hown2 with h | h <;> rw [h] at e; exact hne e; cases e; omega
    refine ⟨(hS_b10.ext.tr.trans hA.tr).trans (hp3.tr ⟨_, hB2.h, rfl⟩), ?_, hp3.ext (hA.ext (h1.trans hS_b10.ext) hsz) (by omega), ?_, _, hB3, ?_⟩
    · exact (Fr.ofExt hS_b10.ext fun k hk => .inl (MB.same h3 (h3.ext hS_b10.ext) hk)).trans (MB.append (by omega) (h3.ext hS_b10.ext) hA hp3 hB3 hown2)
    · have := hA.g.size; rw [hp3.size]; omega
    · rw [take_snoc_get hx, List.map_append]
      exact hO.put hp3 hne2
  case hdone =>
    rintro ds' V hmk htr ⟨h1, h2, v, h3, h4⟩
    have := h3
    (refine jjB ?_; refine jjC ?_; refine jN rfl rfl rfl ?_; apply jJ; exact rfl; refine jz ?_; refine jjF ?_)
    refine fin1M rfl rfl hmk fun w' g => ⟨h1.ofGrow g (Nat.le_refl _), ?_⟩
    rw [List.take_length] at h4
    exact (h4.grow g).mono hsz
theorem Collect_sl (xs : List Slp) (gf : Nat) (lb : List Value) (Fct : World → Prop) (w : World) (hit : Iter Tryz.prog gf lb xs (fun s => [encSl s]) Fct) [he : Enters Tryz.prog gf] (hF : ∀ w', Ext w w' → Fct w') (hlen : xs.length ≤ 1000000) :
    Ct Tryz.prog 54 [.func (.func gf) #[] lb.toArray] w fun v w' => OwnL w' w.heap.size 48 true 6 v (xs.map encSl) := by
  refine Ct.ofW (by simp) ?_
  (((refine jjB ?_; refine jjC ?_; apply jJ; exact eS rfl; refine jz ?_; refine jjB ?_; refine jjC ?_; apply jI; exact eF rfl)); refine jjQ (AppendSeq_sl xs gf lb Fct w hit hF hlen) rfl rfl ?_)
  rintro v w2 hS2 hO
  (apply jJ; exact rfl; refine jz ?_; refine jjF ?_; refine jB rfl rfl ⟨inferInstance, ?_⟩)
  exact hO
end Go.Proofs.YtpbkphaceljclaaGreatDoor

/- slip: Make, All, Part. -/
namespace Go.Proofs.YtpbkphaceljclaaGreatDoor
open Go.RowKit

section
variable (a : Option Addr) (c : Nat) (cs : List Ch) (wd side : Int) (w : World) [hrow : RowI w (.slice a cs.length c) true 2 (cs.map encCh)] [hT : TextI w cs] [hgs : At w 0 0 sidesC]
set_option maxHeartbeats 2000000 in
theorem Make_slip (p : Pl) (hs : SmallT cs) (hd : 0 ≤ side ∧ side ≤ 255) : Ct Tryz.prog 16 [.agg #[.slice a cs.length c], encCut wd side, encPl p] w fun v _ => v = .tuple #[encSl (makeR (txF cs) wd side p).1, .int .i64 (makeR (txF cs) wd side p).2] := by
  refine Ct.ofW (by simp) ?_
  (refine jjB ?_; refine jjC ?_)
  (refine jy rfl ?_; intro b3 w_b3 hb_b3 hs_b3 hS_b3 hk_b3; have hA_b3 := At.ofBlock hk_b3)
  skip
  (refine jy rfl ?_; intro b4 w_b4 hb_b4 hs_b4 hS_b4 hk_b4; have hA_b4 := At.ofBlock hk_b4)
  skip
  (refine jy rfl ?_; intro b5 w_b5 hb_b5 hs_b5 hS_b5 hk_b5; have hA_b5 := At.ofBlock hk_b5)
  ((skip); refine jjY ?_; intro b6 w_b6 hb_b6 hs_b6 hS_b6 hk_b6; have hA_b6 := Bk.of hk_b6)
  (apply jJ; exact eI rfl; refine jz ?_; refine jjB ?_; refine jjB ?_; refine jjC ?_; refine jO rfl rfl rfl rfl ?_; refine jO rfl rfl rfl rfl ?_)
  obtain ⟨e, he⟩ : ∃ e, askE (txF cs) wd side = e := ⟨_, rfl⟩
  have h3 := askE_in (txF cs) wd side
  rw [he] at h3
  refine jjQ ((open_slip a c cs wd side _ hs hd).mono fun v _ _ h => h.trans (by rw [he])) rfl rfl ?_
  rintro _ w8 hS8 rfl
  have hb6 : Bk w8 b6 [.int .i64 0, .int .i64 0, .int .i64 0, .string ⟨#[]⟩, .string ⟨#[]⟩, .string ⟨#[]⟩] 48 := inferInstance
  have hE8 : Ext w w8 := inferInstance
  by_cases h0 : e = 0
  rotate_left
  · (apply jJ; exact eI rfl; refine jz ?_; refine jjB ?_; refine jjC ?_; apply jI; exact eI rfl; refine jjj rfl rfl (by omega) ?_; refine jz ?_; refine jjJ rfl ?_; refine jjB ?_; refine jjC ?_)
    (refine jjS (cells := [.int .i64 0, .int .i64 0, .int .i64 0, .string ⟨#[]⟩, .string ⟨#[]⟩, .string ⟨#[]⟩]) ?_ ?_; exact rfl)
    (apply jI; exact eI rfl)
    refine Ops.store rfl rfl rfl rfl rfl ?_
    intro V2 hp2
    have := Bk.toAt (h := Bk.of hp2.new)
    (apply jJ; exact eI rfl; refine jz ?_; refine jjF ?_)
    refine fin2C rfl rfl rfl rfl rfl rfl ⟨hp2.ext hE8 (by omega), ?_⟩
    rw [makeR_no (by rw [he]; exact h0), he]; exact rfl
  subst h0
  obtain ⟨ht, hc⟩ := askE_zero he
  obtain ⟨o, ho⟩ : ∃ o, makeF (txF cs) side wd p = o := ⟨_, rfl⟩
  (apply jJ; exact eI rfl; refine jz ?_; refine jjB ?_; refine jjC ?_; apply jI; exact eI rfl; refine jjk rfl rfl (by omega) ?_; refine jz ?_; refine jjK rfl ?_; refine jjG ?_; refine jjB ?_; refine jjC ?_; refine jO rfl rfl rfl rfl ?_; refine jO rfl rfl rfl rfl ?_; refine jO rfl rfl rfl rfl ?_)
  refine jjQ ((made_slip a c cs wd side _ p hs ht hc).mono fun v _ _ h => h.trans (by rw [ho])) rfl rfl ?_
  rintro _ w9 hS9 rfl
  have hb69 := hb6.ext hS9.ext
  cases o with
  | none =>
    (apply jI; exact eU rfl; refine ju rfl rfl ?_; refine ju rfl rfl ?_)
    (apply jjR rfl; (intro _; first|exact eI rfl|exact eB rfl|exact eP rfl|exact eS rfl|exact eT rfl|exact eA rfl|exact eU rfl|exact eF rfl|exact eM rfl|exact eN rfl|exact rfl); exact rfl; exact rfl; exact rfl; exact rfl; intro b9 w_b9 hb_b9 hs_b9 hS_b9 hk_b9; have hA_b9 := Bk.of hk_b9)
    (apply jJ; exact eB rfl; refine jz ?_; refine jjB ?_; refine jjB ?_; refine jjC ?_; apply jI; exact eB rfl; refine jq rfl ?_; refine jz ?_; refine jjJ rfl ?_; refine jjB ?_; refine jjC ?_)
    (refine jjS (cells := [.int .i64 0, .int .i64 0, .int .i64 0, .string ⟨#[]⟩, .string ⟨#[]⟩, .string ⟨#[]⟩]) ?_ ?_; exact rfl)
    skip
    refine Ops.store rfl rfl rfl rfl rfl ?_
    intro V2 hp2
    have := Bk.toAt (h := Bk.of hp2.new)
    (apply jJ; exact eI rfl; refine jz ?_; refine jjF ?_)
    refine fin2C rfl rfl rfl rfl rfl rfl ⟨hp2.ext ((hE8.trans hS9.ext).trans hS_b9.ext) (by omega), ?_⟩
    rw [makeR_none he ho]; exact rfl
  | some s =>
    (apply jI; exact eU rfl; refine ju rfl rfl ?_; refine ju rfl rfl ?_)
    (apply jjR rfl; (intro _; first|exact eI rfl|exact eB rfl|exact eP rfl|exact eS rfl|exact eT rfl|exact eA rfl|exact eU rfl|exact eF rfl|exact eM rfl|exact eN rfl|exact rfl); exact rfl; exact rfl; exact rfl; exact rfl; intro b9 w_b9 hb_b9 hs_b9 hS_b9 hk_b9; have hA_b9 := Bk.of hk_b9)
    (apply jJ; exact eB rfl; refine jz ?_; refine jjB ?_; refine jjB ?_; refine jjC ?_; apply jI; exact eB rfl; refine jp rfl ?_; refine jz ?_; refine jjK rfl ?_; refine jjG ?_; refine jjB ?_; refine jjC ?_; refine jO rfl rfl rfl rfl ?_)
    refine Ops.store rfl rfl rfl rfl rfl ?_
    intro V2 hp2
    have := Bk.toAt (h := Bk.of hp2.new)
    (apply jJ; exact eI rfl; refine jz ?_; refine jjF ?_)
    refine fin2C rfl rfl rfl rfl rfl rfl ⟨hp2.ext ((hE8.trans hS9.ext).trans hS_b9.ext) (by omega), ?_⟩
    rw [makeR_some he ho]; exact rfl
theorem All_slip (hs : SmallT cs) (hd : 0 ≤ side ∧ side ≤ 255) : Ct Tryz.prog 23 [.agg #[.slice a cs.length c], encCut wd side] w fun v w' => ∃ sv, v = .tuple #[sv, .int .i64 (askE (txF cs) wd side)] ∧ OwnL w' w.heap.size 48 true 6 sv ((allR (txF cs) wd side).map encSl) := by
  refine Ct.ofW (by simp) ?_
  (refine jjB ?_; refine jjC ?_)
  (refine jy rfl ?_; intro b2 w_b2 hb_b2 hs_b2 hS_b2 hk_b2; have hA_b2 := At.ofBlock hk_b2)
  skip
  (refine jy rfl ?_; intro b3 w_b3 hb_b3 hs_b3 hS_b3 hk_b3; have hA_b3 := At.ofBlock hk_b3)
  (apply jJ; exact eS rfl; apply jJ; exact eI rfl; refine jz ?_; refine jjB ?_; refine jjB ?_; refine jjC ?_; refine jO rfl rfl rfl rfl ?_; refine jO rfl rfl rfl rfl ?_)
  obtain ⟨e, he⟩ : ∃ e, askE (txF cs) wd side = e := ⟨_, rfl⟩
  have h3 := askE_in (txF cs) wd side
  rw [he] at h3
  refine jjQ ((open_slip a c cs wd side _ hs hd).mono fun v _ _ h => h.trans (by rw [he])) rfl rfl ?_
  rintro _ w8 hS8 rfl
  by_cases h0 : e = 0
  rotate_left
  · (apply jJ; exact eI rfl; refine jz ?_; refine jjB ?_; refine jjC ?_; apply jI; exact eI rfl; refine jjj rfl rfl (by omega) ?_; refine jz ?_; refine jjJ rfl ?_; refine jjB ?_; refine jjC ?_; apply jI; exact eI rfl; apply jJ; exact eS rfl; apply jJ; exact eI rfl; refine jz ?_; refine jjF ?_; refine jC rfl rfl rfl ⟨inferInstance, ?_⟩)
    rw [he, allR, if_neg (by rw [he]; exact h0)]
    exact ⟨_, rfl, OwnL.nil _ _ _ _ _⟩
  subst h0
  obtain ⟨ht, hc⟩ := askE_zero he
  (apply jJ; exact eI rfl; refine jz ?_; refine jjB ?_; refine jjC ?_; apply jI; exact eI rfl; refine jjk rfl rfl (by omega) ?_; refine jz ?_; refine jjK rfl ?_; refine jjG ?_; refine jjB ?_; refine jjC ?_; refine jO rfl rfl rfl rfl ?_; refine jO rfl rfl rfl rfl ?_)
  refine jjQ (slips_slip a c cs wd side _) rfl rfl ?_
  rintro _ w9 hS9 ⟨bt, bc, rfl, _, hA1, hA2⟩
  have hE9 : Ext w w9 := inferInstance
  skip
  refine jjQ (Collect_sl (allS (txF cs) side wd) _ _ _ _ (slips1_slip bt bc a c cs wd side hs ht hc) (fun w' h => ⟨hA1.ext h, hA2.ext h, hrow.h.ext (hE9.trans h), hT.ext (hE9.trans h), hgs.ext (hE9.trans h)⟩) (by have := allS_len (side := side) (wd := wd) ht; omega)) rfl rfl ?_
  rintro sv wA hSA hO
  (apply jJ; exact rfl; apply jJ; exact eI rfl; refine jz ?_; refine jjF ?_; refine jC rfl rfl rfl ⟨inferInstance, ?_⟩)
  rw [he, allR, if_pos he]
  exact ⟨sv, rfl, hO.mono hE9.size⟩
end
end Go.Proofs.YtpbkphaceljclaaGreatDoor

/- slip: Part. -/
namespace Go.Proofs.YtpbkphaceljclaaGreatDoor
open Go.RowKit

theorem filter_snoc {α : Type} {f : α → Bool} {l : List α} {i : Nat} {x : α} (h : l[i]? = some x) : (l.take (i + 1)).filter f = (l.take i).filter f ++ (if f x then [x] else []) := by
  rw [take_snoc_get h, List.filter_append]
  congr 1
  cases hf : f x <;> simp [hf]
section
variable (a : Option Addr) (c : Nat) (cs : List Ch) (wd side : Int) (w : World) [hrow : RowI w (.slice a cs.length c) true 2 (cs.map encCh)] [hT : TextI w cs] [hgs : At w 0 0 sidesC]
set_option maxHeartbeats 4000000 in
theorem Part_slip (p q : Pl) (hs : SmallT cs) (hd : 0 ≤ side ∧ side ≤ 255) : Ct Tryz.prog 33 [.agg #[.slice a cs.length c], encCut wd side, encPl p, encPl q] w fun v w' => ∃ sv, v = .tuple #[sv, .int .i64 (partR (txF cs) wd side p q).2] ∧ OwnL w' w.heap.size 48 true 6 sv ((partR (txF cs) wd side p q).1.map encSl) := by
  refine Ct.ofWM (by simp) ?_
  (refine jjB ?_; refine jjC ?_)
  (refine jy rfl ?_; intro b4 w_b4 hb_b4 hs_b4 hS_b4 hk_b4; have hA_b4 := At.ofBlock hk_b4)
  skip
  (refine jy rfl ?_; intro b5 w_b5 hb_b5 hs_b5 hS_b5 hk_b5; have hA_b5 := At.ofBlock hk_b5)
  skip
  (refine jy rfl ?_; intro b6 w_b6 hb_b6 hs_b6 hS_b6 hk_b6; have hA_b6 := At.ofBlock hk_b6)
  skip
  (refine jy rfl ?_; intro b7 w_b7 hb_b7 hs_b7 hS_b7 hk_b7; have hA_b7 := At.ofBlock hk_b7)
  (apply jJ; exact eS rfl; apply jJ; exact eI rfl; refine jz ?_; refine jjB ?_; refine jjB ?_; refine jjC ?_; refine jO rfl rfl rfl rfl ?_; refine jO rfl rfl rfl rfl ?_)
  obtain ⟨e, he⟩ : ∃ e, askE (txF cs) wd side = e := ⟨_, rfl⟩
  have h3 := askE_in (txF cs) wd side
  rw [he] at h3
  refine jjQ ((open_slip a c cs wd side _ hs hd).mono fun v _ _ h => h.trans (by rw [he])) rfl rfl ?_
  rintro _ w8 hS8 rfl
  have hE8 : Ext w w8 := inferInstance
  by_cases h0 : e = 0
  rotate_left
  · (apply jJ; exact eI rfl; refine jz ?_; refine jjB ?_; refine jjC ?_; apply jI; exact eI rfl; refine jjj rfl rfl (by omega) ?_; refine jz ?_; refine jjJ rfl ?_; refine jjB ?_; refine jjC ?_; apply jI; exact eI rfl; apply jJ; exact eS rfl; apply jJ; exact eI rfl; refine jz ?_; refine jjF ?_)
    refine fin2M rfl rfl rfl inferInstance fun w' g => ⟨hE8.ofGrow g (Nat.le_refl _), ?_⟩
    rw [partR, if_pos (by rw [he]; exact h0), he]
    exact ⟨_, rfl, OwnL.nil _ _ _ _ _⟩
  subst h0
  obtain ⟨ht, hc⟩ := askE_zero he
  obtain ⟨o1, ho1⟩ : ∃ o, makeF (txF cs) side wd p = o := ⟨_, rfl⟩
  obtain ⟨o2, ho2⟩ : ∃ o, makeF (txF cs) side wd q = o := ⟨_, rfl⟩
  (apply jJ; exact eI rfl; refine jz ?_; refine jjB ?_; refine jjC ?_; apply jI; exact eI rfl; refine jjk rfl rfl (by omega) ?_; refine jz ?_; refine jjK rfl ?_; refine jjG ?_; refine jjB ?_; refine jjC ?_; refine jO rfl rfl rfl rfl ?_; refine jO rfl rfl rfl rfl ?_; refine jO rfl rfl rfl rfl ?_)
  refine jjQ ((made_slip a c cs wd side _ p hs ht hc).mono fun v _ _ h => h.trans (by rw [ho1])) rfl rfl ?_
  rintro _ w9 hS9 rfl
  (apply jI; exact eU rfl; refine ju rfl rfl ?_; refine ju rfl rfl ?_)
  (apply jjR rfl; (intro _; first|exact eI rfl|exact eB rfl|exact eP rfl|exact eS rfl|exact eT rfl|exact eA rfl|exact eU rfl|exact eF rfl|exact eM rfl|exact eN rfl|exact rfl); exact rfl; exact rfl; exact rfl; exact rfl; intro b11 w_b11 hb_b11 hs_b11 hS_b11 hk_b11; have hA_b11 := Bk.of hk_b11)
  (apply jJ; exact eB rfl; refine jz ?_; refine jjB ?_; refine jjC ?_; refine jO rfl rfl rfl rfl ?_; refine jO rfl rfl rfl rfl ?_; refine jO rfl rfl rfl rfl ?_)
  refine jjQ ((made_slip a c cs wd side _ q hs ht hc).mono fun v _ _ h => h.trans (by rw [ho2])) rfl rfl ?_
  rintro _ w10 hS10 rfl
  (apply jI; exact eU rfl; refine ju rfl rfl ?_; refine ju rfl rfl ?_)
  (apply jjR rfl; (intro _; first|exact eI rfl|exact eB rfl|exact eP rfl|exact eS rfl|exact eT rfl|exact eA rfl|exact eU rfl|exact eF rfl|exact eM rfl|exact eN rfl|exact rfl); exact rfl; exact rfl; exact rfl; exact rfl; intro b13 w_b13 hb_b13 hs_b13 hS_b13 hk_b13; have hA_b13 := Bk.of hk_b13)
  have hE13 : Ext w w_b13 := inferInstance
  have hpr : partR (txF cs) wd side p q = if o1 = none ∨ o2 = none then ([], 12) else if befP q p then ([], 2) else (((allP (txF cs) (txF cs).length).filter (inP p q)).map (slP (txF cs) side wd), 0) := by
    rw [partR, if_neg (by rw [he]; simp), ho1, ho2]
  rw [hpr]
  clear hpr
  cases o1 with
  | none =>
    (apply jJ; exact eB rfl; refine jz ?_; refine jjB ?_; refine jjD ?_; refine jjB ?_; refine jjC ?_; apply jI; exact eB rfl; refine jq rfl ?_; apply jI; exact eB rfl; refine jU rfl rfl rfl rfl ?_; refine jU rfl rfl rfl rfl ?_; apply jK rfl; exact eB rfl; apply jJ; exact eB rfl; refine jz ?_; refine jjJ rfl ?_; refine jjB ?_; refine jjC ?_; apply jJ; exact eS rfl; apply jJ; exact eI rfl; refine jz ?_; refine jjF ?_)
    refine fin2M rfl rfl rfl inferInstance fun w' g => ⟨hE13.ofGrow g (Nat.le_refl _), ?_⟩
    rw [if_pos (.inl rfl)]
    exact ⟨_, rfl, OwnL.nil _ _ _ _ _⟩
  | some s1 =>
  cases o2 with
  | none =>
    (apply jJ; exact eB rfl; refine jz ?_; refine jjB ?_; refine jjD ?_; refine jjB ?_; refine jjC ?_; apply jI; exact eB rfl; refine jp rfl ?_; apply jI; exact eB rfl; refine jT rfl rfl rfl ?_; apply jI; exact eB rfl; refine jT rfl rfl rfl ?_; refine jq rfl ?_; apply jL rfl; exact eB rfl; apply jJ; exact eB rfl; refine jz ?_; refine jjJ rfl ?_; refine jjB ?_; refine jjC ?_; apply jJ; exact eS rfl; apply jJ; exact eI rfl; refine jz ?_; refine jjF ?_)
    refine fin2M rfl rfl rfl inferInstance fun w' g => ⟨hE13.ofGrow g (Nat.le_refl _), ?_⟩
    rw [if_pos (.inr rfl)]
    exact ⟨_, rfl, OwnL.nil _ _ _ _ _⟩
  | some s2 =>
  rw [if_neg (by simp)]
  (apply jJ; exact eB rfl; refine jz ?_; refine jjB ?_; refine jjD ?_; refine jjB ?_; refine jjC ?_; apply jI; exact eB rfl; refine jp rfl ?_; apply jI; exact eB rfl; refine jT rfl rfl rfl ?_; apply jI; exact eB rfl; refine jT rfl rfl rfl ?_; refine jp rfl ?_; apply jL rfl; exact eB rfl; apply jJ; exact eB rfl; refine jz ?_; refine jjK rfl ?_; refine jjB ?_; refine jjC ?_; refine jO rfl rfl rfl rfl ?_; refine jO rfl rfl rfl rfl ?_)
  refine jjQ (places_slip q p _) rfl rfl ?_
  rintro _ w14 hS14 rfl
  have hE14 : Ext w w14 := inferInstance
  have hcm := cmpP_neg q p
  cases hbf : befP q p with
  | true =>
    rw [hbf] at hcm
    have hlt := of_decide_eq_true hcm
    (refine jjZ rfl rfl (by omega) ?_; apply jJ; exact eB rfl; refine jz ?_; refine jjJ rfl ?_; refine jjB ?_; refine jjC ?_; apply jJ; exact eS rfl; apply jJ; exact eI rfl; refine jz ?_; refine jjF ?_)
    refine fin2M rfl rfl rfl inferInstance fun w' g => ⟨hE14.ofGrow g (Nat.le_refl _), ?_⟩
    exact ⟨_, rfl, OwnL.nil _ _ _ _ _⟩
  | false =>
  rw [hbf] at hcm
  have hge := of_decide_eq_false hcm
  rw [if_neg (by simp)]
  (refine jja rfl rfl (by omega) ?_; apply jJ; exact eB rfl; refine jz ?_; refine jjK rfl ?_; refine jjG ?_; refine jjB ?_; refine jjC ?_)
  ((skip); refine jjY ?_; intro b15 w_b15 hb_b15 hs_b15 hS_b15 hk_b15; have hA_b15 := Bk.of hk_b15)
  (refine jz ?_; refine jjB ?_; refine jjB ?_; refine jjC ?_; refine jO rfl rfl rfl rfl ?_; refine jO rfl rfl rfl rfl ?_)
  refine jjQ (slips_slip a c cs wd side _) rfl rfl ?_
  rintro _ w16 hS16 ⟨bt, bc, rfl, ⟨hbt, hbc⟩, hA1, hA2⟩
  (refine jz ?_; refine jjD ?_)
  have hE16 : Ext w w16 := inferInstance
  have hsz := hE16.size
  have hb6 : At w16 b6 0 [.int .i64 p.1, .int .i64 p.2.1, .int .i64 p.2.2] := inferInstance
  have hb7 : At w16 b7 0 [.int .i64 q.1, .int .i64 q.2.1, .int .i64 q.2.2] := inferInstance
  have hb15 : Bk w16 b15 [.slice none 0 0] 64 := inferInstance
  have n6 : b6 < b15 := by have := hS8.size; have := hS9.size; have := hS10.size; have := hS14.size; omega
  have n7 : b7 < b15 := by have := hS8.size; have := hS9.size; have := hS10.size; have := hS14.size; omega
  have nt : w_b15.heap.size ≤ w16.heap.size := hS16.size
  have n15 : w.heap.size ≤ b15 := by have := hE14.size; omega
  have hal := allS_len (side := side) (wd := wd) ht
  have hfin : (allS (txF cs) side wd).filter (fun s => inP p q s.1) = ((allP (txF cs) (txF cs).length).filter (inP p q)).map (slP (txF cs) side wd) := filter_slP _
  refine W.rangeM w.heap.size (allS (txF cs) side wd) encSl1 (slips1_slip bt bc a c cs wd side hs ht hc) rfl (fun _ => rfl) trivial inferInstance hsz
    (fun i V => Ext w V ∧ w16.heap.size ≤ V.heap.size ∧ At V b6 0 [.int .i64 p.1, .int .i64 p.2.1, .int .i64 p.2.2] ∧ At V b7 0 [.int .i64 q.1, .int .i64 q.2.1, .int .i64 q.2.2] ∧ (At V bt 0 [.slice a cs.length c] ∧ At V bc 0 [.int .i64 wd, .int .u8 side]) ∧ ∃ v, Bk V b15 [v] 64 ∧ OwnL V w16.heap.size 48 true 6 v ((((allS (txF cs) side wd).take i).filter (fun s => inP p q s.1)).map encSl))
    (fun _ _ _ => False) ?hJ (fun _ _ _ _ h _ => h) ?hF ?h0 (MB w16.heap.size b15) ?hW1 ?hW2 ?hW3 (fun x s' V => ∃ b, s' 6 = .pointer (some ⟨b6, 0, none⟩) ∧ s' 7 = .pointer (some ⟨b7, 0, none⟩) ∧ s' 15 = .pointer (some ⟨b15, 0, none⟩) ∧ s' 16 = .pointer (some ⟨b, 0, none⟩) ∧ Bk V b (encSl x).cells.toList 48) (fun x s V V' ⟨b5, h1, h2, h2', h2'', h3⟩ g => ⟨b5, h1, h2, h2', h2'', h3.grow g⟩) ?hassign ?hbody ?hdone (fun _ _ _ _ _ _ _ h => h.elim)
  case hJ =>
    rintro i V V' ⟨h1, h2, k6, k7, ⟨kt, kc⟩, v, h3, h4⟩ g
    exact ⟨h1.ofGrow g hsz, Nat.le_trans h2 g.size, k6.grow g, k7.grow g, ⟨kt.grow g, kc.grow g⟩, v, h3.grow g, h4.grow g⟩
  case hF =>
    rintro i V ⟨h1, h2, k6, k7, ⟨kt, kc⟩, v, h3, h4⟩
    exact ⟨kt, kc, hrow.h.ext h1, hT.ext h1, hgs.ext h1⟩
  case h0 => exact ⟨hE16, Nat.le_refl _, hb6, hb7, ⟨hA1, hA2⟩, _, hb15, OwnL.nil _ _ _ _ _⟩
  case hW1 => exact fun i V k ⟨h1, h2, _, _, _, v, h3, h4⟩ h => MB.lt h2 h3 h4 h
  case hW2 => exact fun i V V' k ⟨h1, h2, _, _, _, v, h3, h4⟩ g h => MB.back h3 g h
  case hW3 => exact fun V V' k g h => .inl (MB.grow (by omega) g h)
  case hassign =>
    rintro l i x V hx ⟨h1, h2, k6, k7, ⟨kt, kc⟩, v, h3, h4⟩ hl hr
    (refine jjC ?_)
    (apply jjR rfl; (intro _; first|exact eI rfl|exact eB rfl|exact eP rfl|exact eS rfl|exact eT rfl|exact eA rfl|exact eU rfl|exact eF rfl|exact eM rfl|exact eN rfl|exact rfl); exact rfl; exact rfl; exact rfl; exact rfl; intro bx w_bx hb_bx hs_bx hS_bx hk_bx; have hA_bx := Bk.of hk_bx)
    (refine jz ?_)
    exact ⟨rfl, hS_bx.ext.tr, Fr.ofExt hS_bx.ext fun k hk => .inl (MB.same h3 (h3.ext hS_bx.ext) hk), ⟨h1.trans hS_bx.ext, by have := hS_bx.size; omega, k6.ext hS_bx.ext, k7.ext hS_bx.ext, ⟨kt.ext hS_bx.ext, kc.ext hS_bx.ext⟩, v, h3.ext hS_bx.ext, h4.ext hS_bx.ext⟩, bx, rfl, rfl, rfl, rfl, inferInstance⟩
  case hbody =>
    rintro l i x s' V hx ⟨h1, h2, k6, k7, ⟨kt, kc⟩, v, h3, h4⟩ ⟨bx, ha6, ha7, ha15, ha16, hbx⟩ hl hr
    have hlt := (List.getElem?_eq_some_iff.1 hx).1
    have hfl := List.length_filter_le (fun s => inP p q s.1) ((allS (txF cs) side wd).take i)
    rw [List.length_take] at hfl
    have hsn := filter_snoc (f := fun s => inP p q s.1) hx
    refine W.fix (d := 6) ha6 (W.fix (d := 7) ha7 (W.fix (d := 15) ha15 (W.fix (d := 16) ha16 ?_)))
    clear ha6 ha7 ha15 ha16
    have hbx' : At V bx 0 [.int .i64 x.1.1, .int .i64 x.1.2.1, .int .i64 x.1.2.2, .string x.2.1, .string x.2.2.1, .string x.2.2.2] := Bk.toAt (h := hbx)
    have c1 := cmpP_neg x.1 p
    have c2 := cmpP_pos x.1 q
    (refine jjD ?_; refine jjB ?_; refine jjC ?_; refine jm ?_; refine jn rfl ?_; refine jO rfl rfl rfl rfl ?_; refine jO rfl rfl rfl rfl ?_)
    refine jjQ (places_slip x.1 p _) rfl rfl ?_
    rintro _ V2 hS2 rfl
    have e2 := hS2.ext
    cases hb1 : befP x.1 p with
    | true =>
      rw [hb1] at c1
      have := of_decide_eq_true c1
      have hf : inP p q x.1 = false := by simp [inP, hb1]
      simp only [hf] at hsn
      (refine jjg rfl rfl (by omega) ?_; apply jI; exact eB rfl; refine jU rfl rfl rfl rfl ?_; refine jU rfl rfl rfl rfl ?_; refine jU rfl rfl rfl rfl ?_; refine jU rfl rfl rfl rfl ?_; refine jU rfl rfl rfl rfl ?_; apply jL rfl; exact eB rfl; refine jz ?_; refine jjK rfl ?_; refine jjG ?_)
      refine ⟨e2.tr, Fr.ofExt e2 fun k hk => .inl (MB.same h3 (h3.ext e2) hk), h1.trans e2, by have := e2.size; omega, k6.ext e2, k7.ext e2, ⟨kt.ext e2, kc.ext e2⟩, v, h3.ext e2, ?_⟩
      rw [hsn]; simpa using h4.ext e2
    | false =>
    rw [hb1] at c1
    have := of_decide_eq_false c1
    (refine jjf rfl rfl (by omega) ?_; apply jI; exact eB rfl; refine jT rfl rfl rfl ?_; refine jm ?_; refine jn rfl ?_; refine jT rfl rfl rfl ?_; refine jO rfl rfl rfl rfl ?_; refine jT rfl rfl rfl ?_; refine jO rfl rfl rfl rfl ?_; refine jT rfl rfl rfl ?_)
    refine jjQ (places_slip x.1 q _) rfl rfl ?_
    rintro _ V3 hS3 rfl
    have e3 := e2.trans hS3.ext
    cases hb2 : befP q x.1 with
    | true =>
      rw [hb2] at c2
      have := of_decide_eq_true c2
      have hf : inP p q x.1 = false := by simp [inP, hb2]
      simp only [hf] at hsn
      (refine jT rfl rfl rfl ?_; refine jjc rfl rfl (by omega) ?_; apply jK rfl; exact eB rfl; refine jz ?_; refine jjK rfl ?_; refine jjG ?_)
      refine ⟨e3.tr, Fr.ofExt e3 fun k hk => .inl (MB.same h3 (h3.ext e3) hk), h1.trans e3, by have := e3.size; omega, k6.ext e3, k7.ext e3, ⟨kt.ext e3, kc.ext e3⟩, v, h3.ext e3, ?_⟩
      rw [hsn]; simpa using h4.ext e3
    | false =>
    rw [hb2] at c2
    have := of_decide_eq_false c2
    have hf : inP p q x.1 = true := by simp [inP, hb1, hb2]
    simp only [hf, if_true] at hsn
    have h33 := h3.ext e3
    have h43 := h4.ext e3
    have z3 := e3.size
    (refine jT rfl rfl rfl ?_; refine jjb rfl rfl (by omega) ?_; apply jK rfl; exact eB rfl; refine jz ?_; refine jjJ rfl ?_; refine jjC ?_; refine jN rfl rfl rfl ?_; refine jO rfl rfl rfl rfl ?_)
    (refine jjP (v := .agg _) rfl (by exact rfl) (by exact rfl) (by exact rfl) (by exact rfl) ?_; intro b10 w_b10 hb_b10 hs_b10 hS_b10 hk_b10; have hR_b10 := RowV.one (agg := true) (k := 6) rfl hk_b10)
    have hR1 : RowV w_b10 true 6 (.slice (some ⟨b10, 0, none⟩) 1 1) [encSl x] := hR_b10
    have hz10 := hS_b10.size
    refine Ops.appendL (h43.ext hS_b10.ext) (by omega) hR1 rfl rfl rfl rfl (one_sl x) ?_ ?_ ?_
    · rw [List.length_map]; simp only [List.length_cons, List.length_nil]; omega
    · rw [List.length_map]; simp only [List.length_cons, List.length_nil]; omega
    intro v2 V4 hA hO _ hown2
    obtain ⟨a2, c2', rfl⟩ := hO.slice
    have hbl : ∀ g, v.ownBlock = some g → w16.heap.size ≤ g := fun g hg => (h4.block g hg).1
    have hne : v.ownBlock ≠ some b15 := fun e => by have := hbl b15 e; omega
    have hB2 : Bk V4 b15 [v] 64 := hA.bk (h33.ext hS_b10.ext) hne
    skip
    refine Ops.store rfl rfl rfl rfl rfl ?_
    intro V5 hp5
    (refine jz ?_)
    have hB3 : Bk V5 b15 [.slice a2 (List.map encSl (((allS (txF cs) side wd).take i).filter (fun s => inP p q s.1)) ++ [encSl x]).length c2'] 64 := ⟨hp5.new⟩
    have hne2 : (Value.slice a2 (List.map encSl (((allS (txF cs) side wd).take i).filter (fun s => inP p q s.1)) ++ [encSl x]).length c2').ownBlock ≠ some b15 := fun e => by rcases hown2 with h | h <;> rw [h] at e; exact hne e; cases e; omega
    have e10 := e3.trans hS_b10.ext
    have hnb : ∀ b, b < w16.heap.size → v.ownBlock ≠ some b := fun b h e => by have := hbl b e; omega
    have ht16 := hA1.lt
    have hc16 := hA2.lt
    refine ⟨(e10.tr.trans hA.tr).trans (hp5.tr ⟨_, hB2.h, rfl⟩), ?_, hp5.ext (hA.ext (h1.trans e10) hsz) (by omega), ?_, hp5.at_ (hA.at_ (k6.ext e10) (hnb _ (by omega))) (by omega), hp5.at_ (hA.at_ (k7.ext e10) (hnb _ (by omega))) (by omega), ⟨hp5.at_ (hA.at_ (kt.ext e10) (hnb _ ht16)) (by omega), hp5.at_ (hA.at_ (kc.ext e10) (hnb _ hc16)) (by omega)⟩, _, hB3, ?_⟩
    · exact (Fr.ofExt e10 fun k hk => .inl (MB.same h3 (h3.ext e10) hk)).trans (MB.append (by omega) (h3.ext e10) hA hp5 hB3 hown2)
    · have := hA.g.size; rw [hp5.size]; omega
    · rw [hsn, List.map_append]
      exact hO.put hp5 hne2
  case hdone =>
    rintro ds' V hmk htr ⟨h1, h2, k6, k7, ⟨kt, kc⟩, v, h3, h4⟩
    obtain ⟨va, vl, vc, rfl⟩ := h4.slice3
    have := h3
    (refine jjB ?_; refine jjC ?_; refine jN rfl rfl rfl ?_; apply jJ; exact eS rfl; apply jJ; exact eI rfl; refine jz ?_; refine jjF ?_)
    refine fin2M rfl rfl rfl hmk fun w' g => ⟨h1.ofGrow g (Nat.le_refl _), ?_⟩
    rw [List.take_length, hfin] at h4
    exact ⟨_, rfl, (h4.grow g).mono hsz⟩
end
end Go.Proofs.YtpbkphaceljclaaGreatDoor

/- slip: Where. -/
namespace Go.Proofs.YtpbkphaceljclaaGreatDoor
open Go.RowKit

/-- The words of a slip, in their order. -/
def wantS (s : Slp) : List ByteArray := wordsL s.2.2.1 ++ ([s.2.1] ++ wordsL s.2.2.2)
def hitB (want ws : List ByteArray) (i : Nat) : Bool := decide ((ws.drop i).take want.length = want)
/-- Where these words stand in a chapter: the places of the word nb of them. -/
def whK (want : List ByteArray) (nb : Nat) (ws : List ByteArray) (ps : List Pl) (m : Nat) : List Pl := ((List.range m).filter (hitB want ws)).map fun i => ps.getD (i + nb) (0, 0, 0)
theorem whK_succ (want : List ByteArray) (nb : Nat) (ws : List ByteArray) (ps : List Pl) (m : Nat) : whK want nb ws ps (m + 1) = whK want nb ws ps m ++ (if hitB want ws m then [ps.getD (m + nb) (0, 0, 0)] else []) := by
  rw [whK, List.range_succ, List.filter_append, List.map_append]
  congr 1
  cases h : hitB want ws m <;> simp [h]
theorem whK_len (want : List ByteArray) (nb : Nat) (ws : List ByteArray) (ps : List Pl) (m : Nat) : (whK want nb ws ps m).length ≤ m := by
  rw [whK, List.length_map]
  exact Nat.le_trans (List.length_filter_le _ _) (by simp)
def whN (t : Tx) (want : List ByteArray) (nb n : Nat) : List Pl := (List.range n).flatMap fun k => whK want nb (wsT t k).flatten (runA k (wsT t k)) (wsT t k).flatten.length
theorem whN_succ (t : Tx) (want : List ByteArray) (nb n : Nat) : whN t want nb (n + 1) = whN t want nb n ++ whK want nb (wsT t n).flatten (runA n (wsT t n)) (wsT t n).flatten.length := by
  rw [whN, List.range_succ, List.flatMap_append]; simp [whN]
def whereF (t : Tx) (s : Slp) : List Pl := whN t (wantS s) (wordsL s.2.2.1).length t.length
def whereR (t : Tx) (s : Slp) : List Pl × Int := if textB t = false then ([], 10) else if slipB s = false then ([], 31) else (whereF t s, 0)
theorem whereR_no {t : Tx} {s : Slp} (h : textB t = false) : whereR t s = ([], 10) := by rw [whereR, if_pos h]
theorem whereR_bad {t : Tx} {s : Slp} (h : textB t = true) (h2 : slipB s = false) : whereR t s = ([], 31) := by rw [whereR, if_neg (by simp [h]), if_pos h2]
theorem whereR_yes {t : Tx} {s : Slp} (h : textB t = true) (h2 : slipB s = true) : whereR t s = (whereF t s, 0) := by rw [whereR, if_neg (by simp [h]), if_neg (by simp [h2])]
theorem wordsL_len (s : ByteArray) : (wordsL s).length ≤ s.size + 1 := by
  unfold wordsL
  split
  · simp
  · exact (splB_bound s).1
theorem wantS_len (s : Slp) (h : SmallS s) : 0 < (wantS s).length ∧ (wordsL s.2.2.1).length < (wantS s).length ∧ (wantS s).length ≤ 10000 := by
  have h1 := wordsL_len s.2.2.1
  have h2 := wordsL_len s.2.2.2
  obtain ⟨h3, h4, h5⟩ := h
  simp only [wantS, List.length_append, List.length_cons, List.length_nil]
  omega
theorem hit_fit {want ws : List ByteArray} {i : Nat} (h : hitB want ws i = true) : want.length = 0 ∨ i + want.length ≤ ws.length := by
  have := congrArg List.length (of_decide_eq_true h)
  rw [List.length_take, List.length_drop] at this
  omega
section
variable (a : Option Addr) (c : Nat) (cs : List Ch) (w : World) [hrow : RowI w (.slice a cs.length c) true 2 (cs.map encCh)] [hT : TextI w cs]
set_option maxHeartbeats 8000000 in
theorem Where_slip [hmx : MxI w] (s : Slp) (hs : SmallT cs) (hss : SmallS s) : Ct Tryz.prog 35 [.agg #[.slice a cs.length c], encSl s] w fun v w' => ∃ sv, v = .tuple #[sv, .int .i64 (whereR (txF cs) s).2] ∧ OwnL w' w.heap.size 44 true 3 sv ((whereR (txF cs) s).1.map encPl) := by
  have hs1 := hs.1
  obtain ⟨hw0, hwb, hwl⟩ := wantS_len s hss
  refine Ct.ofW (by simp) ?_
  (refine jjB ?_; refine jjC ?_)
  (refine jy rfl ?_; intro b2 w_b2 hb_b2 hs_b2 hS_b2 hk_b2; have hA_b2 := At.ofBlock hk_b2)
  skip
  (refine jy rfl ?_; intro b3 w_b3 hb_b3 hs_b3 hS_b3 hk_b3; have hA_b3 := At.ofBlock hk_b3)
  (apply jJ; exact eS rfl; apply jJ; exact eI rfl; refine jz ?_; refine jjB ?_; refine jjB ?_; refine jjC ?_; refine jO rfl rfl rfl rfl ?_)
  obtain ⟨B1, hB1⟩ : ∃ B, textB (txF cs) = B := ⟨_, rfl⟩
  refine jjQ ((Check_leaf a c cs _ hs).mono fun v _ _ h => h.trans (by rw [hB1])) rfl rfl ?_
  rintro _ w4 hS4 rfl
  cases B1 with
  | false =>
    (apply jJ; exact eI rfl; refine jz ?_; refine jjB ?_; refine jjC ?_; apply jI; exact eI rfl; refine jc rfl rfl ?_; refine jz ?_; refine jjJ rfl ?_; refine jjB ?_; refine jjC ?_; apply jI; exact eI rfl; apply jJ; exact eS rfl; apply jJ; exact eI rfl; refine jz ?_; refine jjF ?_; refine jC rfl rfl rfl ⟨inferInstance, ?_⟩)
    rw [whereR_no hB1]
    exact ⟨_, rfl, OwnL.nil _ _ _ _ _⟩
  | true =>
  obtain ⟨B2, hB2⟩ : ∃ B, slipB s = B := ⟨_, rfl⟩
  rw [if_pos rfl]
  (apply jJ; exact eI rfl; refine jz ?_; refine jjB ?_; refine jjC ?_; apply jI; exact eI rfl; refine jjk rfl rfl (by omega) ?_; refine jz ?_; refine jjK rfl ?_; refine jjG ?_; refine jjB ?_; refine jjB ?_; refine jjC ?_; refine jO rfl rfl rfl rfl ?_)
  refine jjQ ((right_slip _ s hss).mono fun v _ _ h => h.trans (by rw [hB2])) rfl rfl ?_
  rintro _ w5 hS5 rfl
  cases B2 with
  | false =>
    (refine jq rfl ?_; refine jz ?_; refine jjJ rfl ?_; refine jjB ?_; refine jjC ?_; apply jJ; exact eS rfl; apply jJ; exact eI rfl; refine jz ?_; refine jjF ?_; refine jC rfl rfl rfl ⟨inferInstance, ?_⟩)
    rw [whereR_bad hB1 hB2]
    exact ⟨_, rfl, OwnL.nil _ _ _ _ _⟩
  | true =>
  rw [whereR_yes hB1 hB2]
  (refine jp rfl ?_; refine jz ?_; refine jjK rfl ?_; refine jjG ?_; refine jjB ?_; refine jjC ?_; refine jm ?_; refine jn rfl ?_; refine jN rfl rfl rfl ?_)
  refine jjQ (words_slip _ s.2.2.1 hss.2.1) rfl rfl ?_
  rintro _ w6 hS6 ⟨bv, rfl, hOb⟩
  (apply jI; exact eU rfl; refine ju rfl rfl ?_; refine ju rfl rfl ?_; apply jJ; exact rfl; apply jJ; exact eB rfl; refine jz ?_; refine jjB ?_; refine jjC ?_; refine jm ?_; refine jn rfl ?_; refine jN rfl rfl rfl ?_)
  refine jjQ (words_slip _ s.2.2.2 hss.2.2) rfl rfl ?_
  rintro _ w7 hS7 ⟨av, rfl, hOa⟩
  obtain ⟨ba, bc, rfl⟩ := hOb.slice
  obtain ⟨aa, ac, rfl⟩ := hOa.slice
  rw [List.length_map] at hOa hOb
  rw [List.length_map, List.length_map]
  (apply jI; exact eU rfl; refine ju rfl rfl ?_; refine ju rfl rfl ?_; apply jJ; exact eS rfl; apply jJ; exact eB rfl; refine jz ?_; refine jjB ?_; refine jjC ?_; apply jI; exact eS rfl; refine jm ?_; refine jn rfl ?_; refine jN rfl rfl rfl ?_)
  (refine jjP (v := .string _) rfl (by exact rfl) (by exact rfl) (by exact rfl) (by exact rfl) ?_; intro b39 w_b39 hb_b39 hs_b39 hS_b39 hk_b39; have hR_b39 := RowV.one (agg := false) (k := 1) rfl hk_b39)
  (apply jI; exact eS rfl)
  refine Ops.buildSlice3 rfl rfl rfl rfl rfl rfl rfl ?_
  intro b41 w41 hb41 hs41 hS41 hk41
  have hE39 : Ext w7 w_b39 := hS_b39.ext
  have hrows : RowV w41 false 1 (.slice (some ⟨b41, 0, none⟩) 3 3) ([(ba, bc, wordsL s.2.2.1), (some ⟨b39, 0, none⟩, 1, [s.2.1]), (aa, ac, wordsL s.2.2.2)].map encLn) := hk41.row (fun x hx => by simp at hx; rcases hx with rfl | rfl | rfl <;> rfl) (by simp)
  have hcat : catL [(ba, bc, wordsL s.2.2.1), (some ⟨b39, 0, none⟩, 1, [s.2.1]), (aa, ac, wordsL s.2.2.2)] = wantS s := by simp [catL, wantS]
  have hOb41 := ((hOb.ext hS7.ext).ext hE39).ext hS41.ext
  have hOa41 := (hOa.ext hE39).ext hS41.ext
  skip
  refine jjQ ((Concat_str _ 3 [(ba, bc, wordsL s.2.2.1), (some ⟨b39, 0, none⟩, 1, [s.2.1]), (aa, ac, wordsL s.2.2.2)] _ hrows (fun y hy => by
    simp only [List.mem_cons, List.not_mem_nil, or_false] at hy
    rcases hy with rfl | rfl | rfl
    · exact hOb41.row
    · exact hR_b39.ext hS41.ext
    · exact hOa41.row) (by rw [hcat]; exact hw0) (by rw [hcat]; omega)).mono fun v _ _ h => by rw [hcat] at h; exact h) rfl rfl ?_
  rintro wv wX hSX hOw
  obtain ⟨wa, wc, rfl⟩ := hOw.slice
  rw [List.length_map] at hOw ⊢
  have hEX : Ext w wX := inferInstance
  have hAX : At wX b2 0 [.slice a cs.length c] := inferInstance
  have hWR := hOw.row
  rw [whereF, txF_len]
  generalize hwant : wantS s = want at *
  generalize (wordsL s.2.2.1).length = nb at *
  (apply jJ; exact eS rfl; refine jz ?_; refine jjB ?_; refine jjC ?_; apply jJ; exact eS rfl; refine jz ?_; refine jjB ?_; refine jjB ?_; refine jjC ?_; refine jm ?_; refine jn rfl ?_; refine jN rfl rfl rfl ?_; refine jh rfl ?_; apply jI; exact eI rfl; refine jz ?_; refine jjD ?_)
  refine W.keep0 [(2, .pointer (some ⟨b2, 0, none⟩)), (7, .slice ba nb bc), (11, .slice wa want.length wc), (12, .slice none 0 0), (45, .int .i64 (cs.length : Int)), (46, .int .i64 ((0 : Nat) : Int))] ⟨eP rfl, eS rfl, eS rfl, eS rfl, eI rfl, eI rfl, trivial⟩ fun s0 => ?_
  refine W.loopG (47 :: 48 :: 13 :: 49 :: 50 :: 51 :: 52 :: 14 :: 53 :: 54 :: 55 :: 56 :: 57 :: 58 :: 15 :: 59 :: 60 :: 61 :: 62 :: 63 :: 64 :: 65 :: 66 :: 67 :: 68 :: 69 :: 70 :: 71 :: 72 :: 73 :: 74 :: 75 :: 76 :: 77 :: 78 :: 79 :: 80 :: 81 :: 82 :: 83 :: 84 :: 85 :: 86 :: 87 :: 88 :: 89 :: 12 :: 90 :: 91 :: 46 :: []) (fun g s' V => ∃ (k : Nat) (lv : Value), s' 46 = .int .i64 ((k : Nat) : Int) ∧ s' 12 = lv ∧ g = cs.length - k ∧ k ≤ cs.length ∧ Ext wX V ∧ OwnL V wX.heap.size 44 true 3 lv ((whN (txF cs) want nb k).map encPl) ∧ (whN (txF cs) want nb k).length ≤ k * 1000000) cs.length ⟨0, _, rfl, rfl, rfl, Nat.zero_le _, .refl _, OwnL.nil _ _ _ _ _, by simp [whN]⟩ ?_
  rintro _ sd V ⟨k, lv, h46, h12, rfl, hk, hE, hO, hwn⟩
  obtain ⟨va, vl, vc, rfl⟩ := hO.slice3
  refine W.fix h46 (W.fix (d := 12) h12 ?_)
  clear h46 h12
  have hA2 := hAX.ext hE
  have zE := hE.size
  by_cases hkl : k < cs.length
  rotate_left
  · obtain rfl : k = cs.length := by omega
    have hEV := hEX.trans hE
    (refine jjB ?_; refine jjC ?_; refine jja rfl rfl (by omega) ?_; refine jz ?_; refine jjB ?_; refine jjK rfl ?_; refine jjE ?_; refine jjB ?_; refine jjC ?_; apply jI; exact eS rfl; apply jJ; exact eS rfl; apply jJ; exact eI rfl; refine jz ?_; refine jjF ?_; refine jC rfl rfl rfl ⟨inferInstance, ?_⟩)
    exact ⟨_, rfl, hO.mono hEX.size⟩
  have i0 : RowI V (.slice a cs.length c) true 2 (cs.map encCh) := ⟨hrow.h.ext (hEX.trans hE)⟩
  have i1 : TextI V cs := hT.ext (hEX.trans hE)
  obtain ⟨hn, hsz⟩ := rnW_small hs hkl
  have hrl : (runA k (chW cs[k])).length = (rnW cs[k]).length := runA_len _ _
  have hwk : (wsT (txF cs) k).flatten = rnW cs[k] := by rw [wsT_get hkl]
  have hrk : runA k (wsT (txF cs) k) = runA k (chW cs[k]) := by rw [wsT_get hkl]
  have hnx := whN_succ (txF cs) want nb k
  rw [hwk, hrk] at hnx
  (refine jjB ?_; refine jjC ?_; refine jjZ rfl rfl (by omega) ?_; refine jz ?_; refine jjB ?_; refine jjJ rfl ?_; refine jjG ?_; refine jjB ?_; refine jjD ?_; refine jjB ?_; refine jjC ?_; apply jI; exact eI rfl; apply jJ; exact eI rfl; refine jz ?_; refine jjB ?_; refine jjC ?_; refine jO rfl rfl rfl rfl ?_)
  (refine jjS (cells := [.int .i64 0, .int .u8 0]) ?_ ?_; exact rfl)
  (apply jI; exact eI rfl)
  refine jjQ (runs_slip a c cs _ hs 0 0 k hkl) rfl rfl ?_
  rintro _ V1 hS1 ⟨wv, av, rfl, hOs, hOp⟩
  generalize rnW cs[k] = ws at *
  generalize runA k (chW cs[k]) = ps at *
  obtain ⟨sa, sc, rfl⟩ := hOs.slice
  obtain ⟨pa, pc, rfl⟩ := hOp.slice
  rw [List.length_map] at hOs hOp ⊢
  rw [List.length_map]
  skip
  (apply jjR rfl; (intro _; first|exact eI rfl|exact eB rfl|exact eP rfl|exact eS rfl|exact eT rfl|exact eA rfl|exact eU rfl|exact eF rfl|exact eM rfl|exact eN rfl|exact rfl); exact rfl; exact rfl; exact rfl; exact rfl; intro b14 w_b14 hb_b14 hs_b14 hS_b14 hk_b14; have hA_b14 := Bk.of hk_b14)
  (refine jz ?_; refine jjB ?_; refine jjC ?_; refine jm ?_; refine jn rfl ?_; refine jN rfl rfl rfl ?_; refine jh rfl ?_; apply jI; exact eI rfl; refine jz ?_; refine jjD ?_)
  have e14 := hS1.ext.trans hS_b14.ext
  have z14 := e14.size
  have z1 := hS1.size
  have zb14 := hS_b14.size
  have hOl : ∀ g, (Value.slice va vl vc).ownBlock = some g → g < V.heap.size ∨ w_b14.heap.size ≤ g := fun g hg => .inl (hO.block g hg).2
  refine W.keep [(2, .pointer (some ⟨b2, 0, none⟩)), (7, .slice ba nb bc), (11, .slice wa want.length wc), (12, .slice va vl vc), (14, .pointer (some ⟨b14, 0, none⟩)), (45, .int .i64 (cs.length : Int)), (46, .int .i64 ((k : Nat) : Int)), (55, .int .i64 (ws.length : Int)), (56, .int .i64 ((0 : Nat) : Int))] (D := (47 :: 48 :: 13 :: 49 :: 50 :: 51 :: 52 :: 14 :: 53 :: 54 :: 55 :: 56 :: 57 :: 58 :: 15 :: 59 :: 60 :: 61 :: 62 :: 63 :: 64 :: 65 :: 66 :: 67 :: 68 :: 69 :: 70 :: 71 :: 72 :: 73 :: 74 :: 75 :: 76 :: 77 :: 78 :: 79 :: 80 :: 81 :: 82 :: 83 :: 84 :: 85 :: 86 :: 87 :: 88 :: 89 :: 12 :: 90 :: 91 :: 46 :: [])) (sO := upds s0 _) (by ((refine Same.upd rfl ?_; refine Same.upd rfl ?_; refine Same.upd rfl ?_; refine Same.upd rfl ?_; refine Same.upd rfl ?_; refine Same.upd rfl ?_; refine Same.upd rfl ?_; refine Same.upd rfl ?_; refine Same.upd rfl ?_; refine Same.upd rfl ?_; refine Same.upd rfl ?_; refine Same.upd rfl ?_; refine Same.upd rfl ?_; refine Same.upd rfl ?_; exact Same.ovN))) ⟨eP rfl, eS rfl, eS rfl, eS rfl, eP rfl, eI rfl, eI rfl, eI rfl, eI rfl, trivial⟩ fun s1 hs1' => ?_
  refine W.loopG (57 :: 58 :: 15 :: 59 :: 60 :: 61 :: 62 :: 63 :: 64 :: 65 :: 66 :: 67 :: 68 :: 69 :: 70 :: 71 :: 72 :: 73 :: 74 :: 75 :: 76 :: 77 :: 78 :: 79 :: 80 :: 81 :: 82 :: 83 :: 84 :: 85 :: 86 :: 87 :: 88 :: 89 :: 12 :: 90 :: 56 :: []) (fun g s' V' => ∃ (i : Nat) (lv : Value), s' 56 = .int .i64 ((i : Nat) : Int) ∧ s' 12 = lv ∧ g = ws.length - i ∧ i ≤ ws.length ∧ Ext wX V' ∧ w_b14.heap.size ≤ V'.heap.size ∧ Bk V' b14 [.int .i64 0, .int .u8 0, .slice sa ws.length sc, .slice pa ps.length pc] 140 ∧ OwnL V' V.heap.size 9 false 1 (.slice sa ws.length sc) (ws.map strV) ∧ OwnL V' V.heap.size 44 true 3 (.slice pa ps.length pc) (ps.map encPl) ∧ OwnL V' wX.heap.size 44 true 3 lv ((whN (txF cs) want nb k ++ whK want nb ws ps i).map encPl) ∧ ∀ g, lv.ownBlock = some g → g < V.heap.size ∨ w_b14.heap.size ≤ g) ws.length ⟨0, _, rfl, rfl, rfl, Nat.zero_le _, hE.trans e14, Nat.le_refl _, inferInstance, hOs.ext hS_b14.ext, hOp.ext hS_b14.ext, by rw [show whK want nb ws ps 0 = [] from rfl, List.append_nil]; exact hO.ext e14, hOl⟩ ?_
  have hOs1 := hOs
  have hOp1 := hOp
  clear hOl hOs hOp hO
  rintro _ sd2 V2 ⟨i, lv, h56, h12, rfl, hi, hE2, hz2, hB14, hOs, hOp, hO, hOl⟩
  obtain ⟨va2, vl2, vc2, rfl⟩ := hO.slice3
  refine W.fix h56 (W.fix (d := 12) h12 ?_)
  clear h56 h12
  have hA14 := Bk.toAt (h := hB14)
  by_cases hil : i < ws.length
  rotate_left
  · obtain rfl : i = ws.length := by omega
    rw [← hnx] at hO
    have hwl2 := whK_len want nb ws ps ws.length
    (refine jjB ?_; refine jjC ?_; refine jja rfl rfl (by omega) ?_; refine jz ?_; refine jjB ?_; refine jjK rfl ?_; refine jjE ?_; refine jjC ?_; refine jY rfl rfl (by omega) ?_; apply jI; exact eI rfl; refine jz ?_)
    exact ⟨rfl, by ((refine Same.upd rfl ?_; refine Same.upd rfl ?_; refine Same.upd rfl ?_; refine Same.upd rfl ?_; refine Same.upd rfl ?_; refine Same.ovN' rfl ?_; assumption)), cs.length - (k + 1), by omega, k + 1, _, congrArg (Value.int .i64) (by omega), rfl, rfl, by omega, hE2, hO, by rw [hnx, List.length_append]; omega⟩
  have hsn := whK_succ want nb ws ps i
  obtain ⟨B, hB⟩ : ∃ B, hitB want ws i = B := ⟨_, rfl⟩
  rw [hB] at hsn
  have hwl2 := whK_len want nb ws ps i
  by_cases hfit : want.length ≤ ws.length - i
  rotate_left
  · have hBf : B = false := by
      cases B with
      | false => rfl
      | true => have := hit_fit hB; omega
    subst hBf
    rw [if_neg (by simp), List.append_nil] at hsn
    (refine jjB ?_; refine jjC ?_; refine jjZ rfl rfl (by omega) ?_; refine jz ?_; refine jjB ?_; refine jjJ rfl ?_; refine jjG ?_; refine jjB ?_; refine jjD ?_; refine jjB ?_; refine jjC ?_; apply jI; exact eI rfl; apply jJ; exact eI rfl; refine jz ?_; refine jjB ?_; refine jjC ?_; refine jm ?_; refine jn rfl ?_; refine jN rfl rfl rfl ?_; refine jh rfl ?_; apply jI; exact eI rfl; refine jZ rfl rfl (by omega) ?_; apply jI; exact eS rfl; refine jh rfl ?_; refine jjg rfl rfl (by omega) ?_; apply jI; exact eB rfl; refine jU rfl rfl rfl rfl ?_; refine jU rfl rfl rfl rfl ?_; refine jU rfl rfl rfl rfl ?_; refine jU rfl rfl rfl rfl ?_; refine jU rfl rfl rfl rfl ?_; refine jU rfl rfl rfl rfl ?_; refine jU rfl rfl rfl rfl ?_; refine jU rfl rfl rfl rfl ?_; refine jU rfl rfl rfl rfl ?_; refine jU rfl rfl rfl rfl ?_; apply jL rfl; exact eB rfl; refine jz ?_; refine jjK rfl ?_; refine jjG ?_; refine jjC ?_; refine jY rfl rfl (by omega) ?_; apply jI; exact eI rfl; refine jz ?_)
    refine ⟨rfl, by ((refine Same.upd rfl ?_; refine Same.upd rfl ?_; refine Same.upd rfl ?_; refine Same.upd rfl ?_; refine Same.upd rfl ?_; refine Same.upd rfl ?_; refine Same.upd rfl ?_; refine Same.upd rfl ?_; refine Same.upd rfl ?_; refine Same.upd rfl ?_; refine Same.upd rfl ?_; refine Same.upd rfl ?_; refine Same.upd rfl ?_; refine Same.upd rfl ?_; refine Same.upd rfl ?_; refine Same.upd rfl ?_; refine Same.upd rfl ?_; refine Same.upd rfl ?_; refine Same.upd rfl ?_; refine Same.upd rfl ?_; refine Same.upd rfl ?_; refine Same.upd rfl ?_; refine Same.upd rfl ?_; refine Same.upd rfl ?_; refine Same.upd rfl ?_; refine Same.upd rfl ?_; refine Same.upd rfl ?_; exact Same.ovN)), ws.length - (i + 1), by omega, i + 1, _, congrArg (Value.int .i64) (by omega), rfl, rfl, by omega, hE2, hz2, hB14, hOs, hOp, by rw [hsn]; exact hO, hOl⟩
  have hB' : decide ((ws.take (i + want.length)).drop i = want) = B := by
    rw [← hB, hitB, List.drop_take, Nat.add_sub_cancel_left]
  (refine jjB ?_; refine jjC ?_; refine jjZ rfl rfl (by omega) ?_; refine jz ?_; refine jjB ?_; refine jjJ rfl ?_; refine jjG ?_; refine jjB ?_; refine jjD ?_; refine jjB ?_; refine jjC ?_; apply jI; exact eI rfl; apply jJ; exact eI rfl; refine jz ?_; refine jjB ?_; refine jjC ?_; refine jm ?_; refine jn rfl ?_; refine jN rfl rfl rfl ?_; refine jh rfl ?_; apply jI; exact eI rfl; refine jZ rfl rfl (by omega) ?_; apply jI; exact eS rfl; refine jh rfl ?_; refine jjf rfl rfl (by omega) ?_; apply jI; exact eB rfl; refine jT rfl rfl rfl ?_; refine jm ?_; refine jn rfl ?_; refine jT rfl rfl rfl ?_; refine jN rfl rfl rfl ?_; refine jT rfl rfl rfl ?_; apply jI; exact eI rfl; refine jT rfl rfl rfl ?_; apply jI; exact eI rfl; refine jT rfl rfl rfl ?_; apply jI; exact eS rfl; refine jT rfl rfl rfl ?_; refine jh rfl ?_; refine jT rfl rfl rfl ?_; refine jY rfl rfl (by omega) ?_; refine jT rfl rfl rfl ?_)
  refine Ops.sliceLH (lo := i) (hi := i + want.length) hOs.row rfl rfl rfl rfl (by omega) (by omega) (by rw [List.length_map]; omega) ?_
  rintro _ hR75 ⟨a75, c75, rfl⟩
  rw [← List.map_take, ← List.map_drop] at hR75
  (refine jT rfl rfl rfl ?_; apply jI; exact eS rfl; refine jT rfl rfl rfl ?_)
  refine jjQ ((Equal_str a75 wa c75 wc _ _ ((ws.take (i + want.length)).drop i) want _ (by rw [List.length_drop, List.length_take]; omega) rfl hR75 (hWR.ext hE2)).mono fun v _ _ h => h.trans (by rw [hB'])) rfl rfl ?_
  rintro _ V3 hS3 rfl
  have e3 := hS3.ext
  have z3 := e3.size
  cases B with
  | false =>
    rw [if_neg (by simp), List.append_nil] at hsn
    (apply jK rfl; exact eB rfl; refine jz ?_; refine jjK rfl ?_; refine jjG ?_; refine jjC ?_; refine jY rfl rfl (by omega) ?_; apply jI; exact eI rfl; refine jz ?_)
    refine ⟨rfl, by ((refine Same.upd rfl ?_; refine Same.upd rfl ?_; refine Same.upd rfl ?_; refine Same.upd rfl ?_; refine Same.upd rfl ?_; refine Same.upd rfl ?_; refine Same.upd rfl ?_; refine Same.upd rfl ?_; refine Same.upd rfl ?_; refine Same.upd rfl ?_; refine Same.upd rfl ?_; refine Same.upd rfl ?_; refine Same.upd rfl ?_; refine Same.upd rfl ?_; refine Same.upd rfl ?_; refine Same.upd rfl ?_; refine Same.upd rfl ?_; refine Same.upd rfl ?_; refine Same.upd rfl ?_; refine Same.upd rfl ?_; refine Same.upd rfl ?_; refine Same.upd rfl ?_; refine Same.upd rfl ?_; refine Same.upd rfl ?_; refine Same.upd rfl ?_; refine Same.upd rfl ?_; refine Same.upd rfl ?_; exact Same.ovN)), ws.length - (i + 1), by omega, i + 1, _, congrArg (Value.int .i64) (by omega), rfl, rfl, by omega, hE2.trans e3, by omega, hB14.ext e3, hOs.ext e3, hOp.ext e3, by rw [hsn]; exact hO.ext e3, hOl⟩
  | true =>
    rw [if_pos rfl] at hsn
    have hin : i + nb < ps.length := by omega
    have hgd : ps.getD (i + nb) (0, 0, 0) = ps[i + nb] := by rw [List.getD_eq_getElem?_getD, List.getElem?_eq_getElem hin, Option.getD_some]
    rw [hgd] at hsn
    have i5 : RowI V3 (.slice pa ps.length pc) true 3 (ps.map encPl) := ⟨(hOp.ext e3).row⟩
    (apply jK rfl; exact eB rfl; refine jz ?_; refine jjJ rfl ?_; refine jjC ?_; apply jI; exact eS rfl; refine jm ?_; refine jn rfl ?_; refine jN rfl rfl rfl ?_; apply jI; exact eI rfl; apply jI; exact eS rfl; refine jh rfl ?_; refine jY rfl rfl (by omega) ?_; refine jF rfl rfl rfl (map_get (by omega)) ?_; intro _ _ _; refine jQ rfl rfl ?_)
    (refine jjP (v := .agg _) rfl (by exact rfl) (by exact rfl) (by exact rfl) (by exact rfl) ?_; intro b20 w_b20 hb_b20 hs_b20 hS_b20 hk_b20; have hR_b20 := RowV.one (agg := true) (k := 3) rfl hk_b20)
    have hR1 : RowV w_b20 true 3 (.slice (some ⟨b20, 0, none⟩) 1 1) [encPl ps[i + nb]] := hR_b20
    have e20 := e3.trans hS_b20.ext
    have z20 := e20.size
    refine Ops.appendL (hO.ext e20) (by omega) hR1 rfl rfl rfl rfl (one_pl _) ?_ ?_ ?_
    · rw [List.length_map, List.length_append]; simp only [List.length_cons, List.length_nil]; omega
    · rw [List.length_map, List.length_append]; simp only [List.length_cons, List.length_nil]; omega
    intro v2 V4 hA hO4 _ hown2
    obtain ⟨va4, vl4, vc4, rfl⟩ := hO4.slice3
    have zA := hA.g.size
    have hOs20 := hOs.ext e20
    have hOp20 := hOp.ext e20
    have ltB : b14 < w_b14.heap.size := hA_b14.lt
    have hnb : ∀ g, V.heap.size ≤ g → g < w_b14.heap.size → (Value.slice va2 vl2 vc2).ownBlock ≠ some g := fun g h1 h2 h => by have := hOl g h; omega
    (apply jJ; exact eS rfl; refine jz ?_; refine jjC ?_; refine jY rfl rfl (by omega) ?_; apply jI; exact eI rfl; refine jz ?_)
    refine ⟨rfl, by ((refine Same.upd rfl ?_; refine Same.upd rfl ?_; refine Same.upd rfl ?_; refine Same.upd rfl ?_; refine Same.upd rfl ?_; refine Same.upd rfl ?_; refine Same.upd rfl ?_; refine Same.upd rfl ?_; refine Same.upd rfl ?_; refine Same.upd rfl ?_; refine Same.upd rfl ?_; refine Same.upd rfl ?_; refine Same.upd rfl ?_; refine Same.upd rfl ?_; refine Same.upd rfl ?_; refine Same.upd rfl ?_; refine Same.upd rfl ?_; refine Same.upd rfl ?_; refine Same.upd rfl ?_; refine Same.upd rfl ?_; refine Same.upd rfl ?_; refine Same.upd rfl ?_; refine Same.upd rfl ?_; refine Same.upd rfl ?_; refine Same.upd rfl ?_; refine Same.upd rfl ?_; refine Same.upd rfl ?_; refine Same.upd rfl ?_; refine Same.upd rfl ?_; refine Same.upd rfl ?_; refine Same.upd rfl ?_; refine Same.upd rfl ?_; refine Same.upd rfl ?_; refine Same.upd rfl ?_; refine Same.upd rfl ?_; refine Same.upd rfl ?_; refine Same.upd rfl ?_; refine Same.upd rfl ?_; refine Same.upd rfl ?_; exact Same.ovN)), ws.length - (i + 1), by omega, i + 1, _, congrArg (Value.int .i64) (by omega), rfl, rfl, by omega, hA.ext (hE2.trans e20) (by omega), by omega, hA.bk (hB14.ext e20) (hnb _ (by omega) ltB), hOs20.app hA (fun g hg => hnb g (hOs1.block g hg).1 (by have := (hOs1.block g hg).2; omega)), hOp20.app hA (fun g hg => hnb g (hOp1.block g hg).1 (by have := (hOp1.block g hg).2; omega)), ?_, ?_⟩
    · rw [hsn, ← List.append_assoc, List.map_append]
      exact hO4
    · intro g (hg : (Value.slice va4 vl4 vc4).ownBlock = some g)
      rcases hown2 with h | h
      · exact hOl g (h ▸ hg)
      · rw [h] at hg; cases hg; right; omega
end
end Go.Proofs.YtpbkphaceljclaaGreatDoor

/- Plain law: where slips may be from. -/
namespace Go.Proofs.YtpbkphaceljclaaGreatDoor
open Go.RowKit

/-- All places of a word. -/
def allW (t : Tx) (n : Nat) : List (Pl × ByteArray) := (List.range n).flatMap fun k => (runA k (wsT t k)).zip (wsT t k).flatten
end Go.Proofs.YtpbkphaceljclaaGreatDoor

/- The reference: Run, index, joined, Length. -/
namespace Go.Proofs.YtpbkphaceljclaaGreatDoor
open Go.RowKit

section
variable (a : Option Addr) (c : Nat) (cs : List Ch) (w : World) [hrow : RowI w (.slice a cs.length c) true 2 (cs.map encCh)] [hT : TextI w cs]
end
end Go.Proofs.YtpbkphaceljclaaGreatDoor

/- The reference: index, joined, Length. -/
namespace Go.Proofs.YtpbkphaceljclaaGreatDoor
open Go.RowKit

end Go.Proofs.YtpbkphaceljclaaGreatDoor

/- The reference: joined. -/
namespace Go.Proofs.YtpbkphaceljclaaGreatDoor
open Go.RowKit

end Go.Proofs.YtpbkphaceljclaaGreatDoor

/- The reference: slip. -/
namespace Go.Proofs.YtpbkphaceljclaaGreatDoor
open Go.RowKit

section
variable (a : Option Addr) (c : Nat) (cs : List Ch) (w : World) [hrow : RowI w (.slice a cs.length c) true 2 (cs.map encCh)] [hT : TextI w cs]
end
end Go.Proofs.YtpbkphaceljclaaGreatDoor

/- The reference: All places. -/
namespace Go.Proofs.YtpbkphaceljclaaGreatDoor
open Go.RowKit

section
variable (a : Option Addr) (c : Nat) (cs : List Ch) (w : World) [hrow : RowI w (.slice a cs.length c) true 2 (cs.map encCh)] [hT : TextI w cs]
end
end Go.Proofs.YtpbkphaceljclaaGreatDoor

/- The reference: Make, All, Part. -/
namespace Go.Proofs.YtpbkphaceljclaaGreatDoor
open Go.RowKit

theorem makeF_mem {t : Tx} {side wd : Int} {p : Pl} {n : Nat} (h : p ∈ allP t n) (hn : n ≤ t.length) : makeF t side wd p = some (slP t side wd p) := by
  obtain ⟨k, hk, hm⟩ := mem_allP.1 h
  obtain ⟨i, hi, e⟩ := List.mem_iff_getElem.1 hm
  have hg : (runA k (wsT t k))[i]? = some p := by rw [List.getElem?_eq_getElem hi, e]
  rw [makeF_yes (by omega) hg, slP_eq (by omega) hg]
section
variable (a : Option Addr) (c : Nat) (cs : List Ch) (wd side : Int) (w : World) [hrow : RowI w (.slice a cs.length c) true 2 (cs.map encCh)] [hT : TextI w cs]
end
end Go.Proofs.YtpbkphaceljclaaGreatDoor

/- Plain law: the places of a text are in order; parts of it. -/
namespace Go.Proofs.YtpbkphaceljclaaGreatDoor
open Go.RowKit

theorem lnP_sorted (k n q : Nat) : (lnP k n q).Pairwise fun a b => befP a b = true := by
  unfold lnP
  rw [List.pairwise_map]
  refine List.Pairwise.imp (R := (· < ·)) ?_ List.pairwise_lt_range
  intro a b h
  rw [befP_iff]; simp; omega
theorem runA_sorted (k : Nat) (x : List (List ByteArray)) : (runA k x).Pairwise fun a b => befP a b = true := by
  unfold runA runAn
  rw [List.pairwise_flatMap]
  refine ⟨fun i _ => lnP_sorted _ _ _, ?_⟩
  refine List.Pairwise.imp (R := (· < ·)) ?_ List.pairwise_lt_range
  intro a b h p hp q hq
  simp only [lnP, List.mem_map] at hp hq
  obtain ⟨_, _, rfl⟩ := hp
  obtain ⟨_, _, rfl⟩ := hq
  rw [befP_iff]; simp; omega
theorem allP_sorted (t : Tx) (n : Nat) : (allP t n).Pairwise fun a b => befP a b = true := by
  unfold allP
  rw [List.pairwise_flatMap]
  refine ⟨fun i _ => runA_sorted _ _, ?_⟩
  refine List.Pairwise.imp (R := (· < ·)) ?_ List.pairwise_lt_range
  intro a b h p hp q hq
  have h1 := runA_fst hp
  have h2 := runA_fst hq
  rw [befP_iff]; omega
theorem befP_asymm {a b : Pl} (h : befP a b = true) : befP b a = false := by
  cases h2 : befP b a with
  | false => rfl
  | true => have := befP_trans h h2; rw [befP_irr] at this; cases this
theorem sorted_get {l : List Pl} (h : l.Pairwise fun a b => befP a b = true) {i j : Nat} (hij : i < j) (hj : j < l.length) : befP (l[i]'(by omega)) l[j] = true := List.pairwise_iff_getElem.1 h i j _ hj hij
theorem sorted_lt {l : List Pl} (h : l.Pairwise fun a b => befP a b = true) {i j : Nat} (hi : i < l.length) (hj : j < l.length) : befP l[i] l[j] = decide (i < j) := by
  rcases Nat.lt_trichotomy i j with hl | he | hl
  · rw [sorted_get h hl hj, decide_eq_true hl]
  · subst he; rw [befP_irr]; simp
  · rw [befP_asymm (sorted_get h hl hi), decide_eq_false (by omega)]
theorem sorted_nodup {l : List Pl} (h : l.Pairwise fun a b => befP a b = true) : l.Nodup := by
  refine List.Pairwise.imp ?_ h
  intro a b hab e
  subst e; rw [befP_irr] at hab; cases hab
/-- Of a list in order those from one place on to another one. -/
theorem filter_seg {l : List Pl} (h : l.Pairwise fun a b => befP a b = true) {x y : Nat} (hx : x < l.length) (hy : y < l.length) (hxy : x ≤ y) : l.filter (inP l[x] l[y]) = (l.take (y + 1)).drop x := by
  have e : l = l.take x ++ ((l.take (y + 1)).drop x ++ l.drop (y + 1)) := by
    have h1 := List.take_append_drop x (l.take (y + 1))
    rw [List.take_take, Nat.min_eq_left (by omega)] at h1
    rw [← List.append_assoc, h1, List.take_append_drop]
  have f1 : (l.take x).filter (inP l[x] l[y]) = [] := by
    rw [List.filter_eq_nil_iff]
    intro z hz
    obtain ⟨j, hj, rfl⟩ := List.mem_iff_getElem.1 hz
    rw [List.length_take] at hj
    rw [List.getElem_take, inP, sorted_lt h (by omega) hx, decide_eq_true (by omega)]; simp
  have f2 : (l.drop (y + 1)).filter (inP l[x] l[y]) = [] := by
    rw [List.filter_eq_nil_iff]
    intro z hz
    obtain ⟨j, hj, rfl⟩ := List.mem_iff_getElem.1 hz
    rw [List.length_drop] at hj
    rw [List.getElem_drop, inP, sorted_lt h hy (by omega), decide_eq_true (by omega)]; simp
  have f3 : ((l.take (y + 1)).drop x).filter (inP l[x] l[y]) = (l.take (y + 1)).drop x := by
    rw [List.filter_eq_self]
    intro z hz
    obtain ⟨j, hj, rfl⟩ := List.mem_iff_getElem.1 hz
    rw [List.length_drop, List.length_take] at hj
    rw [List.getElem_drop, List.getElem_take, inP, sorted_lt h (by omega) hx, sorted_lt h hy (by omega), decide_eq_false (by omega), decide_eq_false (by omega)]; rfl
  conv => lhs; arg 2; rw [e]
  rw [List.filter_append, List.filter_append, f1, f2, f3, List.nil_append, List.append_nil]
/-- The slips of a part. -/
theorem part_seg {t : Tx} {wd side : Int} (ha : askE t wd side = 0) {x y : Nat} (hx : x < (allP t t.length).length) (hy : y < (allP t t.length).length) (hxy : x ≤ y) :
    partR t wd side (allP t t.length)[x] (allP t t.length)[y] = (((allS t side wd).take (y + 1)).drop x, 0) := by
  have m1 := makeF_mem (side := side) (wd := wd) (List.getElem_mem hx) (Nat.le_refl _)
  have m2 := makeF_mem (side := side) (wd := wd) (List.getElem_mem hy) (Nat.le_refl _)
  have hs := allP_sorted t t.length
  rw [partR, if_neg (by simp [ha]), if_neg (by rw [m1, m2]; simp), sorted_lt hs hy hx, decide_eq_false (by omega), if_neg (by simp), filter_seg hs hx hy hxy, allS, List.map_drop, List.map_take]
end Go.Proofs.YtpbkphaceljclaaGreatDoor

/- Lists of slips: listed, Twice; of the code and of the reference. -/
namespace Go.Proofs.YtpbkphaceljclaaGreatDoor
open Go.RowKit

def SmallSs (ls : List Slp) : Prop := ls.length ≤ 1000 ∧ ∀ x ∈ ls, SmallS x
/-- The error of a list of slips. -/
def listE (ls : List Slp) : Int := if 700 < ls.length then 4 else if ls.all slipB then 0 else 31
theorem listE_in (ls : List Slp) : 0 ≤ listE ls ∧ listE ls ≤ 31 := by
  unfold listE
  split
  · omega
  · split <;> omega
theorem listed1_slip (x : Slp) (w : World) [hmx : MxI w] (hx : SmallS x) : Ct Tryz.prog 115 [encSl x] w fun v _ => v = .bool (!slipB x) := by
  refine Ct.ofW (by simp) ?_
  (refine jjB ?_; refine jjC ?_)
  (refine jy rfl ?_; intro b1 w_b1 hb_b1 hs_b1 hS_b1 hk_b1; have hA_b1 := At.ofBlock hk_b1)
  (apply jJ; exact eB rfl; refine jz ?_; refine jjB ?_; refine jjC ?_; refine jO rfl rfl rfl rfl ?_)
  refine jjQ (right_slip _ x hx) rfl rfl ?_
  rintro _ w2 hS2 rfl
  (refine js rfl ?_; apply jJ; exact eB rfl; refine jz ?_; refine jjF ?_; refine jB rfl rfl ⟨inferInstance, ?_⟩)
  exact rfl
theorem listed_slip (a : Option Addr) (c : Nat) (ls : List Slp) (w : World) [hmx : MxI w] [hrow : RowI w (.slice a ls.length c) true 6 (ls.map encSl)] (hs : SmallSs ls) : Ct Tryz.prog 79 [.slice a ls.length c] w fun v _ => v = .int .i64 (listE ls) := by
  refine Ct.ofW (by simp) ?_
  by_cases h7 : 700 < ls.length
  · (refine jjB ?_; refine jjC ?_; apply jJ; exact eI rfl; refine jz ?_; refine jjB ?_; refine jjB ?_; refine jjC ?_; apply jI; exact eS rfl; refine jh rfl ?_; refine jjd rfl rfl (by omega) ?_; refine jz ?_; refine jjJ rfl ?_; refine jjB ?_; refine jjC ?_; apply jJ; exact eI rfl; refine jz ?_; refine jjF ?_; refine jB rfl rfl ⟨inferInstance, ?_⟩)
    rw [listE, if_pos h7]; exact rfl
  obtain ⟨B, hB⟩ : ∃ B, ls.all slipB = B := ⟨_, rfl⟩
  (refine jjB ?_; refine jjC ?_; apply jJ; exact eI rfl; refine jz ?_; refine jjB ?_; refine jjB ?_; refine jjC ?_; apply jI; exact eS rfl; refine jh rfl ?_; refine jje rfl rfl (by omega) ?_; refine jz ?_; refine jjK rfl ?_; refine jjG ?_; refine jjB ?_; refine jjB ?_; refine jjC ?_; apply jI; exact eS rfl)
  refine jjQ ((ContainsFunc_Slip _ _ (.func (.func 115) #[] #[]) encSl ls (fun s => !slipB s) (hrow.h) ⟨_, [], rfl, inferInstance, fun w' x hx hs' => listed1_slip x w' (hmx := hmx.ext hs') (hs.2 x hx)⟩).mono fun v _ _ e => e.trans (by rw [any_not, hB])) rfl rfl ?_
  rintro _ w2 hS2 rfl
  rw [listE, if_neg h7, hB]
  cases B
  · (refine jz ?_; refine jjJ rfl ?_; refine jjB ?_; refine jjC ?_; apply jJ; exact eI rfl; refine jz ?_; refine jjF ?_; refine jB rfl rfl ⟨inferInstance, ?_⟩)
    exact rfl
  · (refine jz ?_; refine jjK rfl ?_; refine jjG ?_; refine jjB ?_; refine jjC ?_; apply jJ; exact eI rfl; refine jz ?_; refine jjF ?_; refine jB rfl rfl ⟨inferInstance, ?_⟩)
    exact rfl
/-! ### Twice -/
def hasB (ls : List Slp) (i : Nat) : Bool := (ls.take i).any fun x => decide (x = ls.getD i noSl)
def idxI (p : Nat → Bool) (n : Nat) : List Int := ((List.range n).filter p).map fun (i : Nat) => (i : Int)
theorem idxI_succ (p : Nat → Bool) (n : Nat) : idxI p (n + 1) = idxI p n ++ (if p n then [(n : Int)] else []) := by
  rw [idxI, List.range_succ, List.filter_append, List.map_append]
  congr 1
  cases h : p n <;> simp [h]
theorem idxI_len (p : Nat → Bool) (n : Nat) : (idxI p n).length ≤ n := by
  rw [idxI, List.length_map]
  exact Nat.le_trans (List.length_filter_le _ _) (by simp)
def twiceR (ls : List Slp) : List Int × Int := if listE ls ≠ 0 then ([], listE ls) else (idxI (hasB ls) ls.length, 0)
theorem Twice1_slip (x y : Slp) (b : Nat) (w : World) [hb : At w b 0 (encSl y).cells.toList] : Ct Tryz.prog 82 [encSl x, .pointer (some ⟨b, 0, none⟩)] w fun v _ => v = .bool (decide (x = y)) := by
  refine Ct.ofW (by simp) ?_
  (refine jjB ?_; refine jjC ?_)
  (refine jy rfl ?_; intro b2 w_b2 hb_b2 hs_b2 hS_b2 hk_b2; have hA_b2 := At.ofBlock hk_b2)
  (apply jJ; exact eB rfl; refine jz ?_; refine jjB ?_; refine jjC ?_; refine jO rfl rfl rfl rfl ?_; refine jO rfl rfl rfl rfl ?_)
  refine Ops.eqlT (enc := encSl) x y rfl rfl ?_
  (apply jJ; exact eB rfl; refine jz ?_; refine jjF ?_; refine jB rfl rfl ⟨inferInstance, ?_⟩)
  exact rfl
set_option maxHeartbeats 1000000 in
theorem Twice_slip (a : Option Addr) (c : Nat) (ls : List Slp) (w : World) [hmx : MxI w] [hrow : RowI w (.slice a ls.length c) true 6 (ls.map encSl)] (hs : SmallSs ls) : Ct Tryz.prog 41 [.slice a ls.length c] w fun v w' => ∃ sv, v = .tuple #[sv, .int .i64 (twiceR ls).2] ∧ OwnL w' w.heap.size 3 false 1 sv ((twiceR ls).1.map intV) := by
  have hs1 := hs.1
  refine Ct.ofW (by simp) ?_
  (refine jjB ?_; refine jjC ?_; apply jJ; exact eS rfl; apply jJ; exact eI rfl; refine jz ?_; refine jjB ?_; refine jjB ?_; refine jjC ?_; apply jI; exact eS rfl)
  obtain ⟨e, he⟩ : ∃ e, listE ls = e := ⟨_, rfl⟩
  have h3 := listE_in ls
  rw [he] at h3
  refine jjQ ((listed_slip a c ls _ hs).mono fun v _ _ h => h.trans (by rw [he])) rfl rfl ?_
  rintro _ w2 hS2 rfl
  by_cases h0 : e = 0
  rotate_left
  · (apply jJ; exact eI rfl; refine jz ?_; refine jjB ?_; refine jjC ?_; apply jI; exact eI rfl; refine jjj rfl rfl (by omega) ?_; refine jz ?_; refine jjJ rfl ?_; refine jjB ?_; refine jjC ?_; apply jI; exact eI rfl; apply jJ; exact eS rfl; apply jJ; exact eI rfl; refine jz ?_; refine jjF ?_; refine jC rfl rfl rfl ⟨inferInstance, ?_⟩)
    rw [twiceR, if_pos (by rw [he]; exact h0), he]
    exact ⟨_, rfl, OwnL.nil _ _ _ _ _⟩
  subst h0
  rw [twiceR, if_neg (by rw [he]; simp)]
  have hE2 : Ext w w2 := inferInstance
  (apply jJ; exact eI rfl; refine jz ?_; refine jjB ?_; refine jjC ?_; apply jI; exact eI rfl; refine jjk rfl rfl (by omega) ?_; refine jz ?_; refine jjK rfl ?_; refine jjG ?_; refine jjB ?_; refine jjC ?_; apply jJ; exact eS rfl; refine jz ?_; refine jjB ?_; refine jjB ?_; refine jjC ?_; apply jI; exact eS rfl; refine jh rfl ?_; apply jI; exact eI rfl; refine jz ?_; refine jjD ?_)
  refine W.keep0 [(0, .slice a ls.length c), (5, .slice none 0 0), (13, .slice a ls.length c), (14, .int .i64 (ls.length : Int)), (15, .int .i64 ((0 : Nat) : Int))] ⟨eS rfl, eS rfl, eS rfl, eI rfl, eI rfl, trivial⟩ fun s0 => ?_
  refine W.loopG (16 :: 17 :: 18 :: 19 :: 7 :: 6 :: 20 :: 21 :: 22 :: 23 :: 24 :: 25 :: 26 :: 27 :: 28 :: 5 :: 29 :: 15 :: []) (fun g s' V => ∃ (i : Nat) (sv : Value), s' 15 = .int .i64 ((i : Nat) : Int) ∧ s' 5 = sv ∧ g = ls.length - i ∧ i ≤ ls.length ∧ Ext w V ∧ w2.heap.size ≤ V.heap.size ∧ OwnL V w2.heap.size 3 false 1 sv ((idxI (hasB ls) i).map intV)) ls.length ⟨0, _, rfl, rfl, rfl, Nat.zero_le _, hE2, Nat.le_refl _, OwnL.nil _ _ _ _ _⟩ ?_
  rintro _ sd V ⟨i, sv, h15, h5, rfl, hi, hE, hz, hO⟩
  obtain ⟨va, vl, vc, rfl⟩ := hO.slice3
  refine W.fix h15 (W.fix (d := 5) h5 ?_)
  clear h15 h5
  by_cases hil : i < ls.length
  rotate_left
  · obtain rfl : i = ls.length := by omega
    (refine jjB ?_; refine jjC ?_; refine jja rfl rfl (by omega) ?_; refine jz ?_; refine jjB ?_; refine jjK rfl ?_; refine jjE ?_; refine jjB ?_; refine jjC ?_; apply jI; exact eS rfl; apply jJ; exact eS rfl; apply jJ; exact eI rfl; refine jz ?_; refine jjF ?_; refine jC rfl rfl rfl ⟨inferInstance, ?_⟩)
    exact ⟨_, rfl, hO.mono hE2.size⟩
  have i0 : RowI V (.slice a ls.length c) true 6 (ls.map encSl) := ⟨hrow.h.ext hE⟩
  have hgd : ls.getD i noSl = ls[i] := by rw [List.getD_eq_getElem?_getD, List.getElem?_eq_getElem hil, Option.getD_some]
  have hsn := idxI_succ (hasB ls) i
  have hln := idxI_len (hasB ls) i
  obtain ⟨B, hB⟩ : ∃ B, hasB ls i = B := ⟨_, rfl⟩
  have hB' : ((ls.take i).any fun x => decide (x = ls[i])) = B := by rw [← hB, hasB, hgd]
  rw [hB] at hsn
  (refine jjB ?_; refine jjC ?_; refine jjZ rfl rfl (by omega) ?_; refine jz ?_; refine jjB ?_; refine jjJ rfl ?_; refine jjG ?_; refine jjB ?_; refine jjD ?_; refine jjB ?_; refine jjC ?_; apply jI; exact eI rfl; refine jF rfl rfl rfl (map_get (by omega)) ?_; intro _ _ _; refine jQ rfl rfl ?_)
  ((skip); refine jjY ?_; intro b7 w_b7 hb_b7 hs_b7 hS_b7 hk_b7; have hA_b7 := Bk.of hk_b7)
  (apply jJ; exact eI rfl)
  refine Ops.store rfl rfl rfl rfl rfl ?_
  intro V1 hp1
  have e1 : Ext V V1 := hp1.ext hS_b7.ext (by omega)
  (refine jz ?_; refine jjB ?_; refine jjC ?_; apply jI; exact eS rfl; apply jI; exact eI rfl)
  refine Ops.sliceH (hi := i) (hrow.h.ext (hE.trans e1)) rfl rfl rfl (by rw [List.length_map]; omega) ?_
  rintro _ hR ⟨a3, c3, rfl⟩
  have hA7 : At V1 b7 0 (encSl ls[i]).cells.toList := Bk.toAt (h := Bk.of hp1.new)
  rw [← List.map_take] at hR
  (refine jv ?_)
  refine jjQ ((ContainsFunc_Slip _ _ (.func (.func 82) #[] ([.pointer (some ⟨b7, 0, none⟩)] : List Value).toArray) encSl (ls.take i) (fun x => decide (x = ls[i])) hR ⟨_, [.pointer (some ⟨b7, 0, none⟩)], rfl, inferInstance, fun w' x _ hs' => Twice1_slip x ls[i] b7 w' (hb := hA7.ext hs')⟩).mono fun v _ _ h => h.trans (by rw [hB'])) rfl rfl ?_
  rintro _ V2 hS2 rfl
  have e2 := e1.trans hS2.ext
  cases B with
  | false =>
    (refine jz ?_; refine jjK rfl ?_; refine jjG ?_; refine jjC ?_; refine jY rfl rfl (by omega) ?_; apply jI; exact eI rfl; refine jz ?_)
    refine ⟨rfl, by ((refine Same.upd rfl ?_; refine Same.upd rfl ?_; refine Same.upd rfl ?_; refine Same.upd rfl ?_; refine Same.upd rfl ?_; refine Same.upd rfl ?_; refine Same.upd rfl ?_; refine Same.upd rfl ?_; refine Same.upd rfl ?_; refine Same.upd rfl ?_; refine Same.upd rfl ?_; refine Same.upd rfl ?_; refine Same.upd rfl ?_; refine Same.upd rfl ?_; refine Same.upd rfl ?_; exact Same.ovN)), ls.length - (i + 1), by omega, i + 1, _, congrArg (Value.int .i64) (by omega), rfl, rfl, by omega, hE.trans e2, by have := e2.size; omega, ?_⟩
    rw [hsn, if_neg (by simp), List.append_nil]; exact hO.ext e2
  | true =>
    (refine jz ?_; refine jjJ rfl ?_; refine jjC ?_; apply jI; exact eS rfl; apply jI; exact eI rfl)
    (refine jjP (v := .int _ _) rfl (by exact rfl) (by exact rfl) (by exact rfl) (by exact rfl) ?_; intro b10 w_b10 hb_b10 hs_b10 hS_b10 hk_b10; have hR_b10 := RowV.one (agg := false) (k := 1) rfl hk_b10)
    have e10 := e2.trans hS_b10.ext
    have y10 := e10.size
    refine Ops.appendL (hO.ext e10) (by omega) hR_b10 rfl rfl rfl rfl (one_int _) ?_ ?_ ?_
    · rw [List.length_map]; simp only [List.length_cons, List.length_nil]; omega
    · rw [List.length_map]; simp only [List.length_cons, List.length_nil]; omega
    intro sv2 u3 hA hO3 _ hown
    obtain ⟨va3, vl3, vc3, rfl⟩ := hO3.slice3
    have zA := hA.g.size
    (apply jJ; exact eS rfl; refine jz ?_; refine jjC ?_; refine jY rfl rfl (by omega) ?_; apply jI; exact eI rfl; refine jz ?_)
    refine ⟨rfl, by ((refine Same.upd rfl ?_; refine Same.upd rfl ?_; refine Same.upd rfl ?_; refine Same.upd rfl ?_; refine Same.upd rfl ?_; refine Same.upd rfl ?_; refine Same.upd rfl ?_; refine Same.upd rfl ?_; refine Same.upd rfl ?_; refine Same.upd rfl ?_; refine Same.upd rfl ?_; refine Same.upd rfl ?_; refine Same.upd rfl ?_; refine Same.upd rfl ?_; refine Same.upd rfl ?_; refine Same.upd rfl ?_; refine Same.upd rfl ?_; refine Same.upd rfl ?_; refine Same.upd rfl ?_; refine Same.upd rfl ?_; exact Same.ovN)), ls.length - (i + 1), by omega, i + 1, _, congrArg (Value.int .i64) (by omega), rfl, rfl, by omega, hA.ext (hE.trans e10) hE2.size, by omega, ?_⟩
    rw [hsn, if_pos rfl, List.map_append]; exact hO3
end Go.Proofs.YtpbkphaceljclaaGreatDoor

/- The reference: listed, Twice. -/
namespace Go.Proofs.YtpbkphaceljclaaGreatDoor
open Go.RowKit

theorem take_any {α : Type} {l : List α} {f : α → Bool} {k : Nat} (hk : k < l.length) : (l.take (k + 1)).any f = ((l.take k).any f || f l[k]) := by
  rw [take_snoc_get (List.getElem?_eq_getElem hk), List.any_append]; simp
def hasL (l : List Slp) (x : Slp) (k : Nat) : Bool := (l.take k).any fun y => decide (y = x)
theorem hasL_succ {l : List Slp} {x : Slp} {k : Nat} (hk : k < l.length) : hasL l x (k + 1) = (hasL l x k || decide (l[k] = x)) := take_any hk
end Go.Proofs.YtpbkphaceljclaaGreatDoor

/- Maps whose keys are there once; maps that are sets. -/
namespace Go.Proofs.YtpbkphaceljclaaGreatDoor
open Go.RowKit

section
variable {κ : Type} [DecidableEq κ]
abbrev NdG (m : List (κ × Value)) : Prop := (m.map (·.1)).Nodup
theorem mset_keysG (m : List (κ × Value)) (k : κ) (v : Value) : ∀ x, x ∈ (mset m k v).map (·.1) → x = k ∨ x ∈ m.map (·.1) := by
  induction m with
  | nil => intro x hx; simp [mset] at hx; exact .inl hx
  | cons p m ih =>
    obtain ⟨y, u⟩ := p
    intro x hx
    rw [mset] at hx
    split at hx
    · subst_vars; exact .inr hx
    · simp only [List.map_cons, List.mem_cons] at hx ⊢
      rcases hx with hx | hx
      · exact .inr (.inl hx)
      · rcases ih x hx with h | h
        · exact .inl h
        · exact .inr (.inr h)
theorem NdG.set {m : List (κ × Value)} (h : NdG m) (k : κ) (v : Value) : NdG (mset m k v) := by
  induction m with
  | nil => simp [NdG, mset]
  | cons p m ih =>
    obtain ⟨y, u⟩ := p
    simp only [NdG, List.map_cons, List.nodup_cons] at h
    rw [mset]
    split
    · subst_vars; simp only [NdG, List.map_cons, List.nodup_cons]; exact h
    · simp only [NdG, List.map_cons, List.nodup_cons]
      refine ⟨fun hc => ?_, ih h.2⟩
      rcases mset_keysG m k v y hc with e | e
      · rename_i hne; exact hne e.symm
      · exact h.1 e
theorem mget_noG {m : List (κ × Value)} {k : κ} (h : k ∉ m.map (·.1)) : mget m k = none := by
  induction m with
  | nil => rfl
  | cons p m ih =>
    obtain ⟨y, u⟩ := p
    simp only [List.map_cons, List.mem_cons, not_or] at h
    rw [mget, if_neg h.1, ih h.2]
theorem NdG.del {m : List (κ × Value)} (h : NdG m) (k : κ) : NdG (mdel m k) ∧ (∀ x, x ∈ (mdel m k).map (·.1) → x ∈ m.map (·.1)) ∧ ∀ x, mget (mdel m k) x = if x = k then none else mget m x := by
  induction m with
  | nil => simp [NdG, mdel, mget]
  | cons p m ih =>
    obtain ⟨y, u⟩ := p
    simp only [NdG, List.map_cons, List.nodup_cons] at h
    obtain ⟨i1, i2, i3⟩ := ih h.2
    rw [mdel]
    split
    · subst_vars
      refine ⟨h.2, fun x hx => by simp only [List.map_cons, List.mem_cons]; exact .inr hx, fun x => ?_⟩
      rw [mget]
      by_cases e : x = y
      · subst e; rw [if_pos rfl, mget_noG h.1]
      · rw [if_neg e, if_neg e]
    · rename_i hne
      refine ⟨?_, fun x hx => ?_, fun x => ?_⟩
      · simp only [NdG, List.map_cons, List.nodup_cons]
        exact ⟨fun hc => h.1 (i2 y hc), i1⟩
      · simp only [List.map_cons, List.mem_cons] at hx ⊢
        exact hx.imp id (i2 x)
      · rw [mget, mget, i3]
        by_cases e : x = y
        · subst e; rw [if_pos rfl, if_pos rfl, if_neg (fun h => hne h.symm)]
        · rw [if_neg e, if_neg e]
/-- A map that is a set: true for what is in it. -/
structure SetM (S : κ → Bool) (m : List (κ × Value)) : Prop where
  nd : NdG m
  get : ∀ x, mget m x = if S x then some (.bool true) else none
theorem SetM.nil : SetM (fun _ : κ => false) [] := ⟨by simp [NdG], fun x => rfl⟩
theorem SetM.congr {S S' : κ → Bool} {m : List (κ × Value)} (h : SetM S m) (e : ∀ x, S' x = S x) : SetM S' m := ⟨h.nd, fun x => by rw [h.get, e]⟩
theorem SetM.set {S : κ → Bool} {m : List (κ × Value)} (h : SetM S m) (k : κ) : SetM (fun x => decide (x = k) || S x) (mset m k (.bool true)) := ⟨h.nd.set k _, fun x => by
  by_cases e : x = k
  · subst e; rw [mget_set_same]; simp
  · rw [mget_set_other _ _ e, h.get]; simp [e]⟩
theorem SetM.del {S : κ → Bool} {m : List (κ × Value)} (h : SetM S m) (k : κ) : SetM (fun x => !decide (x = k) && S x) (mdel m k) := ⟨(h.nd.del k).1, fun x => by
  rw [(h.nd.del k).2.2]
  by_cases e : x = k
  · simp [e]
  · rw [if_neg e, h.get]; simp [e]⟩
theorem SetM.look {S : κ → Bool} {m : List (κ × Value)} (h : SetM S m) (k : κ) : (mget m k).getD (.bool false) = .bool (S k) := by
  rw [h.get]; cases S k <;> rfl
end
end Go.Proofs.YtpbkphaceljclaaGreatDoor

/- Places and slips as keys of maps. -/
namespace Go.Proofs.YtpbkphaceljclaaGreatDoor
open Go.RowKit

section
variable {P : Program} {κ : Type} [DecidableEq κ] {enc : κ → Value} {kt : Nat}
theorem findAsking_of [he : EqT P kt enc] (w : World) (k : κ) : ∀ (es : List MapEntry) (ks : List κ) (i : Nat), es.map (·.key) = ks.map enc →
    (Instr.findAsking kt (enc k) es i).run P w = .ok ((ks.findIdx? (fun x => decide (k = x))).map fun j => (i + j, ((es[j]?).map (·.val)).getD undef)) w
  | [], [], i, _ => rfl
  | [], _ :: _, i, h => by simp at h
  | _ :: _, [], i, h => by simp at h
  | e :: es, x :: ks, i, h => by
    simp only [List.map_cons, List.cons.injEq] at h
    have ih := findAsking_of w k es ks (i + 1) h.2
    have hq := he.eq w k x
    simp only [Instr.findAsking, Sem.run_bind, h.1, hq, Result.andThen]
    by_cases hk : k = x
    · simp [hk, List.findIdx?_cons]
    · simp only [hk, decide_false, ih, List.findIdx?_cons, Bool.false_eq_true, if_false, Option.map_map]
      congr 2
      funext j
      simp; omega
theorem keyL_struct {fs : Array Field} (hu : P.underlying kt = some (.struct fs)) [he : EqT P kt enc] (hag : ∀ k, ∃ cs, enc k = .agg cs) (hc : ∀ (em : Bool) (w : World) (k : κ), (Instr.checkKey em 10000 kt (enc k)).run P w = .ok () w) (hb : ∀ k, Instr.sameBits 10000 (enc k) (enc k) = true) : KeyL P kt enc where
  chk := hc
  find w k es ks hk := by
    have h1 := findAsking_of (P := P) (enc := enc) (kt := kt) w k es ks 0 hk
    simp only [Instr.findKey, Sem.run_bind, run_underlying hu, Result.andThen]
    cases es with
    | nil =>
      cases ks with
      | nil => rfl
      | cons x ks => simp at hk
    | cons e es =>
      have : Instr.findNow (.struct fs) (enc k) (e :: es) 0 = none := by
        obtain ⟨cs, h⟩ := hag k
        simp [Instr.findNow, Instr.sameNow]
      rw [this]
      simpa using h1
  bits := hb
end
theorem chk_place (em : Bool) (w : World) (n : Nat) (p : Pl) : (Instr.checkKey em (n + 2) 44 (encPl p)).run Tryz.prog w = .ok () w := by
  have h := Tryz.underlying44
  have hi := Tryz.underlying3
  simp [Instr.checkKey, run_underlying h, run_underlying hi, part, run_isAgg w tu3, TypeDesc.isAgg]
instance : KeyL Tryz.prog 44 encPl := keyL_struct Tryz.underlying44 (fun k => ⟨_, rfl⟩) (fun em w k => chk_place em w 9998 k) (fun k => by simp [Instr.sameBits])
theorem chk_slip (em : Bool) (w : World) (n : Nat) (x : Slp) : (Instr.checkKey em (n + 3) 48 (encSl x)).run Tryz.prog w = .ok () w := by
  have h := Tryz.underlying48
  have hs := Tryz.underlying9
  have hp := chk_place em w n x.1
  have e1 : (part 44 #[.int .i64 x.1.1, .int .i64 x.1.2.1, .int .i64 x.1.2.2, .string x.2.1, .string x.2.2.1, .string x.2.2.2] 0).run Tryz.prog w = .ok (encPl x.1) w := part_agg tu44 rfl ts44 rfl
  rw [Instr.checkKey]
  simp [run_underlying h, e1, hp, part, run_isAgg w tu9, TypeDesc.isAgg, Instr.checkKey, run_underlying hs]
instance : KeyL Tryz.prog 48 encSl := keyL_struct Tryz.underlying48 (fun k => ⟨_, rfl⟩) (fun em w k => chk_slip em w 9997 k) (fun k => by simp [Instr.sameBits, byteArray_beq])
end Go.Proofs.YtpbkphaceljclaaGreatDoor

/- The proof engine, part 26: entries of maps, what is read of them. -/
namespace Go.Proofs.YtpbkphaceljclaaGreatDoor
open Go.RowKit

theorem MapN.app {κ : Type} [DecidableEq κ] {encK : κ → Value} {w w' : World} {b B st : Nat} {m : List (κ × Value)} {k : κ} {v : Value} (h : MapN encK w b m k st) (a : App B w w' v) (hne : v.ownBlock ≠ some b) : MapN encK w' b m k st := by
  obtain ⟨es, cl, i, h1, h2⟩ := h.h
  exact ⟨es, cl, i, a.other h1 hne, h2⟩
section rules
variable {P : Program} {ro : Option Nat} {n : Nat} {all rest : List Oper} {K : Sl → World → Prop} {s : Sl} {w : World} {d : Nat} {ty : Nat} {pos : String} {af : Array Edge}
variable {x y : Operand} {t : Nat}
theorem Ops.lookupV {κ : Type} [DecidableEq κ] {encK : κ → Value} {b kt et : Nat} {m : List (κ × Value)} {k : κ} {z v : Value} {size bytes : Nat} (hv : (mget m k).getD z = v) (hm : MapE encK w b m) (hx : ev n s x = .map (some b)) (hy : ev n s y = encK k) [hk : KeyL P kt encK] [ht : TMap P t kt et] [hz : TS P et z size bytes]
    (h : Ops P ro n all rest K (upd s d v) w) : Ops P ro n all (⟨some d, .lookup t x y false, ty, pos, af, none⟩ :: rest) K s w := by
  subst hv
  exact Ops.lookup hm hx hy h
end rules
end Go.Proofs.YtpbkphaceljclaaGreatDoor

/- slip: Missing. -/
namespace Go.Proofs.YtpbkphaceljclaaGreatDoor
open Go.RowKit

/-- The places whose slip is not in a list. -/
noncomputable def missF (t : Tx) (wd side : Int) (ls : List Slp) : List Pl := ((allS t side wd).filter fun s => !hasL ls s ls.length).map (·.1)
noncomputable def missR (t : Tx) (wd side : Int) (ls : List Slp) : List Pl × Int := if askE t wd side ≠ 0 then ([], askE t wd side) else if listE ls ≠ 0 then ([], listE ls) else (missF t wd side ls, 0)
theorem missR_no {t : Tx} {wd side : Int} {ls : List Slp} (h : askE t wd side ≠ 0) : missR t wd side ls = ([], askE t wd side) := by rw [missR, if_pos h]
theorem missR_bad {t : Tx} {wd side : Int} {ls : List Slp} (h : askE t wd side = 0) (h2 : listE ls ≠ 0) : missR t wd side ls = ([], listE ls) := by rw [missR, if_neg (by simp [h]), if_pos h2]
theorem missR_yes {t : Tx} {wd side : Int} {ls : List Slp} (h : askE t wd side = 0) (h2 : listE ls = 0) : missR t wd side ls = (missF t wd side ls, 0) := by rw [missR, if_neg (by simp [h]), if_neg (by simp [h2])]
theorem hasL_next {l : List Slp} {i : Nat} {x y : Slp} (h : l[i]? = some x) : hasL l y (i + 1) = (decide (y = x) || hasL l y i) := by
  obtain ⟨hi, e⟩ := List.getElem?_eq_some_iff.1 h
  rw [hasL_succ hi, Bool.or_comm, e]
  congr 1
  exact decide_eq_decide.2 ⟨Eq.symm, Eq.symm⟩
section
variable (a : Option Addr) (c : Nat) (cs : List Ch) (wd side : Int) (la : Option Addr) (lc : Nat) (ls : List Slp) (w : World) [hrow : RowI w (.slice a cs.length c) true 2 (cs.map encCh)] [hT : TextI w cs] [hgs : At w 0 0 sidesC] [hmx : MxI w] [hl : RowI w (.slice la ls.length lc) true 6 (ls.map encSl)]
set_option maxHeartbeats 8000000 in
theorem Missing_slip (hs : SmallT cs) (hd : 0 ≤ side ∧ side ≤ 255) (hls : SmallSs ls) : Ct Tryz.prog 38 [.agg #[.slice a cs.length c], encCut wd side, .slice la ls.length lc] w fun v w' => ∃ sv, v = .tuple #[sv, .int .i64 (missR (txF cs) wd side ls).2] ∧ OwnL w' w.heap.size 44 true 3 sv ((missR (txF cs) wd side ls).1.map encPl) := by
  have hls1 := hls.1
  refine Ct.ofWM (by simp) ?_
  (refine jjB ?_; refine jjC ?_)
  (refine jy rfl ?_; intro b3 w_b3 hb_b3 hs_b3 hS_b3 hk_b3; have hA_b3 := At.ofBlock hk_b3)
  skip
  (refine jy rfl ?_; intro b4 w_b4 hb_b4 hs_b4 hS_b4 hk_b4; have hA_b4 := At.ofBlock hk_b4)
  (apply jJ; exact eS rfl; apply jJ; exact eI rfl; refine jz ?_; refine jjB ?_; refine jjB ?_; refine jjC ?_; refine jO rfl rfl rfl rfl ?_; refine jO rfl rfl rfl rfl ?_)
  obtain ⟨e, he⟩ : ∃ e, askE (txF cs) wd side = e := ⟨_, rfl⟩
  have h3 := askE_in (txF cs) wd side
  rw [he] at h3
  refine jjQ ((open_slip a c cs wd side _ hs hd).mono fun v _ _ h => h.trans (by rw [he])) rfl rfl ?_
  rintro _ w8 hS8 rfl
  have hE8 : Ext w w8 := inferInstance
  by_cases h0 : e = 0
  rotate_left
  · (apply jJ; exact eI rfl; refine jz ?_; refine jjB ?_; refine jjC ?_; apply jI; exact eI rfl; refine jjj rfl rfl (by omega) ?_; refine jz ?_; refine jjJ rfl ?_; refine jjB ?_; refine jjC ?_; apply jI; exact eI rfl; apply jJ; exact eS rfl; apply jJ; exact eI rfl; refine jz ?_; refine jjF ?_)
    refine fin2M rfl rfl rfl inferInstance fun w' g => ⟨hE8.ofGrow g (Nat.le_refl _), ?_⟩
    rw [missR_no (by rw [he]; exact h0), he]
    exact ⟨_, rfl, OwnL.nil _ _ _ _ _⟩
  subst h0
  obtain ⟨ht, hc⟩ := askE_zero he
  obtain ⟨e2, he2⟩ : ∃ e, listE ls = e := ⟨_, rfl⟩
  have h32 := listE_in ls
  rw [he2] at h32
  (apply jJ; exact eI rfl; refine jz ?_; refine jjB ?_; refine jjC ?_; apply jI; exact eI rfl; refine jjk rfl rfl (by omega) ?_; refine jz ?_; refine jjK rfl ?_; refine jjG ?_; refine jjB ?_; refine jjB ?_; refine jjC ?_; apply jI; exact eS rfl)
  refine jjQ ((listed_slip la lc ls _ hls).mono fun v _ _ h => h.trans (by rw [he2])) rfl rfl ?_
  rintro _ w9 hS9 rfl
  have hE9 : Ext w w9 := inferInstance
  by_cases h0 : e2 = 0
  rotate_left
  · (apply jJ; exact eI rfl; refine jz ?_; refine jjB ?_; refine jjC ?_; apply jI; exact eI rfl; refine jjj rfl rfl (by omega) ?_; refine jz ?_; refine jjJ rfl ?_; refine jjB ?_; refine jjC ?_; apply jI; exact eI rfl; apply jJ; exact eS rfl; apply jJ; exact eI rfl; refine jz ?_; refine jjF ?_)
    refine fin2M rfl rfl rfl inferInstance fun w' g => ⟨hE9.ofGrow g (Nat.le_refl _), ?_⟩
    rw [missR_bad he (by rw [he2]; exact h0), he2]
    exact ⟨_, rfl, OwnL.nil _ _ _ _ _⟩
  subst h0
  rw [missR_yes he he2]
  (apply jJ; exact eI rfl; refine jz ?_; refine jjB ?_; refine jjC ?_; apply jI; exact eI rfl; refine jjk rfl rfl (by omega) ?_; refine jz ?_; refine jjK rfl ?_; refine jjG ?_; refine jjB ?_; refine jjC ?_)
  refine Ops.makeMap encSl ?_
  intro mb w10 hmb hs10 hS10 hM10
  (apply jjR rfl; (intro _; first|exact eI rfl|exact eB rfl|exact eP rfl|exact eS rfl|exact eT rfl|exact eA rfl|exact eU rfl|exact eF rfl|exact eM rfl|exact eN rfl|exact rfl); exact rfl; exact rfl; exact rfl; exact rfl; intro b10 w_b10 hb_b10 hs_b10 hS_b10 hk_b10; have hA_b10 := Bk.of hk_b10)
  (refine jz ?_; refine jjB ?_; refine jjB ?_; refine jjC ?_; refine jO rfl rfl rfl rfl ?_; refine jO rfl rfl rfl rfl ?_)
  refine jjQ (slips_slip a c cs wd side _) rfl rfl ?_
  rintro _ w16 hS16 ⟨bt, bc, rfl, ⟨hbt, hbc⟩, hA1, hA2⟩
  (refine jz ?_; refine jjD ?_)
  have hE16 : Ext w w16 := inferInstance
  have hsz := hE16.size
  have z10 := hS10.size
  have zb10 := hS_b10.size
  have z16 := hS16.size
  have zE9 := hE9.size
  have hwm : w.heap.size ≤ mb := by omega
  have hmw : mb < w16.heap.size := by omega
  have hbm : b10 ≠ mb := by omega
  have hM16 : MapE encSl w16 mb [] := hM10.ext (hS_b10.ext.trans hS16.ext)
  have hB16 : At w16 b10 0 [.map (some mb)] := inferInstance
  have hB3 : At w16 b3 0 [.slice a cs.length c] := inferInstance
  have hB4 : At w16 b4 0 [.int .i64 wd, .int .u8 side] := inferInstance
  have n3 : b3 < mb := by have := hS8.size; have := hS9.size; have := hS_b4.size; omega
  have n4 : b4 < mb := by have := hS8.size; have := hS9.size; omega
  have hal := allS_len (side := side) (wd := wd) ht
  refine W.range w.heap.size (allS (txF cs) side wd) encSl1 (slips1_slip bt bc a c cs wd side hs ht hc) rfl (fun _ => rfl) trivial inferInstance hsz
    (fun i V => Ext w V ∧ w16.heap.size ≤ V.heap.size ∧ At V b10 0 [.map (some mb)] ∧ (At V b3 0 [.slice a cs.length c] ∧ At V b4 0 [.int .i64 wd, .int .u8 side]) ∧ (At V bt 0 [.slice a cs.length c] ∧ At V bc 0 [.int .i64 wd, .int .u8 side]) ∧ ∃ m, MapE encSl V mb m ∧ SetM (fun x => hasL (allS (txF cs) side wd) x i) m)
    (fun _ _ _ => False) ?hJ (fun _ _ _ _ h _ => h) ?hF ?h0 (fun x s' V => ∃ b, s' 10 = .pointer (some ⟨b10, 0, none⟩) ∧ s' 11 = .pointer (some ⟨b, 0, none⟩) ∧ Bk V b (encSl x).cells.toList 48) (fun x s V V' ⟨b, h1, h2, h3⟩ g => ⟨b, h1, h2, h3.grow g⟩) ?hassign ?hbody ?hdone (fun _ _ _ _ _ _ _ h => h.elim)
  case hJ =>
    rintro i V V' ⟨h1, h2, k10, ⟨k3, k4⟩, ⟨kt, kc⟩, m, hm, hS⟩ g
    exact ⟨h1.ofGrow g hsz, Nat.le_trans h2 g.size, k10.grow g, ⟨k3.grow g, k4.grow g⟩, ⟨kt.grow g, kc.grow g⟩, m, hm.grow g, hS⟩
  case hF =>
    rintro i V ⟨h1, h2, k10, ⟨k3, k4⟩, ⟨kt, kc⟩, m, hm, hS⟩
    exact ⟨h2, kt, kc, hrow.h.ext h1, hT.ext h1, hgs.ext h1⟩
  case h0 => exact ⟨hE16, Nat.le_refl _, hB16, ⟨hB3, hB4⟩, ⟨hA1, hA2⟩, _, hM16, SetM.nil.congr fun x => by simp [hasL]⟩
  case hassign =>
    rintro l i x V hx ⟨h1, h2, k10, ⟨k3, k4⟩, ⟨kt, kc⟩, m, hm, hS⟩ hl hr
    (refine jjC ?_)
    (apply jjR rfl; (intro _; first|exact eI rfl|exact eB rfl|exact eP rfl|exact eS rfl|exact eT rfl|exact eA rfl|exact eU rfl|exact eF rfl|exact eM rfl|exact eN rfl|exact rfl); exact rfl; exact rfl; exact rfl; exact rfl; intro bx w_bx hb_bx hs_bx hS_bx hk_bx; have hA_bx := Bk.of hk_bx)
    (refine jz ?_)
    exact ⟨rfl, hS_bx.ext.tr, Fr.ofExt hS_bx.ext fun k hk => .inl hk, ⟨h1.trans hS_bx.ext, by have := hS_bx.size; omega, k10.ext hS_bx.ext, ⟨k3.ext hS_bx.ext, k4.ext hS_bx.ext⟩, ⟨kt.ext hS_bx.ext, kc.ext hS_bx.ext⟩, m, hm.ext hS_bx.ext, hS⟩, bx, rfl, rfl, inferInstance⟩
  case hbody =>
    rintro l i x s' V hx ⟨h1, h2, k10, ⟨k3, k4⟩, ⟨kt, kc⟩, m, hm, hS⟩ ⟨bx, ha10, ha11, hbx⟩ hl hr
    refine W.fix (d := 10) ha10 (W.fix (d := 11) ha11 ?_)
    clear ha10 ha11
    have hbx' : At V bx 0 [.int .i64 x.1.1, .int .i64 x.1.2.1, .int .i64 x.1.2.2, .string x.2.1, .string x.2.2.1, .string x.2.2.2] := Bk.toAt (h := hbx)
    have ht16 := hA1.lt
    have hc16 := hA2.lt
    (refine jjD ?_; refine jjC ?_; refine jN rfl rfl rfl ?_; refine jO rfl rfl rfl rfl ?_)
    refine Ops.mapUpdate (k := x) hm rfl rfl (eB rfl) ?_
    intro V2 o2 hp2 hM2
    (refine jz ?_)
    exact ⟨hp2.tr hm.loopy, hp2.frS hmw, hp2.ext h1 hwm, by rw [hp2.size]; exact h2, hp2.at_ k10 hbm, ⟨hp2.at_ k3 (by omega), hp2.at_ k4 (by omega)⟩, ⟨hp2.at_ kt (by omega), hp2.at_ kc (by omega)⟩, _, hM2, (hS.set x).congr fun y => hasL_next hx⟩
  case hdone =>
    rintro ds' V hmk htr ⟨h1, h2, k10, ⟨k3, k4⟩, ⟨kt, kc⟩, m, hm, hS⟩
    (refine jjB ?_; refine jjB ?_; refine jjC ?_; apply jI; exact eS rfl; refine jh rfl ?_; apply jI; exact eI rfl; refine jz ?_; refine jjD ?_)
    have hE0 : Ext w V := h1
    have hSL : SetM (fun x => hasL (allS (txF cs) side wd) x (allS (txF cs) side wd).length && !hasL ls x 0) m := hS.congr fun x => by simp [hasL]
    refine W.keep0 [(3, .pointer (some ⟨b3, 0, none⟩)), (4, .pointer (some ⟨b4, 0, none⟩)), (10, .pointer (some ⟨b10, 0, none⟩)), (34, .slice la ls.length lc), (35, .int .i64 (ls.length : Int)), (36, .int .i64 ((0 : Nat) : Int))] ⟨eP rfl, eP rfl, eP rfl, eS rfl, eI rfl, eI rfl, trivial⟩ fun s0 => ?_
    refine W.loopG (37 :: 38 :: 39 :: 13 :: 40 :: 41 :: 42 :: 36 :: []) (fun g s' V' => ∃ j : Nat, s' 36 = .int .i64 ((j : Nat) : Int) ∧ g = ls.length - j ∧ j ≤ ls.length ∧ Ext w V' ∧ w16.heap.size ≤ V'.heap.size ∧ Mks w.heap.size V' ds' ∧ At V' b10 0 [.map (some mb)] ∧ (At V' b3 0 [.slice a cs.length c] ∧ At V' b4 0 [.int .i64 wd, .int .u8 side]) ∧ ∃ m, MapE encSl V' mb m ∧ SetM (fun x => hasL (allS (txF cs) side wd) x (allS (txF cs) side wd).length && !hasL ls x j) m) ls.length ⟨0, rfl, rfl, Nat.zero_le _, h1, h2, hmk, k10, ⟨k3, k4⟩, m, hm, hSL⟩ ?_
    clear hSL hS hm m h1 h2 hmk k10 k3 k4 kt kc htr
    rintro _ sd V1 ⟨j, h36, rfl, hj, h1, h2, hmk, k10, ⟨k3, k4⟩, m, hm, hS⟩
    refine W.fix h36 ?_
    clear h36
    by_cases hjl : j < ls.length
    · have hR1 : RowI V1 (.slice la ls.length lc) true 6 (ls.map encSl) := ⟨hl.h.ext h1⟩
      (refine jjB ?_; refine jjC ?_; refine jjZ rfl rfl (by omega) ?_; refine jz ?_; refine jjB ?_; refine jjJ rfl ?_; refine jjG ?_; refine jjB ?_; refine jjD ?_; refine jjB ?_; refine jjC ?_; refine jF rfl rfl rfl (map_get (by omega)) ?_; intro _ _ _; refine jQ rfl rfl ?_)
      (apply jjR rfl; (intro _; first|exact eI rfl|exact eB rfl|exact eP rfl|exact eS rfl|exact eT rfl|exact eA rfl|exact eU rfl|exact eF rfl|exact eM rfl|exact eN rfl|exact rfl); exact rfl; exact rfl; exact rfl; exact rfl; intro b13 w_b13 hb_b13 hs_b13 hS_b13 hk_b13; have hA_b13 := Bk.of hk_b13)
      have e13 := hS_b13.ext
      have hx' : At w_b13 b13 0 [.int .i64 ls[j].1.1, .int .i64 ls[j].1.2.1, .int .i64 ls[j].1.2.2, .string ls[j].2.1, .string ls[j].2.2.1, .string ls[j].2.2.2] := Bk.toAt (h := hA_b13)
      (refine jz ?_; refine jjC ?_; refine jN rfl rfl rfl ?_; refine jO rfl rfl rfl rfl ?_)
      refine Ops.deleteN (k := ls[j]) (hm.ext e13) rfl rfl ?_
      intro V2 o2 hp2 hM2
      have z13 := e13.size
      (refine jz ?_; refine jjC ?_; refine jY rfl rfl (by omega) ?_; apply jI; exact eI rfl; refine jz ?_)
      refine ⟨rfl, by ((refine Same.upd rfl ?_; refine Same.upd rfl ?_; refine Same.upd rfl ?_; refine Same.upd rfl ?_; refine Same.upd rfl ?_; refine Same.upd rfl ?_; refine Same.upd rfl ?_; refine Same.upd rfl ?_; refine Same.upd rfl ?_; exact Same.ovN)), ls.length - (j + 1), by omega, j + 1, congrArg (Value.int .i64) (by omega), rfl, by omega, hp2.ext (h1.trans e13) hwm, by rw [hp2.size]; omega, hmk.tr (e13.tr.trans (hp2.tr (hm.ext e13).loopy)), hp2.at_ (k10.ext e13) hbm, ⟨hp2.at_ (k3.ext e13) (by omega), hp2.at_ (k4.ext e13) (by omega)⟩, _, hM2, (hS.del ls[j]).congr fun y => ?_⟩
      rw [hasL_next (List.getElem?_eq_getElem hjl), Bool.not_or, ← Bool.and_assoc, ← Bool.and_assoc, Bool.and_comm (!decide _)]
    obtain rfl : j = ls.length := by omega
    (refine jjB ?_; refine jjC ?_; refine jja rfl rfl (by omega) ?_; refine jz ?_; refine jjB ?_; refine jjK rfl ?_; refine jjE ?_; refine jjB ?_; refine jjC ?_)
    ((skip); refine jjY ?_; intro b14 w_b14 hb_b14 hs_b14 hS_b14 hk_b14; have hA_b14 := Bk.of hk_b14)
    (refine jz ?_; refine jjB ?_; refine jjB ?_; refine jjC ?_; refine jO rfl rfl rfl rfl ?_; refine jO rfl rfl rfl rfl ?_)
    have e14 := hS_b14.ext
    have hE14 : Ext w w_b14 := h1.trans e14
    have i1 : RowI w_b14 (.slice a cs.length c) true 2 (cs.map encCh) := ⟨hrow.h.ext hE14⟩
    refine jjQ (slips_slip a c cs wd side _) rfl rfl ?_
    rintro _ w17 hS17 ⟨bt', bc', rfl, ⟨hbt', hbc'⟩, hA1', hA2'⟩
    have e17 := e14.trans hS17.ext
    have hE17 := h1.trans e17
    have hm17 := hm.ext e17
    have hmk17 := hmk.tr e17.tr
    have hB14 : Bk w17 b14 [.slice none 0 0] 54 := hA_b14.ext hS17.ext
    have z14 := e14.size
    have z17 := hS17.size
    have hsz17 := hE17.size
    have hm14 : mb < b14 := by omega
    have hb1014 : b10 < b14 := by have := hB16.lt; omega
    (refine jz ?_; refine jjD ?_)
    refine W.rangeM w.heap.size (allS (txF cs) side wd) encSl1 (slips1_slip bt' bc' a c cs wd side hs ht hc) rfl (fun _ => rfl) trivial hmk17 hsz17
      (fun i V => Ext w V ∧ w17.heap.size ≤ V.heap.size ∧ At V b10 0 [.map (some mb)] ∧ MapE encSl V mb m ∧ (At V bt' 0 [.slice a cs.length c] ∧ At V bc' 0 [.int .i64 wd, .int .u8 side]) ∧ ∃ v, Bk V b14 [v] 54 ∧ OwnL V w17.heap.size 44 true 3 v (((((allS (txF cs) side wd).take i).filter (fun s => !hasL ls s ls.length)).map (·.1)).map encPl))
      (fun _ _ _ => False) ?hJ2 (fun _ _ _ _ h _ => h) ?hF2 ?h02 (MB w17.heap.size b14) ?hW1 ?hW2 ?hW3 (fun x s' V => ∃ b, s' 10 = .pointer (some ⟨b10, 0, none⟩) ∧ s' 14 = .pointer (some ⟨b14, 0, none⟩) ∧ s' 15 = .pointer (some ⟨b, 0, none⟩) ∧ Bk V b (encSl x).cells.toList 48) (fun x s V V' ⟨b5, h1, h2, h2', h3⟩ g => ⟨b5, h1, h2, h2', h3.grow g⟩) ?hassign2 ?hbody2 ?hdone2 (fun _ _ _ _ _ _ _ h => h.elim)
    case hJ2 =>
      rintro i V V' ⟨h1, h2, k10, hm, ⟨kt, kc⟩, v, h3, h4⟩ g
      exact ⟨h1.ofGrow g hsz17, Nat.le_trans h2 g.size, k10.grow g, hm.grow g, ⟨kt.grow g, kc.grow g⟩, v, h3.grow g, h4.grow g⟩
    case hF2 =>
      rintro i V ⟨h1, h2, k10, hm, ⟨kt, kc⟩, v, h3, h4⟩
      exact ⟨kt, kc, hrow.h.ext h1, hT.ext h1, hgs.ext h1⟩
    case h02 => exact ⟨hE17, Nat.le_refl _, k10.ext e17, hm17, ⟨hA1', hA2'⟩, _, hB14, OwnL.nil _ _ _ _ _⟩
    case hW1 => exact fun i V k ⟨h1, h2, _, _, _, v, h3, h4⟩ h => MB.lt h2 h3 h4 h
    case hW2 => exact fun i V V' k ⟨h1, h2, _, _, _, v, h3, h4⟩ g h => MB.back h3 g h
    case hW3 => exact fun V V' k g h => .inl (MB.grow (by omega) g h)
    case hassign2 =>
      rintro l i x V hx ⟨h1, h2, k10, hm, ⟨kt, kc⟩, v, h3, h4⟩ hl hr
      (refine jjC ?_)
      (apply jjR rfl; (intro _; first|exact eI rfl|exact eB rfl|exact eP rfl|exact eS rfl|exact eT rfl|exact eA rfl|exact eU rfl|exact eF rfl|exact eM rfl|exact eN rfl|exact rfl); exact rfl; exact rfl; exact rfl; exact rfl; intro bx w_bx hb_bx hs_bx hS_bx hk_bx; have hA_bx := Bk.of hk_bx)
      (refine jz ?_)
      exact ⟨rfl, hS_bx.ext.tr, Fr.ofExt hS_bx.ext fun k hk => .inl (MB.same h3 (h3.ext hS_bx.ext) hk), ⟨h1.trans hS_bx.ext, by have := hS_bx.size; omega, k10.ext hS_bx.ext, hm.ext hS_bx.ext, ⟨kt.ext hS_bx.ext, kc.ext hS_bx.ext⟩, v, h3.ext hS_bx.ext, h4.ext hS_bx.ext⟩, bx, rfl, rfl, rfl, inferInstance⟩
    case hbody2 =>
      rintro l i x s' V hx ⟨h1, h2, k10, hm, ⟨kt, kc⟩, v, h3, h4⟩ ⟨bx, ha10, ha14, ha15, hbx⟩ hl hr
      have hlt := (List.getElem?_eq_some_iff.1 hx).1
      have hfl := List.length_filter_le (fun s => !hasL ls s ls.length) ((allS (txF cs) side wd).take i)
      rw [List.length_take] at hfl
      have hsn := filter_snoc (f := fun s => !hasL ls s ls.length) hx
      refine W.fix (d := 10) ha10 (W.fix (d := 14) ha14 (W.fix (d := 15) ha15 ?_))
      clear ha10 ha14 ha15
      have hbx' : At V bx 0 [.int .i64 x.1.1, .int .i64 x.1.2.1, .int .i64 x.1.2.2, .string x.2.1, .string x.2.2.1, .string x.2.2.2] := Bk.toAt (h := hbx)
      have hin : hasL (allS (txF cs) side wd) x (allS (txF cs) side wd).length = true := by
        rw [hasL, List.take_length, List.any_eq_true]; exact ⟨x, List.mem_of_getElem? hx, by simp⟩
      obtain ⟨B, hB⟩ : ∃ B, hasL ls x ls.length = B := ⟨_, rfl⟩
      rw [hB] at hsn
      have hlk := hS.look x
      simp only [hin, hB, Bool.true_and] at hlk
      (refine jjD ?_; refine jjB ?_; refine jjC ?_; refine jN rfl rfl rfl ?_; refine jO rfl rfl rfl rfl ?_)
      refine Ops.lookupV hlk hm rfl rfl ?_
      cases B with
      | true =>
        rw [show (!true) = false from rfl]
        (refine jz ?_; refine jjK rfl ?_; refine jjG ?_)
        refine ⟨.refl _, Fr.refl _ _, h1, h2, k10, hm, ⟨kt, kc⟩, v, h3, ?_⟩
        rw [hsn, if_neg (by simp), List.append_nil]; exact h4
      | false =>
        rw [show (!false) = true from rfl]
        (refine jz ?_; refine jjJ rfl ?_; refine jjC ?_; refine jN rfl rfl rfl ?_; refine jm ?_; refine jn rfl ?_; refine jO rfl rfl rfl rfl ?_)
        (refine jjP (v := .agg _) rfl (by exact rfl) (by exact rfl) (by exact rfl) (by exact rfl) ?_; intro b20 w_b20 hb_b20 hs_b20 hS_b20 hk_b20; have hR_b20 := RowV.one (agg := true) (k := 3) rfl hk_b20)
        have hR1 : RowV w_b20 true 3 (.slice (some ⟨b20, 0, none⟩) 1 1) [encPl x.1] := hR_b20
        have hz10 := hS_b20.size
        have h33 := h3
        refine Ops.appendL (h4.ext hS_b20.ext) (by omega) hR1 rfl rfl rfl rfl (one_pl x.1) ?_ ?_ ?_
        · rw [List.length_map, List.length_map]; simp only [List.length_cons, List.length_nil]; omega
        · rw [List.length_map, List.length_map]; simp only [List.length_cons, List.length_nil]; omega
        intro v2 V4 hA hO _ hown2
        obtain ⟨a2, c2', rfl⟩ := hO.slice
        have hbl : ∀ g, v.ownBlock = some g → w17.heap.size ≤ g := fun g hg => (h4.block g hg).1
        have hne : v.ownBlock ≠ some b14 := fun e => by have := hbl b14 e; omega
        have hB2 : Bk V4 b14 [v] 54 := hA.bk (h3.ext hS_b20.ext) hne
        skip
        refine Ops.store rfl rfl rfl rfl rfl ?_
        intro V5 hp5
        (refine jz ?_)
        have hl2 : (Value.slice a2 (((((allS (txF cs) side wd).take i).filter (fun s => !hasL ls s ls.length)).map (·.1)).map encPl ++ [encPl x.1]).length c2').ownBlock ≠ some b14 := fun e => by rcases hown2 with h | h <;> rw [h] at e; exact hne e; cases e; omega
        have hB3 : Bk V5 b14 [.slice a2 (((((allS (txF cs) side wd).take i).filter (fun s => !hasL ls s ls.length)).map (·.1)).map encPl ++ [encPl x.1]).length c2'] 54 := ⟨hp5.new⟩
        have e10 := hS_b20.ext
        have hnb : ∀ b, b < w17.heap.size → v.ownBlock ≠ some b := fun b h e => by have := hbl b e; omega
        have ht16 := hA1'.lt
        have hc16 := hA2'.lt
        have hmS := hm.lt
        have hm4 : MapE encSl V4 mb m := (hm.ext e10).app hA (hnb _ (by omega))
        refine ⟨(e10.tr.trans hA.tr).trans (hp5.tr ⟨_, hB2.h, rfl⟩), ?_, hp5.ext (hA.ext (h1.trans e10) hsz17) (by omega), ?_, hp5.at_ (hA.at_ (k10.ext e10) (hnb _ (by omega))) (by omega), hm4.put hp5 (by omega), ⟨hp5.at_ (hA.at_ (kt.ext e10) (hnb _ ht16)) (by omega), hp5.at_ (hA.at_ (kc.ext e10) (hnb _ hc16)) (by omega)⟩, _, hB3, ?_⟩
        · exact (Fr.ofExt e10 fun k hk => .inl (MB.same h3 (h3.ext e10) hk)).trans (MB.append (by omega) (h3.ext e10) hA hp5 hB3 hown2)
        · have := hA.g.size; rw [hp5.size]; omega
        · simp only [Bool.not_false, if_true] at hsn
          rw [hsn, List.map_append, List.map_append]
          exact hO.put hp5 hl2
    case hdone2 =>
      rintro ds' V hmk htr ⟨h1, h2, k10, hm, ⟨kt, kc⟩, v, h3, h4⟩
      obtain ⟨va, vl, vc, rfl⟩ := h4.slice3
      have := h3
      (refine jjB ?_; refine jjC ?_; refine jN rfl rfl rfl ?_; apply jJ; exact eS rfl; apply jJ; exact eI rfl; refine jz ?_; refine jjF ?_)
      refine fin2M rfl rfl rfl hmk fun w' g => ⟨h1.ofGrow g (Nat.le_refl _), ?_⟩
      rw [List.take_length] at h4
      exact ⟨_, rfl, (h4.grow g).mono hsz17⟩
end
end Go.Proofs.YtpbkphaceljclaaGreatDoor
