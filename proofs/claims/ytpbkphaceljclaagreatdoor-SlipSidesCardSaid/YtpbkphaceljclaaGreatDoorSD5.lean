/- Texts of the proof, part 5: Sw1, PlG, PlJ, PlX, Eng28, Al1, Al2, Lf3, Tr3, Lf4, Lf5, Lf6, SlV, SameT, Rc1, Al3, PlK, PlL, PlM, Eng36, Cw1. -/
import Derived.KernelRfl
import Derived.Lib.OthersKept
import Derived.Test.YtpbkphaceljclaaGreatDoorSD4
/- slip: Wrong; the reference: Wrong. -/
namespace Go.Proofs.YtpbkphaceljclaaGreatDoor
open Go.RowKit

/-- What is wrong with a slip, and the error. -/
noncomputable def wrongR (t : Tx) (wd side : Int) (s : Slp) : Int × Int := if askE t wd side ≠ 0 then (0, askE t wd side) else if slipB s = false then (0, 31) else match makeF t side wd s.1 with
  | none => (1, 0)
  | some x => if x.2.1 ≠ s.2.1 then (2, 0) else if x.2.2.1 ≠ s.2.2.1 then (3, 0) else if x.2.2.2 ≠ s.2.2.2 then (4, 0) else (0, 0)
theorem wrongR_no {t : Tx} {wd side : Int} {s : Slp} (h : askE t wd side ≠ 0) : wrongR t wd side s = (0, askE t wd side) := by rw [wrongR, if_pos h]
theorem wrongR_bad {t : Tx} {wd side : Int} {s : Slp} (h : askE t wd side = 0) (h2 : slipB s = false) : wrongR t wd side s = (0, 31) := by rw [wrongR, if_neg (by simp [h]), if_pos h2]
theorem wrongR_none {t : Tx} {wd side : Int} {s : Slp} (h : askE t wd side = 0) (h2 : slipB s = true) (h3 : makeF t side wd s.1 = none) : wrongR t wd side s = (1, 0) := by rw [wrongR, if_neg (by simp [h]), if_neg (by simp [h2]), h3]
theorem wrongR_some {t : Tx} {wd side : Int} {s x : Slp} (h : askE t wd side = 0) (h2 : slipB s = true) (h3 : makeF t side wd s.1 = some x) : wrongR t wd side s = if x.2.1 ≠ s.2.1 then (2, 0) else if x.2.2.1 ≠ s.2.2.1 then (3, 0) else if x.2.2.2 ≠ s.2.2.2 then (4, 0) else (0, 0) := by rw [wrongR, if_neg (by simp [h]), if_neg (by simp [h2]), h3]
section
variable (a : Option Addr) (c : Nat) (cs : List Ch) (wd side : Int) (w : World) [hrow : RowI w (.slice a cs.length c) true 2 (cs.map encCh)] [hT : TextI w cs]
set_option maxHeartbeats 2000000 in
theorem Wrong_slip [hgs : At w 0 0 sidesC] [hmx : MxI w] (s : Slp) (hs : SmallT cs) (hd : 0 ≤ side ∧ side ≤ 255) (hss : SmallS s) : Ct Tryz.prog 40 [.agg #[.slice a cs.length c], encCut wd side, encSl s] w fun v _ => v = .tuple #[.int .u8 (wrongR (txF cs) wd side s).1, .int .i64 (wrongR (txF cs) wd side s).2] := by
  refine Ct.ofW (by simp) ?_
  (refine jjB ?_; refine jjC ?_)
  (refine jy rfl ?_; intro b3 w_b3 hb_b3 hs_b3 hS_b3 hk_b3; have hA_b3 := At.ofBlock hk_b3)
  skip
  (refine jy rfl ?_; intro b4 w_b4 hb_b4 hs_b4 hS_b4 hk_b4; have hA_b4 := At.ofBlock hk_b4)
  skip
  (refine jy rfl ?_; intro b5 w_b5 hb_b5 hs_b5 hS_b5 hk_b5; have hA_b5 := At.ofBlock hk_b5)
  (apply jJ; exact eI rfl; apply jJ; exact eI rfl; refine jz ?_; refine jjB ?_; refine jjB ?_; refine jjC ?_; refine jO rfl rfl rfl rfl ?_; refine jO rfl rfl rfl rfl ?_)
  obtain ⟨e, he⟩ : ∃ e, askE (txF cs) wd side = e := ⟨_, rfl⟩
  have h3 := askE_in (txF cs) wd side
  rw [he] at h3
  refine jjQ ((open_slip a c cs wd side _ hs hd).mono fun v _ _ h => h.trans (by rw [he])) rfl rfl ?_
  rintro _ w8 hS8 rfl
  by_cases h0 : e = 0
  rotate_left
  · (apply jJ; exact eI rfl; refine jz ?_; refine jjB ?_; refine jjC ?_; apply jI; exact eI rfl; refine jjj rfl rfl (by omega) ?_; refine jz ?_; refine jjJ rfl ?_; refine jjB ?_; refine jjC ?_; apply jI; exact eI rfl; apply jJ; exact eI rfl; apply jJ; exact eI rfl; refine jz ?_; refine jjF ?_; refine jC rfl rfl rfl ⟨inferInstance, ?_⟩)
    rw [wrongR_no (by rw [he]; exact h0), he]; exact rfl
  subst h0
  obtain ⟨ht, hc⟩ := askE_zero he
  obtain ⟨B, hB⟩ : ∃ B, slipB s = B := ⟨_, rfl⟩
  (apply jJ; exact eI rfl; refine jz ?_; refine jjB ?_; refine jjC ?_; apply jI; exact eI rfl; refine jjk rfl rfl (by omega) ?_; refine jz ?_; refine jjK rfl ?_; refine jjG ?_; refine jjB ?_; refine jjB ?_; refine jjC ?_; refine jO rfl rfl rfl rfl ?_)
  refine jjQ ((right_slip _ s hss).mono fun v _ _ h => h.trans (by rw [hB])) rfl rfl ?_
  rintro _ w9 hS9 rfl
  cases B with
  | false =>
    (refine jq rfl ?_; refine jz ?_; refine jjJ rfl ?_; refine jjB ?_; refine jjC ?_; apply jJ; exact eI rfl; apply jJ; exact eI rfl; refine jz ?_; refine jjF ?_; refine jC rfl rfl rfl ⟨inferInstance, ?_⟩)
    rw [wrongR_bad he hB]; exact rfl
  | true =>
  obtain ⟨o, ho⟩ : ∃ o, makeF (txF cs) side wd s.1 = o := ⟨_, rfl⟩
  (refine jp rfl ?_; refine jz ?_; refine jjK rfl ?_; refine jjG ?_; refine jjB ?_; refine jjC ?_; refine jO rfl rfl rfl rfl ?_; refine jO rfl rfl rfl rfl ?_; refine jm ?_; refine jn rfl ?_; refine jO rfl rfl rfl rfl ?_)
  refine jjQ ((made_slip a c cs wd side _ s.1 hs ht hc).mono fun v _ _ h => h.trans (by rw [ho])) rfl rfl ?_
  rintro _ wA hSA rfl
  cases o with
  | none =>
    (apply jI; exact eU rfl; refine ju rfl rfl ?_; refine ju rfl rfl ?_)
    (apply jjR rfl; (intro _; first|exact eI rfl|exact eB rfl|exact eP rfl|exact eS rfl|exact eT rfl|exact eA rfl|exact eU rfl|exact eF rfl|exact eM rfl|exact eN rfl|exact rfl); exact rfl; exact rfl; exact rfl; exact rfl; intro b9 w_b9 hb_b9 hs_b9 hS_b9 hk_b9; have hA_b9 := Bk.of hk_b9)
    (apply jJ; exact eB rfl; refine jz ?_; refine jjB ?_; refine jjD ?_; refine jjB ?_; refine jjC ?_; apply jI; exact eB rfl; refine jq rfl ?_; apply jJ; exact eB rfl; refine jz ?_; refine jjJ rfl ?_; refine jjB ?_; refine jjC ?_; apply jJ; exact eI rfl; apply jJ; exact eI rfl; refine jz ?_; refine jjF ?_; refine jC rfl rfl rfl ⟨inferInstance, ?_⟩)
    rw [wrongR_none he hB ho]; exact rfl
  | some x =>
  rw [wrongR_some he hB ho]
  have hu : Option.getD (some x) noSl = x := rfl
  rw [hu]
  (apply jI; exact eU rfl; refine ju rfl rfl ?_; refine ju rfl rfl ?_)
  (apply jjR rfl; (intro _; first|exact eI rfl|exact eB rfl|exact eP rfl|exact eS rfl|exact eT rfl|exact eA rfl|exact eU rfl|exact eF rfl|exact eM rfl|exact eN rfl|exact rfl); exact rfl; exact rfl; exact rfl; exact rfl; intro b9 w_b9 hb_b9 hs_b9 hS_b9 hk_b9; have hA_b9 := Bk.of hk_b9)
  (apply jJ; exact eB rfl; refine jz ?_; refine jjB ?_; refine jjD ?_; refine jjB ?_; refine jjC ?_; apply jI; exact eB rfl; refine jp rfl ?_; apply jJ; exact eB rfl; refine jz ?_; refine jjK rfl ?_; refine jjB ?_; refine jjC ?_; refine jm ?_; refine jn rfl ?_; refine jN rfl rfl rfl ?_; refine jm ?_; refine jn rfl ?_; refine jN rfl rfl rfl ?_)
  refine Ops.neqS rfl rfl ?_
  by_cases c1 : x.2.1 = s.2.1
  rotate_left
  · rw [decide_eq_true c1, if_pos c1]
    (apply jJ; exact eB rfl; refine jz ?_; refine jjJ rfl ?_; refine jjB ?_; refine jjC ?_; apply jJ; exact eI rfl; apply jJ; exact eI rfl; refine jz ?_; refine jjF ?_; refine jC rfl rfl rfl ⟨inferInstance, ?_⟩)
    exact rfl
  rw [decide_eq_false (fun h => h c1), if_neg (fun h => h c1)]
  (apply jJ; exact eB rfl; refine jz ?_; refine jjK rfl ?_; refine jjB ?_; refine jjC ?_; refine jm ?_; refine jn rfl ?_; refine jN rfl rfl rfl ?_; refine jm ?_; refine jn rfl ?_; refine jN rfl rfl rfl ?_)
  refine Ops.neqS rfl rfl ?_
  by_cases c2 : x.2.2.1 = s.2.2.1
  rotate_left
  · rw [decide_eq_true c2, if_pos c2]
    (apply jJ; exact eB rfl; refine jz ?_; refine jjJ rfl ?_; refine jjB ?_; refine jjC ?_; apply jJ; exact eI rfl; apply jJ; exact eI rfl; refine jz ?_; refine jjF ?_; refine jC rfl rfl rfl ⟨inferInstance, ?_⟩)
    exact rfl
  rw [decide_eq_false (fun h => h c2), if_neg (fun h => h c2)]
  (apply jJ; exact eB rfl; refine jz ?_; refine jjK rfl ?_; refine jjB ?_; refine jjC ?_; refine jm ?_; refine jn rfl ?_; refine jN rfl rfl rfl ?_; refine jm ?_; refine jn rfl ?_; refine jN rfl rfl rfl ?_)
  refine Ops.neqS rfl rfl ?_
  by_cases c3 : x.2.2.2 = s.2.2.2
  rotate_left
  · rw [decide_eq_true c3, if_pos c3]
    (apply jJ; exact eB rfl; refine jz ?_; refine jjJ rfl ?_; refine jjB ?_; refine jjC ?_; apply jJ; exact eI rfl; apply jJ; exact eI rfl; refine jz ?_; refine jjF ?_; refine jC rfl rfl rfl ⟨inferInstance, ?_⟩)
    exact rfl
  rw [decide_eq_false (fun h => h c3), if_neg (fun h => h c3)]
  (apply jJ; exact eB rfl; refine jz ?_; refine jjK rfl ?_; refine jjG ?_; refine jjB ?_; refine jjC ?_; apply jJ; exact eI rfl; apply jJ; exact eI rfl; refine jz ?_; refine jjF ?_; refine jC rfl rfl rfl ⟨inferInstance, ?_⟩)
  exact rfl
end
end Go.Proofs.YtpbkphaceljclaaGreatDoor

/- Plain law: all slips of a text: no one is there twice, none is missing. -/
namespace Go.Proofs.YtpbkphaceljclaaGreatDoor
open Go.RowKit

theorem nd_inj {α : Type} {l : List α} (h : l.Nodup) {i j : Nat} (hi : i < l.length) (hj : j < l.length) (e : l[i] = l[j]) : i = j := nodup_inj h (List.getElem?_eq_getElem hi) (by rw [List.getElem?_eq_getElem hj, ← e])
section
variable {t : Tx} {wd side : Int}
theorem allS_mem {s : Slp} (h : s ∈ allS t side wd) : makeF t side wd s.1 = some s ∧ s.1 ∈ allP t t.length := by
  obtain ⟨p, hp, rfl⟩ := List.mem_map.1 h
  rw [slP_at]
  exact ⟨makeF_mem hp (Nat.le_refl _), hp⟩
theorem allS_right (ht : textB t = true) (hc : cutB wd side = true) {s : Slp} (h : s ∈ allS t side wd) : slipB s = true := (make_right ht hc (allS_mem h).1).1
theorem allS_fst : (allS t side wd).map (·.1) = allP t t.length := by
  rw [allS, List.map_map]
  exact (List.map_congr_left fun p _ => slP_at t side wd p).trans (List.map_id _)
theorem allS_nodup : (allS t side wd).Nodup := by
  have h := sorted_nodup (allP_sorted t t.length)
  rw [← allS_fst (side := side) (wd := wd)] at h
  exact List.Pairwise.imp (fun hne e => hne (by rw [e])) (List.pairwise_map.1 h)
end
theorem mem_hasL {ls : List Slp} {x : Slp} : hasL ls x ls.length = true ↔ x ∈ ls := by
  rw [hasL, List.take_length, List.any_eq_true]
  constructor
  · rintro ⟨y, hy, e⟩; rw [← of_decide_eq_true e]; exact hy
  · intro h; exact ⟨x, h, decide_eq_true rfl⟩
theorem listE_ok {ls : List Slp} (h : ls.length ≤ 700) (h2 : ∀ s ∈ ls, slipB s = true) : listE ls = 0 := by
  rw [listE, if_neg (by omega), List.all_eq_true.2 h2]; rfl
end Go.Proofs.YtpbkphaceljclaaGreatDoor

/- Plain law: all places of a text with their words, in order. -/
namespace Go.Proofs.YtpbkphaceljclaaGreatDoor
open Go.RowKit

theorem flat_get3 {α : Type} {f : Nat → List α} {q m r : Nat} {x : α} (hq : q < m) (h : (f q)[r]? = some x) : ((List.range m).flatMap f)[((List.range q).flatMap f).length + r]? = some x := by
  obtain ⟨s, hs⟩ := range_split hq
  rw [hs, List.flatMap_append, List.flatMap_cons, List.getElem?_append_right (by omega), Nat.add_sub_cancel_left, List.getElem?_append_left (List.getElem?_eq_some_iff.1 h).1, h]
theorem flat_at {α : Type} {x : List (List α)} {n w : Nat} (hn : n < x.length) (hw : w < x[n].length) : x.flatten[(x.take n).flatten.length + w]? = some x[n][w] := by
  have e : x = x.take n ++ (x[n] :: x.drop (n + 1)) := by rw [← List.drop_eq_getElem_cons hn, List.take_append_drop]
  conv => lhs; rw [e]
  rw [List.flatten_append, List.flatten_cons]
  have hl : ((x.take n ++ (x[n] :: x.drop (n + 1))).take n).flatten.length = (x.take n).flatten.length := by rw [← e]
  rw [hl, List.getElem?_append_right (by omega), Nat.add_sub_cancel_left, List.getElem?_append_left hw, List.getElem?_eq_getElem hw]
theorem lnPs_len (k : Nat) (x : List (List ByteArray)) : ∀ n, n ≤ x.length → ((List.range n).flatMap fun i => lnP k i (x.getD i []).length).length = (x.take n).flatten.length
  | 0, _ => by simp
  | n + 1, h => by
    have hg : x.getD n [] = x[n] := by rw [List.getD_eq_getElem?_getD, List.getElem?_eq_getElem (by omega), Option.getD_some]
    rw [List.range_succ, List.flatMap_append, List.length_append, lnPs_len k x n (by omega), take_snoc_get (List.getElem?_eq_getElem (show n < x.length by omega)), List.flatten_append, List.length_append]
    simp [lnP, List.getElem?_eq_getElem (show n < x.length by omega)]
theorem runA_at {k : Nat} {x : List (List ByteArray)} {n w : Nat} (hn : n < x.length) (hw : w < x[n].length) : (runA k x)[(x.take n).flatten.length + w]? = some ((k : Int), (n : Int), (w : Int)) := by
  have hg : x.getD n [] = x[n] := by rw [List.getD_eq_getElem?_getD, List.getElem?_eq_getElem hn, Option.getD_some]
  rw [← lnPs_len k x n (by omega), runA, runAn]
  refine flat_get3 hn ?_
  rw [hg, lnP, List.getElem?_map, List.getElem?_range hw]; rfl
theorem allW_len (t : Tx) (n : Nat) : (allW t n).length = (allP t n).length := by
  induction n with
  | zero => rfl
  | succ n ih =>
    rw [allP_succ, List.length_append, ← ih, allW, allW, List.range_succ, List.flatMap_append, List.length_append]
    simp [List.length_zip, runA_len]
theorem allW_fst (t : Tx) (n : Nat) : (allW t n).map (·.1) = allP t n := by
  rw [allW, allP, List.map_flatMap]
  congr 1
  funext k
  rw [List.map_fst_zip]
  rw [runA_len]; exact Nat.le_refl _
theorem allW_at {t : Tx} {k n w : Nat} (hk : k < t.length) (hn : n < (wsT t k).length) (hw : w < (wsT t k)[n].length) : (allW t t.length)[(allW t k).length + (((wsT t k).take n).flatten.length + w)]? = some (((k : Int), (n : Int), (w : Int)), (wsT t k)[n][w]) := by
  rw [allW]
  refine flat_get3 (f := fun k => (runA k (wsT t k)).zip (wsT t k).flatten) hk ?_
  rw [List.getElem?_zip_eq_some]
  exact ⟨runA_at hn hw, flat_at hn hw⟩
theorem allW_succ (t : Tx) (k : Nat) : (allW t (k + 1)).length = (allW t k).length + (wsT t k).flatten.length := by
  rw [allW_len, allW_len, allP_succ, List.length_append, runA_len]
theorem flat_len_succ {α : Type} {x : List (List α)} {n : Nat} (hn : n < x.length) : (x.take (n + 1)).flatten.length = (x.take n).flatten.length + x[n].length := by
  rw [take_snoc_get (List.getElem?_eq_getElem hn), List.flatten_append, List.length_append]; simp
end Go.Proofs.YtpbkphaceljclaaGreatDoor

/- The examples of the slips' chapter: what the plain functions answer there. -/
namespace Go.Proofs.YtpbkphaceljclaaGreatDoor
open Go.RowKit

abbrev wThe : ByteArray := ⟨#[116, 104, 101]⟩
abbrev wSea : ByteArray := ⟨#[115, 101, 97]⟩
abbrev wIs : ByteArray := ⟨#[105, 115]⟩
abbrev wOld : ByteArray := ⟨#[111, 108, 100]⟩
abbrev wAnd : ByteArray := ⟨#[97, 110, 100]⟩
abbrev wNo : ByteArray := ⟨#[]⟩
abbrev wOldOld : ByteArray := ⟨#[111, 108, 100, 32, 111, 108, 100]⟩
abbrev wSeaIsOld : ByteArray := ⟨#[115, 101, 97, 32, 105, 115, 32, 111, 108, 100]⟩
abbrev wA : ByteArray := ⟨#[97]⟩
abbrev wB : ByteArray := ⟨#[98]⟩
def seaT : Tx := [(7, [[wThe, wSea, wIs, wOld], [wOld, wThe, wSea]]), (3, [[wSea, wAnd, wSea]])]
theorem sea_valid : textB seaT = true := by kernel_rfl
theorem sea_all : allP seaT seaT.length = [(0, 0, 0), (0, 0, 1), (0, 0, 2), (0, 0, 3), (0, 1, 0), (0, 1, 1), (0, 1, 2), (1, 0, 0), (1, 0, 1), (1, 0, 2)] := by kernel_rfl
theorem sea_ask1 : askE seaT 14 1 = 0 := by kernel_rfl
theorem sea_ask3 : askE seaT 14 3 = 0 := by kernel_rfl
theorem make_at {t : Tx} {wd side : Int} {p : Pl} {s : Slp} {k i : Nat} (ha : askE t wd side = 0) (hk : k < t.length) (hi : (runA k (wsT t k))[i]? = some p) (hs : slipX (wsT t k).flatten side wd i p = s) : makeR t wd side p = (s, 0) := by
  rw [makeR_some ha (makeF_yes hk hi), hs]
theorem sea_m002 : makeR seaT 14 3 (0, 0, 2) = (((0, 0, 2), wIs, wSea, wOldOld), 0) := make_at (k := 0) (i := 2) sea_ask3 (by decide) (by kernel_rfl) (by kernel_rfl)
theorem sea_m010l : makeR seaT 14 1 (0, 1, 0) = (((0, 1, 0), wOld, wSeaIsOld, wNo), 0) := make_at (k := 0) (i := 4) sea_ask1 (by decide) (by kernel_rfl) (by kernel_rfl)
theorem sea_allR : (allR seaT 14 3).length = 10 := by
  rw [allR, if_pos sea_ask3, allS, List.length_map, sea_all]; rfl
theorem sea_part : partR seaT 14 3 (0, 1, 2) (1, 0, 0) = (((allS seaT 3 14).take 8).drop 6, 0) := by
  have h := part_seg sea_ask3 (x := 6) (y := 7) (by rw [sea_all]; decide) (by rw [sea_all]; decide) (by decide)
  have e6 : (allP seaT seaT.length)[6]'(by rw [sea_all]; decide) = (0, 1, 2) := by simp only [sea_all]; rfl
  have e7 : (allP seaT seaT.length)[7]'(by rw [sea_all]; decide) = (1, 0, 0) := by simp only [sea_all]; rfl
  rw [e6, e7] at h; exact h
theorem sea_len : (allS seaT 3 14).length = 10 := by rw [allS, List.length_map, sea_all]; rfl
theorem sea_where : whereR seaT ((0, 0, 0), wSea, wThe, wNo) = ([(0, 0, 1), (0, 1, 2)], 0) := by kernel_rfl
theorem filter_notin {l : List Slp} (hn : l.Nodup) {a b : Nat} (hab : a ≤ b) (hb : b ≤ l.length) : ((l.filter fun s => !hasL ((l.take b).drop a) s ((l.take b).drop a).length)).length = l.length - (b - a) := by
  have e : l = l.take a ++ ((l.take b).drop a ++ l.drop b) := by
    have h1 := List.take_append_drop a (l.take b)
    rw [List.take_take, Nat.min_eq_left hab] at h1
    rw [← List.append_assoc, h1, List.take_append_drop]
  have f1 : (l.take a).filter (fun s => !hasL ((l.take b).drop a) s ((l.take b).drop a).length) = l.take a := by
    rw [List.filter_eq_self]
    intro z hz
    obtain ⟨j, hj, rfl⟩ := List.mem_iff_getElem.1 hz
    rw [List.length_take] at hj
    rw [Bool.not_eq_true', ← Bool.not_eq_true, mem_hasL]
    intro hm
    obtain ⟨i, hi, e⟩ := List.mem_iff_getElem.1 hm
    rw [List.length_drop, List.length_take] at hi
    rw [List.getElem_drop, List.getElem_take, List.getElem_take] at e
    have := nd_inj hn (by omega) (by omega) e; omega
  have f2 : ((l.take b).drop a).filter (fun s => !hasL ((l.take b).drop a) s ((l.take b).drop a).length) = [] := by
    rw [List.filter_eq_nil_iff]
    intro z hz
    rw [mem_hasL.2 hz]; simp
  have f3 : (l.drop b).filter (fun s => !hasL ((l.take b).drop a) s ((l.take b).drop a).length) = l.drop b := by
    rw [List.filter_eq_self]
    intro z hz
    obtain ⟨j, hj, rfl⟩ := List.mem_iff_getElem.1 hz
    rw [List.length_drop] at hj
    rw [Bool.not_eq_true', ← Bool.not_eq_true, mem_hasL]
    intro hm
    obtain ⟨i, hi, e⟩ := List.mem_iff_getElem.1 hm
    rw [List.length_drop, List.length_take] at hi
    rw [List.getElem_drop, List.getElem_drop, List.getElem_take] at e
    have := nd_inj hn (by omega) (by omega) e; omega
  generalize hF : (fun s => !hasL ((l.take b).drop a) s ((l.take b).drop a).length) = F at *
  have hlen : (l.filter F).length = (l.take a).length + (l.drop b).length := by
    conv => lhs; rw [e]
    rw [List.filter_append, List.filter_append, f1, f2, f3, List.length_append, List.length_append]; simp
  rw [hlen, List.length_take, List.length_drop]; omega
theorem sea_right : ∀ s ∈ ((allS seaT 3 14).take 8).drop 6, slipB s = true := fun s hs => allS_right sea_valid (by kernel_rfl) (List.mem_of_mem_take (List.mem_of_mem_drop hs))
theorem sea_miss : (missR seaT 14 3 (((allS seaT 3 14).take 8).drop 6)).1.length = 8 ∧ (missR seaT 14 3 (((allS seaT 3 14).take 8).drop 6)).2 = 0 := by
  have hl : (((allS seaT 3 14).take 8).drop 6).length ≤ 700 := by rw [List.length_drop, List.length_take, sea_len]; decide
  rw [missR_yes sea_ask3 (listE_ok hl sea_right), missF]
  refine ⟨?_, rfl⟩
  have := filter_notin (l := allS seaT 3 14) allS_nodup (a := 6) (b := 8) (by decide) (by rw [sea_len]; decide)
  rw [List.length_map, this, sea_len]
theorem sea_wrong : wrongR seaT 14 3 ((0, 0, 2), wIs, wSea, wOld) = (4, 0) := by
  rw [wrongR_some sea_ask3 (by kernel_rfl) (makeF_yes (k := 0) (i := 2) (by decide) (by kernel_rfl)), show slipX (wsT seaT 0).flatten 3 14 2 (0, 0, 2) = ((0, 0, 2), wIs, wSea, wOldOld) by kernel_rfl]
  decide
theorem sea_twice : twiceR [((0, 0, 0), wA, wNo, wNo), ((0, 0, 0), wA, wNo, wNo)] = ([1], 0) := by kernel_rfl
theorem sea_order : ordR ((0, 0, 0), wA, wNo, wNo) ((0, 0, 0), wB, wNo, wNo) = (-1, 0) := by kernel_rfl
end Go.Proofs.YtpbkphaceljclaaGreatDoor

/- The proof engine, part 28: literals of slices of however many elements. -/
namespace Go.Proofs.YtpbkphaceljclaaGreatDoor
open Go.RowKit

/-- Zero cells of so many elements. -/
def zeroL (z : Value) (m : Nat) : List Value := (List.range m).map fun i => z.cells[i % z.cells.size]!
section rules
variable {P : Program} {ro : Option Nat} {n : Nat} {all rest : List Oper} {K : Sl → World → Prop} {s : Sl} {w : World} {d : Nat} {ty : Nat} {pos : String} {af : Array Edge} {t e : Nat}
theorem Ops.buildSliceF {len size bytes : Nat} {z : Value} {parts : Array (Nat × Operand)} {cells : List Value} [ht : TSl P t e] [hz : TS P e z size bytes] (h0 : Nat.blt 0 (len * size) = true) (h1 : Nat.blt (len * size) 10000 = true)
    (hf : fillL (fun i => some (i * size, size)) (zeroL z (len * size)) (parts.toList.map fun (i, x) => (i, ev n s x)) = some cells)
    (h : ∀ b w', b = w.heap.size → w'.heap.size = w.heap.size + 1 → Step w w' → Bk w' b cells e → Ops P ro n all rest K (upd s d (.slice (some ⟨b, 0, none⟩) len len)) w') :
    Ops P ro n all (⟨some d, .buildSlice t len parts, ty, pos, af, none⟩ :: rest) K s w := by
  have h0' : 0 < len * size := by simpa using h0
  have h1' : len * size < 10000 := by simpa using h1
  have hf2 := fillL_eq _ _ _ _ hf
  have e1 : (zeroL z (len * size)).toArray = (Array.range (len * size)).map (z.cells[· % z.cells.size]!) := by
    apply Array.ext'
    simp [zeroL]
  rw [e1] at hf2
  have e2 : (parts.map fun (p : Nat × Operand) => (p.1, ev n s p.2)).toList = parts.toList.map fun (i, x) => (i, ev n s x) := by simp
  refine Ops.ofRun (w' := w.alloc (.cells cells.toArray e)) rfl ?_ (h w.heap.size _ rfl (by simp) ⟨(Below.refl _ w).alloc (Nat.le_refl _) _⟩ (Bk.of (World.alloc_heap_new w _)))
  have hne : ¬ len * size = 0 := by omega
  have hbig : ¬ (16777216 < len * size) := by omega
  simp only [execOp, Instr.buildSlice, Sem.run_bind, run_underlying ht.h, run_sizeOf' w hz, Result.andThen_ok]
  simp [hbig, run_zeroValue' w hz, newRow]
  have hf3 : Instr.fill (fun i => some (i * size, size)) (Array.map (fun x => z.cells[x % z.cells.size]!) (Array.range (len * size))) (parts.toList.map fun p => (p.1, ev n s p.2)) = some cells.toArray := hf2
  simp [hf3]
  intro hc; exact absurd hc hne
end rules
/-- What such a literal reads as. -/
theorem Bk.rows {w : World} {b e k : Nat} {agg : Bool} {xs : List Value} (h : Bk w b (xs.flatMap (·.cells.toList)) e) (hf : ∀ x ∈ xs, fitsV agg k x = true) (hl : xs.length ≤ 140737488355328) : RowV w agg k (.slice (some ⟨b, 0, none⟩) xs.length xs.length) xs := by
  refine ⟨hl, hf, .inr ⟨b, 0, xs.length, rfl, Nat.le_refl _, fun j x hx => ⟨fun i v hv => ?_⟩⟩⟩
  have := flat_get (k := k) (xs := xs) (fun y hy => fitsV_cells (hf y hy)) hx hv
  have hc := (Bk.toAt (h := h)).h _ _ this
  rw [show 0 + j * k + i = 0 + (j * k + i) by omega]; exact hc
end Go.Proofs.YtpbkphaceljclaaGreatDoor

/- The statements' examples: places, cuts, the text and its copy. -/
namespace Go.Proofs.YtpbkphaceljclaaGreatDoor
open Go.RowKit

theorem at_law3 (k n q : Int) (w : World) : Ct Tryz.prog 34 [.int .i64 k, .int .i64 n, .int .i64 q] w fun v _ => v = encPl (k, n, q) := by
  refine Ct.ofW (by simp) ?_
  (((refine jjB ?_; refine jjC ?_)); refine jjY ?_; intro b6 w_b6 hb_b6 hs_b6 hS_b6 hk_b6; have hA_b6 := Bk.of hk_b6)
  (refine jz ?_; refine jjB ?_; refine jjC ?_; apply jI; exact eI rfl; apply jI; exact eI rfl; apply jI; exact eI rfl)
  (refine jjS (cells := [.int .i64 k, .int .i64 n, .int .i64 q]) ?_ ?_; exact rfl)
  skip
  refine Ops.store rfl rfl rfl rfl rfl ?_
  intro V2 hp2
  have := Bk.toAt (h := Bk.of hp2.new)
  (refine jz ?_; refine jjF ?_)
  exact fin1C rfl rfl rfl rfl rfl ⟨hp2.ext hS_b6.ext (by omega), rfl⟩
theorem cut_law3 (side : Int) (w : World) : Ct Tryz.prog 32 [.int .u8 side] w fun v _ => v = encCut 14 side := by
  refine Ct.ofW (by simp) ?_
  (((refine jjB ?_; refine jjC ?_)); refine jjY ?_; intro b2 w_b2 hb_b2 hs_b2 hS_b2 hk_b2; have hA_b2 := Bk.of hk_b2)
  (refine jz ?_; refine jjB ?_; refine jjC ?_; apply jI; exact eI rfl)
  (refine jjS (cells := [.int .i64 14, .int .u8 side]) ?_ ?_; exact rfl)
  skip
  refine Ops.store rfl rfl rfl rfl rfl ?_
  intro V2 hp2
  have := Bk.toAt (h := Bk.of hp2.new)
  (refine jz ?_; refine jjF ?_)
  exact fin1C rfl rfl rfl rfl rfl ⟨hp2.ext hS_b2.ext (by omega), rfl⟩
theorem strs_fit (l : List ByteArray) : ∀ x ∈ l.map strV, fitsV false 1 x = true := fun x hx => by
  obtain ⟨y, _, rfl⟩ := List.mem_map.1 hx; rfl
set_option maxHeartbeats 1000000 in
theorem sea_law3 (w : World) : Ct Tryz.prog 31 [] w fun v w' => ∃ a c cs, v = .agg #[.slice a cs.length c] ∧ RowV w' true 2 (.slice a cs.length c) (cs.map encCh) ∧ TextI w' cs ∧ txF cs = seaT := by
  refine Ct.ofW (by simp) ?_
  (((refine jjB ?_; refine jjC ?_)); refine jjY ?_; intro b0 w_b0 hb_b0 hs_b0 hS_b0 hk_b0; have hA_b0 := Bk.of hk_b0)
  (refine jz ?_; refine jjB ?_; refine jjC ?_)
  refine Ops.buildSliceF (cells := [strV wThe, strV wSea, strV wIs, strV wOld]) rfl rfl rfl ?_
  intro b1 w1 hb1 hs1 hS1 hk1
  refine Ops.buildSliceF (cells := [strV wOld, strV wThe, strV wSea]) rfl rfl rfl ?_
  intro b2 w2 hb2 hs2 hS2 hk2
  refine Ops.buildSliceF (cells := [.slice (some ⟨b1, 0, none⟩) 4 4, .slice (some ⟨b2, 0, none⟩) 3 3]) rfl rfl rfl ?_
  intro b3 w3 hb3 hs3 hS3 hk3
  (refine jjS (cells := [.int .i64 7, .slice (some ⟨b3, 0, none⟩) 2 2]) ?_ ?_; exact rfl)
  refine Ops.buildSliceF (cells := [strV wSea, strV wAnd, strV wSea]) rfl rfl rfl ?_
  intro b5 w5 hb5 hs5 hS5 hk5
  refine Ops.buildSliceF (cells := [.slice (some ⟨b5, 0, none⟩) 3 3]) rfl rfl rfl ?_
  intro b6 w6 hb6 hs6 hS6 hk6
  (refine jjS (cells := [.int .i64 3, .slice (some ⟨b6, 0, none⟩) 1 1]) ?_ ?_; exact rfl)
  refine Ops.buildSliceF (cells := [.int .i64 7, .slice (some ⟨b3, 0, none⟩) 2 2, .int .i64 3, .slice (some ⟨b6, 0, none⟩) 1 1]) rfl rfl rfl ?_
  intro b8 w8 hb8 hs8 hS8 hk8
  (refine jjS (cells := [.slice (some ⟨b8, 0, none⟩) 2 2]) ?_ ?_; exact rfl)
  have hb0 : Bk w8 b0 [.slice none 0 0] 24 := inferInstance
  have hE8 : Ext w w8 := inferInstance
  have k1 : Bk w8 b1 [strV wThe, strV wSea, strV wIs, strV wOld] 9 := inferInstance
  have k2 : Bk w8 b2 [strV wOld, strV wThe, strV wSea] 9 := inferInstance
  have k3 : Bk w8 b3 [.slice (some ⟨b1, 0, none⟩) 4 4, .slice (some ⟨b2, 0, none⟩) 3 3] 53 := inferInstance
  have k5 : Bk w8 b5 [strV wSea, strV wAnd, strV wSea] 9 := inferInstance
  have k6 : Bk w8 b6 [.slice (some ⟨b5, 0, none⟩) 3 3] 53 := inferInstance
  refine Ops.store rfl rfl rfl rfl rfl ?_
  intro V2 hp2
  have := Bk.toAt (h := Bk.of hp2.new)
  have z0 := hS_b0.size
  have z1 := hS1.size
  have z2 := hS2.size
  have z3 := hS3.size
  have z5 := hS5.size
  have z6 := hS6.size
  have z8 := hS8.size
  have m1 := hp2.bk k1 (by omega)
  have m2 := hp2.bk k2 (by omega)
  have m3 := hp2.bk k3 (by omega)
  have m5 := hp2.bk k5 (by omega)
  have m6 := hp2.bk k6 (by omega)
  have m8 := hp2.bk hk8 (by omega)
  (refine jz ?_; refine jjF ?_)
  refine fin1C rfl rfl rfl rfl rfl ⟨hp2.ext hE8 (by omega), some ⟨b8, 0, none⟩, 2, [(7, some ⟨b3, 0, none⟩, 2, [(some ⟨b1, 0, none⟩, 4, [wThe, wSea, wIs, wOld]), (some ⟨b2, 0, none⟩, 3, [wOld, wThe, wSea])]), (3, some ⟨b6, 0, none⟩, 1, [(some ⟨b5, 0, none⟩, 3, [wSea, wAnd, wSea])])], rfl, ?_, ⟨?_, ?_⟩, rfl⟩
  · exact Bk.rows (xs := [encCh (7, some ⟨b3, 0, none⟩, 2, [(some ⟨b1, 0, none⟩, 4, [wThe, wSea, wIs, wOld]), (some ⟨b2, 0, none⟩, 3, [wOld, wThe, wSea])]), encCh (3, some ⟨b6, 0, none⟩, 1, [(some ⟨b5, 0, none⟩, 3, [wSea, wAnd, wSea])])]) m8 (by simp [fitsV]) (by simp)
  · intro x hx
    simp only [List.mem_cons, List.not_mem_nil, or_false] at hx
    rcases hx with rfl | rfl
    · exact m3.row (fun x hx => by simp at hx; rcases hx with rfl | rfl <;> rfl) (by simp)
    · exact m6.row (fun x hx => by simp at hx; rcases hx with rfl; rfl) (by simp)
  · intro x hx
    simp only [List.mem_cons, List.not_mem_nil, or_false] at hx
    rcases hx with rfl | rfl
    · intro y hy
      simp only [List.mem_cons, List.not_mem_nil, or_false] at hy
      rcases hy with rfl | rfl
      · exact m1.row (strs_fit [_, _, _, _]) (by simp)
      · exact m2.row (strs_fit [_, _, _]) (by simp)
    · intro y hy
      simp only [List.mem_cons, List.not_mem_nil, or_false] at hy
      subst hy
      exact m5.row (strs_fit [_, _, _]) (by simp)
end Go.Proofs.YtpbkphaceljclaaGreatDoor

/- The statements' examples: the copy; a slip of the examples. -/
namespace Go.Proofs.YtpbkphaceljclaaGreatDoor
open Go.RowKit

abbrev wCold : ByteArray := ⟨#[99, 111, 108, 100]⟩
abbrev wSalt : ByteArray := ⟨#[115, 97, 108, 116]⟩
def saltR : List Rd := [((0, 0, 3), 3, wCold), ((0, 1, 1), 1, wNo), ((1, 0, 3), 2, wSalt)]
theorem salt_small : ∀ r ∈ saltR, 0 ≤ r.2.1 ∧ r.2.1 ≤ 255 := by decide
set_option maxHeartbeats 1000000 in
theorem salt_law3 (w : World) : Ct Tryz.prog 37 [] w fun v w' => ∃ ra rc, v = .agg #[.int .i64 4, .slice ra saltR.length rc] ∧ RowV w' true 5 (.slice ra saltR.length rc) (saltR.map encRd) := by
  refine Ct.ofW (by simp) ?_
  (((refine jjB ?_; refine jjC ?_)); refine jjY ?_; intro b0 w_b0 hb_b0 hs_b0 hS_b0 hk_b0; have hA_b0 := Bk.of hk_b0)
  (refine jz ?_; refine jjB ?_; refine jjC ?_)
  refine jjQ (at_law3 0 0 3 _) rfl rfl ?_
  rintro _ w1 hS1 rfl
  (refine jjS (cells := [.int .i64 0, .int .i64 0, .int .i64 3, .int .u8 3, .string wCold]) ?_ ?_; exact rfl)
  refine jjQ (at_law3 0 1 1 _) rfl rfl ?_
  rintro _ w2 hS2 rfl
  (refine jjS (cells := [.int .i64 0, .int .i64 1, .int .i64 1, .int .u8 1, .string wNo]) ?_ ?_; exact rfl)
  refine jjQ (at_law3 1 0 3 _) rfl rfl ?_
  rintro _ w3 hS3 rfl
  (refine jjS (cells := [.int .i64 1, .int .i64 0, .int .i64 3, .int .u8 2, .string wSalt]) ?_ ?_; exact rfl)
  refine Ops.buildSliceF (cells := [.int .i64 0, .int .i64 0, .int .i64 3, .int .u8 3, .string wCold, .int .i64 0, .int .i64 1, .int .i64 1, .int .u8 1, .string wNo, .int .i64 1, .int .i64 0, .int .i64 3, .int .u8 2, .string wSalt]) rfl rfl rfl ?_
  intro b7 w7 hb7 hs7 hS7 hk7
  (refine jjS (cells := [.int .i64 4, .slice (some ⟨b7, 0, none⟩) 3 3]) ?_ ?_; exact rfl)
  have hb0 : Bk w7 b0 [.int .i64 0, .slice none 0 0] 90 := inferInstance
  have hE7 : Ext w w7 := inferInstance
  refine Ops.store rfl rfl rfl rfl rfl ?_
  intro V2 hp2
  have := Bk.toAt (h := Bk.of hp2.new)
  have z0 := hS_b0.size
  have z1 := hS1.size
  have z2 := hS2.size
  have z3 := hS3.size
  have m7 := hp2.bk hk7 (by omega)
  (refine jz ?_; refine jjF ?_)
  refine fin1C rfl rfl rfl rfl rfl ⟨hp2.ext hE7 (by omega), some ⟨b7, 0, none⟩, 3, rfl, ?_⟩
  exact Bk.rows (xs := saltR.map encRd) m7 (by simp [saltR, fitsV]) (by simp [saltR])
theorem salt_moved : movedS seaT 4 saltR (0, 1, 2) = ((0, 1, 1), 0) := by kernel_rfl
section
variable (w : World) [hgs : At w 0 0 sidesC]
set_option maxHeartbeats 4000000 in
theorem made_law3 (p : Pl) (side : Int) (hd : 0 ≤ side ∧ side ≤ 255) (a b c : ByteArray) : Ct Tryz.prog 42 [encPl p, .int .u8 side, .string a, .string b, .string c] w fun v _ => v = .bool (decide ((makeR seaT 14 side p).2 = 0) && decide ((makeR seaT 14 side p).1 = (p, a, b, c))) := by
  refine Ct.ofW (by simp) ?_
  (refine jjB ?_; refine jjC ?_)
  (refine jy rfl ?_; intro b5 w_b5 hb_b5 hs_b5 hS_b5 hk_b5; have hA_b5 := At.ofBlock hk_b5)
  (apply jJ; exact eB rfl; refine jz ?_; refine jjB ?_)
  have hE5 : Ext w w_b5 := inferInstance
  have hA5 : At w_b5 b5 0 [.int .i64 p.1, .int .i64 p.2.1, .int .i64 p.2.2] := inferInstance
  have hg5 : At w_b5 0 0 sidesC := inferInstance
  refine W.keep0 [(1, .int .u8 side), (2, .string a), (3, .string b), (4, .string c), (5, .pointer (some ⟨b5, 0, none⟩))] ⟨eI rfl, eT rfl, eT rfl, eT rfl, eP rfl, trivial⟩ fun s0 => ?_
  refine W.draw (fun w' => Ext w_b5 w') ?_
  intro w1 hS1
  refine AnyS.mono (K' := fun s w' => s 2 = .string a ∧ s 3 = .string b ∧ s 4 = .string c ∧ s 5 = .pointer (some ⟨b5, 0, none⟩) ∧ s 12 = .int .i64 (makeR seaT 14 side p).2 ∧ (∃ b11, s 11 = .pointer (some ⟨b11, 0, none⟩) ∧ At w' b11 0 (encSl (makeR seaT 14 side p).1).cells.toList) ∧ Ext w_b5 w') ?_ ?_
  rotate_left
  · (refine jjV [1, 3] ?_ ?_ ?_; (decide +kernel); (exact inferInstance); (((apply jjT; exact rfl; rintro w' hq; have := hq.toStep; apply jI; exact eI rfl; refine jz ?_; exact ⟨rfl, rfl⟩; apply jjT; exact rfl; rintro w' hq; have := hq.toStep; refine jO rfl rfl rfl rfl ?_; refine jz ?_; exact ⟨rfl, rfl⟩; refine jjU ?_))))
    repeat' ( first
      | (refine jjl 0 8 (by decide +kernel) rfl rfl inferInstance ?_ ?_)
      | (refine jjl 2 8 (by decide +kernel) rfl rfl inferInstance ?_ ?_)
      | (refine jjl 4 8 (by decide +kernel) rfl rfl inferInstance ?_ ?_)
      | ((apply jjW 0; (decide +kernel); exact rfl; (exact inferInstance)))
      | ((apply jjW 2; (decide +kernel); exact rfl; (exact inferInstance)))
      | ((apply jjW 4; (decide +kernel); exact rfl; (exact inferInstance)))
      | (refine jjQ (sea_law3 _) rfl rfl ?_; rintro _ v0 hv0 ⟨ta, tc, cs, rfl, hR0, hT0, hx0⟩; have i0 := RowI.mk hR0; have hsm := small_of_great (cs := cs) (by rw [hx0]; kernel_rfl); refine jz ?_)
      | (refine jjQ (cut_law3 side _) rfl rfl ?_; rintro _ v2 hv2 rfl; refine jz ?_)
      | (refine jjY ?_; intro b8 v8 hb8 hs8 hv8 hk8; have k8 := Bk.of hk8; have z8 : w_b5.heap.size ≤ b8 := (by rw [hb8]; exact Ext.size inferInstance); refine jz ?_)
      | (refine jjQ ((Make_slip ta tc cs 14 side _ p hsm hd).mono fun v _ _ h => h.trans (by rw [hx0])) rfl rfl ?_; rintro _ v4 hv4 rfl; refine jz ?_)
      | (refine jjV [5, 6, 7] ?_ ?_ ?_; (decide +kernel); (exact inferInstance); ((repeat' (first|(apply jjT; exact rfl)|rintro w' hq; have := hq.toStep|(apply jI; exact eU rfl)|refine ju rfl rfl ?_|refine jz ?_|exact ⟨rfl, rfl⟩|refine jjU ?_))))
      | ((apply jjW 8; (decide +kernel); exact rfl; (exact inferInstance)))
      | ((apply jjW 9; (decide +kernel); exact rfl; (exact inferInstance)); refine Ops.store rfl rfl rfl rfl rfl ?_; intro V2 hp2; have e2 : Ext w_b5 V2 := hp2.ext inferInstance z8; refine jz ?_; (refine jjV [10] ?_ ?_ ?_; (decide +kernel); (exact e2); ((repeat' (first|(apply jjT; exact rfl)|rintro w' hq; have := hq.toStep|(apply jJ; exact eI rfl)|refine jz ?_|exact ⟨rfl, rfl⟩|refine jjU ?_)))); refine jjX (by decide +kernel) e2 ?_; exact ⟨rfl, rfl, rfl, rfl, rfl, ⟨b8, rfl, Bk.toAt (h := Bk.of hp2.new)⟩, e2⟩))
  rintro s w8 ⟨h2, h3, h4, h5, h12, ⟨b11, h11, hA11⟩, x8⟩
  have s8 : Step w_b5 w8 := x8.toStep
  refine W.keep0 [(2, .string a), (3, .string b), (4, .string c), (5, .pointer (some ⟨b5, 0, none⟩)), (12, .int .i64 (makeR seaT 14 side p).2), (11, .pointer (some ⟨b11, 0, none⟩))] ⟨h2, h3, h4, h5, h12, h11, trivial⟩ fun s1 => ?_
  clear h2 h3 h4 h5 h12 h11
  generalize makeR seaT 14 side p = R at *
  by_cases h0 : R.2 = 0
  · rw [decide_eq_true h0]
    have hA : At w8 b11 0 [.int .i64 R.1.1.1, .int .i64 R.1.1.2.1, .int .i64 R.1.1.2.2, .string R.1.2.1, .string R.1.2.2.1, .string R.1.2.2.2] := hA11
    (refine jjB ?_; refine jjC ?_; apply jI; exact eI rfl; refine jjh rfl rfl (by omega) ?_; apply jI; exact eB rfl; refine jT rfl rfl rfl ?_; refine jO rfl rfl rfl rfl ?_; refine jT rfl rfl rfl ?_; refine jO rfl rfl rfl rfl ?_; refine jT rfl rfl rfl ?_; apply jI; exact eT rfl; refine jT rfl rfl rfl ?_; apply jI; exact eT rfl; refine jT rfl rfl rfl ?_; apply jI; exact eT rfl; refine jT rfl rfl rfl ?_)
    (refine jjS (cells := [.int .i64 p.1, .int .i64 p.2.1, .int .i64 p.2.2, .string a, .string b, .string c]) ?_ ?_; exact rfl)
    (refine jT rfl rfl rfl ?_)
    refine Ops.eqlT (enc := encSl) R.1 (p, a, b, c) rfl rfl ?_
    (apply jK rfl; exact eB rfl; apply jJ; exact eB rfl; refine jz ?_; refine jjF ?_; refine jB rfl rfl ⟨inferInstance, ?_⟩)
    exact rfl
  · rw [decide_eq_false h0]
    (refine jjB ?_; refine jjC ?_; apply jI; exact eI rfl; refine jji rfl rfl (by omega) ?_; apply jI; exact eB rfl; refine jU rfl rfl rfl rfl ?_; refine jU rfl rfl rfl rfl ?_; refine jU rfl rfl rfl rfl ?_; refine jU rfl rfl rfl rfl ?_; refine jU rfl rfl rfl rfl ?_; refine jU rfl rfl rfl rfl ?_; refine jU rfl rfl rfl rfl ?_; apply jL rfl; exact eB rfl; apply jJ; exact eB rfl; refine jz ?_; refine jjF ?_; refine jB rfl rfl ⟨inferInstance, ?_⟩)
    exact rfl
theorem made_ok (p : Pl) (side : Int) (hd : 0 ≤ side ∧ side ≤ 255) (a b c : ByteArray) (h : makeR seaT 14 side p = ((p, a, b, c), 0)) : Ct Tryz.prog 42 [encPl p, .int .u8 side, .string a, .string b, .string c] w fun v _ => v = .bool true :=
  (made_law3 w p side hd a b c).mono fun v _ _ e => e.trans (by rw [h, decide_eq_true rfl, decide_eq_true rfl]; rfl)
end
end Go.Proofs.YtpbkphaceljclaaGreatDoor

/- slices.DeleteFunc of texts that are empty. -/
namespace Go.Proofs.YtpbkphaceljclaaGreatDoor
open Go.RowKit

theorem fullB_not (s : ByteArray) : fullB s = !decide (s.size = 0) := by
  unfold fullB
  by_cases h : s.size = 0 <;> simp [h]
theorem read1_leaf (s : ByteArray) (w : World) : Ct Tryz.prog 165 [.string s] w fun v _ => v = .bool (!fullB s) := by
  refine Ct.ofW (by simp) ?_
  (refine jjB ?_; refine jjC ?_; apply jJ; exact eB rfl; refine jz ?_; refine jjB ?_; refine jjC ?_; apply jI; exact eT rfl)
  refine Ops.eqlS rfl rfl ?_
  (apply jJ; exact eB rfl; refine jz ?_; refine jjF ?_; refine jB rfl rfl ⟨inferInstance, ?_⟩)
  rw [fullB_not, Bool.not_not, ← decide_str]; exact rfl
theorem idxV_some {α : Type} {p : α → Bool} {xs : List α} {i : Nat} (h : xs.findIdx? p = some i) : idxV p xs = i := by rw [idxV, h]
theorem idxV_none {α : Type} {p : α → Bool} {xs : List α} (h : xs.findIdx? p = none) : idxV p xs = -1 := by rw [idxV, h]
theorem filter_len_lt {α : Type} {f : α → Bool} {l : List α} {i : Nat} (hi : i < l.length) (h : f l[i] = false) : (l.filter f).length < l.length := by
  rw [List.length_filter_lt_length_iff_exists]
  exact ⟨l[i], List.getElem_mem hi, by rw [h]; simp⟩
theorem filter_take_snoc {α : Type} {f : α → Bool} {l : List α} {i : Nat} {x : α} (h : l[i]? = some x) : (l.take (i + 1)).filter f = (l.take i).filter f ++ (if f x then [x] else []) := by
  rw [take_snoc_get h, List.filter_append]
  congr 1
  cases hf : f x <;> simp [hf]
set_option maxHeartbeats 2000000 in
theorem DeleteFunc_string (g n c : Nat) (l : List ByteArray) (w : World) {B : Nat} (hO : OwnL w B 9 false 1 (.slice (some ⟨g, 0, none⟩) n c) (l.map strV)) (hn : n ≤ 1000000) :
    Calls Tryz.prog 164 [.slice (some ⟨g, 0, none⟩) n c, .func (.func 165) #[] #[]].toArray w fun e w' => e = .returned (.slice (some ⟨g, 0, none⟩) (l.filter fullB).length c) ∧ Only g w w' ∧ OwnL w' B 9 false 1 (.slice (some ⟨g, 0, none⟩) (l.filter fullB).length c) ((l.filter fullB).map strV) := by
  obtain ⟨cs, hB, hcl, hnc, hcm, hll, htk, hBg⟩ := hO.cells
  rw [List.length_map] at hll
  have hcs : ∀ j x, l[j]? = some x → cs[j]? = some (strV x) := fun j x hx => by
    have hj := (List.getElem?_eq_some_iff.1 hx).1
    have h2 : (cs.take n)[j]? = some (strV x) := by rw [htk, List.getElem?_map, hx]; rfl
    rwa [List.getElem?_take, if_pos (by omega)] at h2
  have hfit : ∀ x ∈ (l.filter fullB).map strV, fitsV false 1 x = true := fun x hx => by obtain ⟨y, _, rfl⟩ := List.mem_map.1 hx; rfl
  have hfl := List.length_filter_le fullB l
  refine Calls.ofW (by simp) ?_
  (refine jjB ?_; refine jjC ?_; apply jJ; exact eS rfl; refine jz ?_; refine jjB ?_; refine jjC ?_; apply jI; exact eS rfl; apply jI; exact eF rfl)
  obtain ⟨o, ho⟩ : ∃ o, l.findIdx? (fun s => !fullB s) = o := ⟨_, rfl⟩
  refine jjQ (IndexFunc_string _ _ (.func (.func 165) #[] #[]) strV l (fun s => !fullB s) hO.row ⟨_, [], rfl, inferInstance, fun w' x _ _ => read1_leaf x w'⟩) rfl rfl ?_
  rintro _ w2 hS2 rfl
  cases o with
  | none =>
    rw [idxV_none ho]
    have hall : l.filter fullB = l := by
      rw [List.filter_eq_self]
      intro x hx
      have := List.findIdx?_eq_none_iff.1 ho x hx
      simpa using this
    (apply jJ; exact eI rfl; refine jz ?_; refine jjB ?_; refine jjB ?_; refine jjC ?_; apply jI; exact eI rfl; refine jjh rfl rfl (by omega) ?_; refine jz ?_; refine jjJ rfl ?_; refine jjB ?_; refine jjC ?_; apply jI; exact eS rfl; apply jJ; exact eS rfl; refine jz ?_; refine jjF ?_)
    refine jB rfl rfl ⟨?_, .ofExt hS2.ext, ?_⟩
    · rw [hall, hll]; exact rfl
    · rw [hall, hll]; exact hO.ext hS2.ext
  | some i =>
  rw [idxV_some ho]
  obtain ⟨hil, hpi, hbef⟩ := List.findIdx?_eq_some_iff_getElem.1 ho
  have hpi' : fullB l[i] = false := by simpa using hpi
  have hlt := filter_len_lt hil hpi'
  have hpre : (l.take (i + 1)).filter fullB = l.take i := by
    rw [filter_take_snoc (List.getElem?_eq_getElem hil), hpi', if_neg (by simp), List.append_nil, List.filter_eq_self]
    intro x hx
    obtain ⟨j, hj, rfl⟩ := List.mem_iff_getElem.1 hx
    rw [List.length_take] at hj
    have := hbef j (by omega)
    rw [List.getElem_take]
    simpa using this
  (apply jJ; exact eI rfl; refine jz ?_; refine jjB ?_; refine jjB ?_; refine jjC ?_; apply jI; exact eI rfl; refine jji rfl rfl (by omega) ?_; refine jz ?_; refine jjK rfl ?_; refine jjG ?_; refine jjB ?_; refine jjB ?_; refine jjC ?_; apply jI; exact eI rfl; refine jY rfl rfl (by omega) ?_; apply jJ; exact eI rfl; refine jz ?_; refine jjD ?_)
  refine W.keep0 [(0, .slice (some ⟨g, 0, none⟩) n c), (1, .func (.func 165) #[] #[]), (5, .int .i64 ((i : Nat) : Int)), (6, .int .i64 ((i + 1 : Nat) : Int))] ⟨eS rfl, eF rfl, eI rfl, eI rfl, trivial⟩ fun s0 => ?_
  refine W.loopG (16 :: 17 :: 18 :: 19 :: 22 :: 23 :: 24 :: 25 :: 7 :: 26 :: 27 :: 28 :: 29 :: 30 :: 31 :: 32 :: 33 :: 34 :: 35 :: 5 :: 20 :: 21 :: 6 :: []) (fun gg s' V => ∃ (j m : Nat) (ds : List Value), s' 6 = .int .i64 ((j : Nat) : Int) ∧ s' 5 = .int .i64 ((m : Nat) : Int) ∧ gg = n - j ∧ j ≤ n ∧ m = ((l.take j).filter fullB).length ∧ m < j ∧ Only g w V ∧ Bk V g ds 9 ∧ ds.length = c ∧ ds.take m = ((l.take j).filter fullB).map strV ∧ ∀ q, j ≤ q → ds[q]? = cs[q]?) (n - (i + 1)) ⟨i + 1, i, cs, rfl, rfl, rfl, by omega, by rw [hpre, List.length_take]; omega, by omega, .ofExt hS2.ext, hB.ext hS2.ext, hcl, by rw [hpre, List.map_take, ← htk, List.take_take, Nat.min_eq_left (by omega)], fun q _ => rfl⟩ ?_
  rintro _ sd V ⟨j, m, ds, h6, h5, rfl, hj, hm, hmj, hOn, hV, hdl, hdt, hdq⟩
  refine W.fix h6 (W.fix (d := 5) h5 ?_)
  clear h6 h5
  by_cases hjl : j < n
  rotate_left
  · obtain rfl : j = n := by omega
    have e9 : l.take j = l := List.take_of_length_le (by omega)
    rw [e9] at hm hdt
    (refine jjB ?_; refine jjB ?_; refine jjC ?_; apply jI; exact eI rfl; apply jI; exact eS rfl; refine jh rfl ?_; refine jja rfl rfl (by omega) ?_; refine jz ?_; refine jjK rfl ?_; refine jjE ?_; refine jjB ?_; refine jjC ?_; apply jI; exact eS rfl; apply jI; exact eI rfl)
    refine Ops.sliceXL2 (lo := m) rfl rfl rfl (by omega) (by omega) ?_
    skip
    refine Ops.clearB hV rfl (by omega) (by omega) rfl rfl ?_
    intro V3 hp3
    have hO3 : Only g w V3 := hOn.trans (.ofPut hp3)
    have hB3 : Bk V3 g _ 9 := ⟨hp3.new⟩
    (refine jz ?_; refine jjB ?_; refine jjC ?_; apply jI; exact eS rfl; apply jI; exact eI rfl)
    refine Ops.sliceXH (hi := m) rfl rfl rfl (by omega) ?_
    (apply jJ; exact eS rfl; refine jz ?_; refine jjF ?_)
    refine jB rfl rfl ⟨?_, hO3, ?_⟩
    · rw [← hm]; exact rfl
    · rw [← hm]
      refine OwnL.ofCells hB3 ?_ (by omega) hcm ?_ (by omega) hBg hfit
      · simp only [List.length_append, List.length_take, List.length_replicate, List.length_drop]; omega
      · rw [List.append_assoc, List.take_append_of_le_length (by rw [List.length_take]; omega), List.take_take, Nat.zero_add, Nat.min_self]; exact hdt
  have hjl' : j < l.length := by omega
  have hcell : V.cell? ⟨g, 0 + j, none⟩ = some (strV l[j]) := by
    rw [Nat.zero_add]
    exact hV.cellO (by rw [hdq j (Nat.le_refl _)]; exact hcs j _ (List.getElem?_eq_getElem hjl'))
  have hsn := filter_take_snoc (f := fullB) (List.getElem?_eq_getElem hjl')
  obtain ⟨F, hF⟩ : ∃ F, fullB l[j] = F := ⟨_, rfl⟩
  (refine jjB ?_; refine jjB ?_; refine jjC ?_; apply jI; exact eI rfl; apply jI; exact eS rfl; refine jh rfl ?_; refine jjZ rfl rfl (by omega) ?_; refine jz ?_; refine jjJ rfl ?_; refine jjG ?_; refine jjB ?_; refine jjD ?_; refine jjB ?_; refine jjC ?_; apply jI; exact eS rfl; apply jI; exact eI rfl; refine jG rfl rfl rfl (by omega) ?_; refine jR (by assumption) rfl rfl ?_; apply jJ; exact eT rfl; refine jz ?_; refine jjB ?_; refine jjC ?_; apply jI; exact eF rfl; apply jI; exact eT rfl)
  refine jjQ ((read1_leaf l[j] _).mono fun v _ _ h => h.trans (by rw [hF])) rfl rfl ?_
  rintro _ V2 hS2' rfl
  rw [hF] at hsn
  cases F
  · rw [if_neg (by simp), List.append_nil] at hsn
    (refine jp rfl ?_; refine jz ?_; refine jjK rfl ?_; refine jjG ?_; refine jjC ?_; apply jI; exact eI rfl; refine jY rfl rfl (by omega) ?_; apply jJ; exact eI rfl; refine jz ?_)
    exact ⟨rfl, by ((refine Same.upd rfl ?_; refine Same.upd rfl ?_; refine Same.upd rfl ?_; refine Same.upd rfl ?_; refine Same.upd rfl ?_; refine Same.upd rfl ?_; refine Same.upd rfl ?_; refine Same.upd rfl ?_; refine Same.upd rfl ?_; refine Same.upd rfl ?_; refine Same.upd rfl ?_; refine Same.upd rfl ?_; refine Same.upd rfl ?_; refine Same.upd rfl ?_; refine Same.upd rfl ?_; refine Same.upd rfl ?_; refine Same.upd rfl ?_; refine Same.upd rfl ?_; exact Same.ovN)), n - (j + 1), by omega, j + 1, m, ds, congrArg (Value.int .i64) (by omega), rfl, rfl, by omega, by rw [hsn]; exact hm, by omega, hOn.trans (.ofExt hS2'.ext), hV.ext hS2'.ext, hdl, by rw [hsn]; exact hdt, fun q hq => hdq q (by omega)⟩
  · rw [if_pos rfl] at hsn
    have hV2 := hV.ext hS2'.ext
    (refine jq rfl ?_; refine jz ?_; refine jjJ rfl ?_; refine jjB ?_; refine jjC ?_; apply jI; exact eS rfl; apply jI; exact eI rfl; apply jI; exact eT rfl; refine jG rfl rfl rfl (by omega) ?_)
    refine Ops.storeC (cs := ds) (j := m) (v := strV l[j]) rfl rfl rfl rfl (by omega) ?_
    intro V3 hp3
    have hml : (ds.take m).length = m := by rw [List.length_take]; omega
    (refine jz ?_; refine jjC ?_; apply jI; exact eI rfl; refine jY rfl rfl (by omega) ?_; apply jJ; exact eI rfl; refine jz ?_; refine jjC ?_; apply jI; exact eI rfl; refine jY rfl rfl (by omega) ?_; apply jJ; exact eI rfl; refine jz ?_)
    refine ⟨rfl, by ((refine Same.upd rfl ?_; refine Same.upd rfl ?_; refine Same.upd rfl ?_; refine Same.upd rfl ?_; refine Same.upd rfl ?_; refine Same.upd rfl ?_; refine Same.upd rfl ?_; refine Same.upd rfl ?_; refine Same.upd rfl ?_; refine Same.upd rfl ?_; refine Same.upd rfl ?_; refine Same.upd rfl ?_; refine Same.upd rfl ?_; refine Same.upd rfl ?_; refine Same.upd rfl ?_; refine Same.upd rfl ?_; refine Same.upd rfl ?_; refine Same.upd rfl ?_; refine Same.upd rfl ?_; refine Same.upd rfl ?_; refine Same.upd rfl ?_; refine Same.upd rfl ?_; refine Same.upd rfl ?_; refine Same.upd rfl ?_; refine Same.upd rfl ?_; exact Same.ovN)), n - (j + 1), by omega, j + 1, m + 1, _, congrArg (Value.int .i64) (by omega), congrArg (Value.int .i64) (by omega), rfl, by omega, by rw [hsn, List.length_append, ← hm]; rfl, by omega, (hOn.trans (.ofExt hS2'.ext)).trans (.ofPut hp3), ⟨hp3.new⟩, ?_, ?_, fun q hq => ?_⟩
    · simp only [List.length_append, List.length_take, List.length_drop, List.length_cons, List.length_nil]; omega
    · rw [hsn, List.map_append, ← hdt, List.take_append_of_le_length (by rw [List.length_append, hml]; simp), List.take_of_length_le (by rw [List.length_append, hml]; simp)]; rfl
    · rw [← hdq q (by omega), List.getElem?_append_right (by rw [List.length_append, hml]; simp; omega), List.length_append, hml, List.getElem?_drop]
      congr 1
      simp; omega
theorem DeleteFunc_none (a : Option Addr) (n c : Nat) (w : World) (hrow : RowV w false 1 (.slice a n c) (([] : List ByteArray).map strV)) :
    Calls Tryz.prog 164 [.slice a n c, .func (.func 165) #[] #[]].toArray w fun e w' => e = .returned (.slice a n c) ∧ Ext w w' := by
  refine Calls.ofW (by simp) ?_
  (refine jjB ?_; refine jjC ?_; apply jJ; exact eS rfl; refine jz ?_; refine jjB ?_; refine jjC ?_; apply jI; exact eS rfl; apply jI; exact eF rfl)
  refine jjQ (IndexFunc_string _ _ (.func (.func 165) #[] #[]) strV [] (fun s => !fullB s) hrow ⟨_, [], rfl, inferInstance, fun w' x _ _ => read1_leaf x w'⟩) rfl rfl ?_
  rintro _ w2 hS2 rfl
  rw [idxV_none rfl]
  (apply jJ; exact eI rfl; refine jz ?_; refine jjB ?_; refine jjB ?_; refine jjC ?_; apply jI; exact eI rfl; refine jjh rfl rfl (by omega) ?_; refine jz ?_; refine jjJ rfl ?_; refine jjB ?_; refine jjC ?_; apply jI; exact eS rfl; apply jJ; exact eS rfl; refine jz ?_; refine jjF ?_)
  exact jB rfl rfl ⟨rfl, hS2.ext⟩
theorem DeleteFunc_own (a : Option Addr) (n c : Nat) (l : List ByteArray) (w : World) {B : Nat} (hO : OwnL w B 9 false 1 (.slice a n c) (l.map strV)) (hn : l.length ≤ 1000000) :
    Calls Tryz.prog 164 [.slice a n c, .func (.func 165) #[] #[]].toArray w fun e w' => ∃ v', e = .returned v' ∧ OwnL w' B 9 false 1 v' ((l.filter fullB).map strV) ∧ ∀ w0, Ext w0 w → w0.heap.size ≤ B → Ext w0 w' := by
  cases l with
  | nil => exact (DeleteFunc_none a n c w hO.row).mono fun e w' ⟨h1, h2⟩ => ⟨_, h1, hO.ext h2, fun w0 h _ => h.trans h2⟩
  | cons x r =>
    obtain ⟨g, rfl, hg, _⟩ := hO.self (by simp)
    have hlen := hO.row.len
    rw [List.length_map] at hlen
    obtain ⟨_, _, _, _, _, hll, _⟩ := hO.cells
    rw [List.length_map] at hll
    refine (DeleteFunc_string g n c (x :: r) w hO (by omega)).mono fun e w' hp => ?_
    obtain ⟨h1, h2, h3⟩ := hp
    exact ⟨_, h1, h3, fun w0 h hB => h2.ext h (by omega)⟩
end Go.Proofs.YtpbkphaceljclaaGreatDoor

/- The reference: Twin. -/
namespace Go.Proofs.YtpbkphaceljclaaGreatDoor
open Go.RowKit

/-- Lines of the call's own. -/
structure OwnLn (w : World) (B : Nat) (v : Value) (ys : List Ln) : Prop where
  out : OwnL w B 53 false 1 v (ys.map encLn)
  ins : ∀ y ∈ ys, OwnL w B 9 false 1 (encLn y) (y.2.2.map strV)
theorem OwnLn.ext {w w' : World} {B : Nat} {v : Value} {ys : List Ln} (h : OwnLn w B v ys) (hs : Ext w w') : OwnLn w' B v ys := ⟨h.out.ext hs, fun y hy => (h.ins y hy).ext hs⟩
theorem OwnLn.put {w w' : World} {B b : Nat} {o : Obj} {v : Value} {ys : List Ln} (h : OwnLn w B v ys) (p : PutO w w' b o) (hb : b < B) : OwnLn w' B v ys :=
  ⟨h.out.put p fun e => by have := (h.out.block _ e).1; omega, fun y hy => (h.ins y hy).put p fun e => by have := ((h.ins y hy).block _ e).1; omega⟩
theorem OwnLn.mono {w : World} {B B' : Nat} {v : Value} {ys : List Ln} (h : OwnLn w B v ys) (hB : B' ≤ B) : OwnLn w B' v ys := ⟨h.out.mono hB, fun y hy => (h.ins y hy).mono hB⟩
/-- Chapters of the call's own. -/
structure OwnCh (w : World) (B : Nat) (v : Value) (cs : List Ch) : Prop where
  out : OwnL w B 63 true 2 v (cs.map encCh)
  ins : ∀ x ∈ cs, OwnLn w B (.slice x.2.1 x.2.2.2.length x.2.2.1) x.2.2.2
theorem OwnCh.ext {w w' : World} {B : Nat} {v : Value} {cs : List Ch} (h : OwnCh w B v cs) (hs : Ext w w') : OwnCh w' B v cs := ⟨h.out.ext hs, fun y hy => (h.ins y hy).ext hs⟩
theorem OwnCh.put {w w' : World} {B b : Nat} {o : Obj} {v : Value} {cs : List Ch} (h : OwnCh w B v cs) (p : PutO w w' b o) (hb : b < B) : OwnCh w' B v cs :=
  ⟨h.out.put p fun e => by have := (h.out.block _ e).1; omega, fun y hy => (h.ins y hy).put p hb⟩
theorem OwnCh.mono {w : World} {B B' : Nat} {v : Value} {cs : List Ch} (h : OwnCh w B v cs) (hB : B' ≤ B) : OwnCh w B' v cs := ⟨h.out.mono hB, fun y hy => (h.ins y hy).mono hB⟩
theorem OwnCh.text {w : World} {B : Nat} {v : Value} {cs : List Ch} (h : OwnCh w B v cs) : TextI w cs := ⟨fun x hx => (h.ins x hx).out.row, fun x hx y hy => ((h.ins x hx).ins y hy).row⟩
theorem OwnLn.only {kb : Nat} {w w' : World} {B : Nat} {v : Value} {ys : List Ln} (h : OwnLn w B v ys) (o : Only kb w w') (hB : kb < B) : OwnLn w' B v ys := ⟨o.own h.out hB, fun y hy => o.own (h.ins y hy) hB⟩
/-- A row lies in no block of another type. -/
theorem OwnL.neB {w : World} {B e e' k b : Nat} {agg : Bool} {v : Value} {xs : List Value} {cs : List Value} (h : OwnL w B e agg k v xs) (hb : Bk w b cs e') (he : e ≠ e') : v.ownBlock ≠ some b := fun hv => by
  rcases h.own.2 with ⟨rfl, _⟩ | ⟨g, cap, cur, rfl, _, hg, _⟩
  · simp [Value.ownBlock] at hv
  · simp only [Value.ownBlock, Option.some.injEq] at hv
    subst hv
    rw [hb.h] at hg
    cases hg
    exact he rfl
/-- Chapters of the call's own, none of which lies in the block b, nor behind it. -/
theorem OwnCh.only {kb : Nat} {w w' : World} {B : Nat} {v : Value} {cs : List Ch} (h : OwnCh w B v cs) (o : Only kb w w') (hout : v.ownBlock ≠ some kb) (hb : ∃ vs, Bk w kb vs 63) : OwnCh w' B v cs := by
  obtain ⟨vs, hb⟩ := hb
  exact ⟨o.own' h.out hout, fun x hx => ⟨o.own' (h.ins x hx).out ((h.ins x hx).out.neB hb (by decide)), fun y hy => o.own' ((h.ins x hx).ins y hy) (((h.ins x hx).ins y hy).neB hb (by decide))⟩⟩
theorem OwnLn.appC {w w' : World} {B B' B'' : Nat} {v u : Value} {ys : List Ln} {us : List Value} (h : OwnLn w B v ys) (ho : OwnL w B' 63 true 2 u us) (a : App B'' w w' u) : OwnLn w' B v ys :=
  ⟨h.out.app a (OwnL.ne h.out ho (by decide)), fun y hy => (h.ins y hy).app a (OwnL.ne (h.ins y hy) ho (by decide))⟩
theorem one_ln (y : Ln) : [encLn y].all (fun v => v.cells.toList.all (·.oneCell')) = true := rfl
theorem one_ch (y : Ch) : [encCh y].all (fun v => v.cells.toList.all (·.oneCell')) = true := rfl
theorem all_strs (ws : List ByteArray) : (ws.map strV).all (fun v => v.cells.toList.all (·.oneCell')) = true := by
  rw [List.all_eq_true]
  intro x hx
  obtain ⟨s, _, rfl⟩ := List.mem_map.1 hx
  rfl

section
variable (a : Option Addr) (c : Nat) (cs : List Ch) (w : World) [hrow : RowI w (.slice a cs.length c) true 2 (cs.map encCh)] [hT : TextI w cs]
end
end Go.Proofs.YtpbkphaceljclaaGreatDoor

/- leaf: the text of a copy. -/
namespace Go.Proofs.YtpbkphaceljclaaGreatDoor
open Go.RowKit

abbrev nilV : Value := .slice none 0 0
/-- Readings of which a copy's text can be made. -/
structure GoodR (rs : List Rd) : Prop where
  len : rs.length ≤ 100
  next : nextsB rs = true
  kind : ∀ r ∈ rs, 1 ≤ r.2.1 ∧ r.2.1 ≤ 3
  omit_ : ∀ r ∈ rs, r.2.1 = 1 → r.2.2.size = 0
  put : ∀ r ∈ rs, r.2.1 = 2 → r.2.2.size ≠ 0
theorem here_snoc {rs : List Rd} {k : Nat} {r : Rd} (h : rs[k]? = some r) (p : Pl) : hereR p (rs.take (k + 1)) = hereR p (rs.take k) ++ (if r.1 = p then [r] else []) := by
  rw [hereR, filter_take_snoc h]
  congr 1
  by_cases e : r.1 = p <;> simp [e]
theorem foldR_full {o : ByteArray} {l : List Rd} (h : ∀ r ∈ l, r.2.1 = 2 → r.2.2.size ≠ 0) : ∀ s ∈ (foldR o l).1, fullB s = true := by
  have : ∀ (l : List Rd) (z : List ByteArray × ByteArray), (∀ r ∈ l, r.2.1 = 2 → r.2.2.size ≠ 0) → (∀ s ∈ z.1, fullB s = true) → ∀ s ∈ (l.foldl stepR z).1, fullB s = true := by
    intro l
    induction l with
    | nil => intro z _ h; exact h
    | cons r l ih =>
      intro z h hz
      rw [List.foldl_cons]
      refine ih _ (fun x hx => h x (List.mem_cons_of_mem _ hx)) fun s hs => ?_
      unfold stepR at hs
      split at hs
      · rcases List.mem_append.1 hs with hs | hs
        · exact hz s hs
        · obtain rfl := List.mem_singleton.1 hs
          exact decide_eq_true (h r List.mem_cons_self ‹_›)
      · exact hz s hs
  exact this l ([], o) h (by simp)
theorem filter_full {l : List ByteArray} (h : ∀ s ∈ l, fullB s = true) : l.filter fullB = l := List.filter_eq_self.2 h
theorem filter_own (s : ByteArray) : [s].filter fullB = if s.size = 0 then [] else [s] := by
  by_cases h : s.size = 0
  · rw [if_pos h, List.filter_cons_of_neg (by simp [fullB, h]), List.filter_nil]
  · rw [if_neg h, List.filter_cons_of_pos (by simp [fullB, h]), List.filter_nil]
theorem filter_fold {o : ByteArray} {l : List Rd} {so : List ByteArray} (h : ∀ r ∈ l, r.2.1 = 2 → r.2.2.size ≠ 0) (hso : so = (foldR o l).1 ++ [(foldR o l).2] ∨ (so = (foldR o l).1 ∧ (foldR o l).2.size = 0)) :
    so.filter fullB = (foldR o l).1 ++ if (foldR o l).2.size = 0 then [] else [(foldR o l).2] := by
  rcases hso with rfl | ⟨rfl, h0⟩
  · rw [List.filter_append, filter_full (foldR_full h), filter_own]
  · rw [filter_full (foldR_full h), if_pos h0, List.append_nil]
theorem range_snoc (n : Nat) (f : Nat → List ByteArray) : (List.range (n + 1)).flatMap f = (List.range n).flatMap f ++ f n := by
  rw [List.range_succ, List.flatMap_append]; simp
/-- What the some-th round leaves of the words of a place. -/
theorem step_some {H : List Rd} {o : ByteArray} {q : Nat} {r : Rd} (hr : H[q]? = some r) (hk : r.2.1 = 1 ∨ r.2.1 = 2 ∨ r.2.1 = 3) (hom : r.2.1 = 1 → r.2.2.size = 0) (hlast : r.2.1 ≠ 2 → q + 1 = H.length) :
    let z := foldR o (H.take q); let z' := foldR o (H.take (q + 1)); let so := z.1 ++ mkL r.2.1 z.2 r.2.2
    so = z'.1 ++ [z'.2] ∨ (so = z'.1 ∧ z'.2.size = 0 ∧ q + 1 = H.length) := by
  intro z z' so
  have e : z' = stepR z r := foldR_snoc hr
  rcases hk with h | h | h
  · right
    have e1 : z' = (z.1, r.2.2) := by rw [e, stepR, if_neg (by omega)]
    refine ⟨?_, by rw [e1]; exact hom h, hlast (by omega)⟩
    show z.1 ++ mkL r.2.1 z.2 r.2.2 = z'.1
    rw [e1, h, mkL, if_pos rfl, List.append_nil]
  · left
    have e1 : z' = (z.1 ++ [r.2.2], z.2) := by rw [e, stepR, if_pos h]
    show z.1 ++ mkL r.2.1 z.2 r.2.2 = z'.1 ++ [z'.2]
    rw [e1, h, mkL, if_neg (by decide), if_pos rfl]; simp
  · left
    have e1 : z' = (z.1, r.2.2) := by rw [e, stepR, if_neg (by omega)]
    show z.1 ++ mkL r.2.1 z.2 r.2.2 = z'.1 ++ [z'.2]
    rw [e1, h, mkL, if_neg (by decide), if_neg (by decide)]
theorem one_rd (x : Rd) : [encRd x].all (fun v => v.cells.toList.all (·.oneCell')) = true := rfl
set_option maxHeartbeats 16000000 in
theorem read_leaf (a : Option Addr) (c : Nat) (cs : List Ch) (w : World) [hrow : RowI w (.slice a cs.length c) true 2 (cs.map encCh)] [hT : TextI w cs] [hg : At w 1 0 kindsC] (bb : Nat) (id : Int) (ra : Option Addr) (rc : Nat) (rs : List Rd) (hs : SmallT cs) (hrs : GoodR rs) [hb : At w bb 0 [.slice a cs.length c]] [hrd : RowI w (.slice ra rs.length rc) true 5 (rs.map encRd)] :
    Ct Tryz.prog 145 [.pointer (some ⟨bb, 0, none⟩), .agg #[.int .i64 id, .slice ra rs.length rc]] w fun v w' => ∃ a' c' ds, v = .agg #[.slice a' (ds.map encCh).length c'] ∧ txF ds = readT (txF cs) rs ∧ OwnCh w' w.heap.size (.slice a' (ds.map encCh).length c') ds := by
  have hs1 := hs.1
  have hrl := hrs.len
  refine Ct.ofW (by simp) ?_
  (refine jjB ?_; refine jjC ?_)
  (refine jy rfl ?_; intro b3 w_b3 hb_b3 hs_b3 hS_b3 hk_b3; have hA_b3 := At.ofBlock hk_b3)
  ((skip); refine jjY ?_; intro b4 w_b4 hb_b4 hs_b4 hS_b4 hk_b4; have hA_b4 := Bk.of hk_b4)
  (refine jz ?_; refine jjB ?_; refine jjC ?_)
  refine Ops.makeMap encPl ?_
  intro mb w5 hmb hs5 hS5 hM5
  (apply jJ; exact eM rfl; refine jz ?_; refine jjB ?_; refine jjB ?_; refine jjC ?_; refine jm ?_; refine jn rfl ?_; refine jN rfl rfl rfl ?_; refine jh rfl ?_; apply jI; exact eI rfl; refine jz ?_; refine jjD ?_)
  have hE5 : Ext w w5 := inferInstance
  have zE5 := hE5.size
  have hmlt := hmb
  have hb4s := hs_b4
  refine W.keep0 [(0, .pointer (some ⟨bb, 0, none⟩)), (3, .pointer (some ⟨b3, 0, none⟩)), (4, .pointer (some ⟨b4, 0, none⟩)), (5, .map (some mb)), (22, .slice ra rs.length rc), (23, .int .i64 ((rs.length : Nat) : Int)), (24, .int .i64 ((0 : Nat) : Int))] ⟨eP rfl, eP rfl, eP rfl, eM rfl, eS rfl, eI rfl, eI rfl, trivial⟩ fun s0 => ?_
  have hB4 : Bk w5 b4 [nilV] 24 := inferInstance
  refine W.loopG (25 :: 26 :: 27 :: 7 :: 28 :: 29 :: 30 :: 32 :: 33 :: 34 :: 31 :: 35 :: 36 :: 37 :: 24 :: []) (fun gg s' V => ∃ (k : Nat) (m : List (Pl × Value)), s' 24 = .int .i64 ((k : Nat) : Int) ∧ gg = rs.length - k ∧ k ≤ rs.length ∧ Only mb w5 V ∧ MapE encPl V mb m ∧ (∀ p : Pl, OwnL V w5.heap.size 145 true 5 ((mget m p).getD nilV) ((hereR p (rs.take k)).map encRd)) ∧ ∀ (p q : Pl) (g : Nat), p ≠ q → ((mget m p).getD nilV).ownBlock = some g → ((mget m q).getD nilV).ownBlock ≠ some g) rs.length ⟨0, [], rfl, rfl, Nat.zero_le _, .ofExt (.refl _), hM5, fun p => by simpa [mget, hereR] using OwnL.nil _ _ _ _ _, fun p q g _ h => by simp [mget, Value.ownBlock] at h⟩ ?_
  rintro _ sd V ⟨k, m, h24, rfl, hk, hOn, hM, hval, hdis⟩
  refine W.fix h24 ?_
  clear h24
  have zOn := hOn.size
  have hEV : Ext w V := hOn.ext hE5 (by omega)
  have hrV : RowI V (.slice ra rs.length rc) true 5 (rs.map encRd) := ⟨hrd.h.ext hEV⟩
  have hbV : At V bb 0 [.slice a cs.length c] := hb.ext hEV
  by_cases hkr : k < rs.length
  · have hgk := List.getElem?_eq_getElem hkr
    (refine jjB ?_; refine jjC ?_; refine jjZ rfl rfl (by omega) ?_; refine jz ?_; refine jjB ?_; refine jjJ rfl ?_; refine jjG ?_; refine jjB ?_; refine jjD ?_; refine jjB ?_; refine jjC ?_; refine jF rfl rfl rfl (map_get (by omega)) ?_; intro _ _ _; refine jQ rfl rfl ?_)
    (apply jjR rfl; (intro _; first|exact eI rfl|exact eB rfl|exact eP rfl|exact eS rfl|exact eT rfl|exact eA rfl|exact eU rfl|exact eF rfl|exact eM rfl|exact eN rfl|exact rfl); exact rfl; exact rfl; exact rfl; exact rfl; intro b7 w_b7 hb_b7 hs_b7 hS_b7 hk_b7; have hA_b7 := Bk.of hk_b7)
    (refine jz ?_; refine jjC ?_; apply jI; exact eM rfl; refine jm ?_; refine jn rfl ?_; refine jO rfl rfl rfl rfl ?_; refine jO rfl rfl rfl rfl ?_)
    (refine jjP (v := .agg _) rfl (by exact rfl) (by exact rfl) (by exact rfl) (by exact rfl) ?_; intro b33 w_b33 hb_b33 hs_b33 hS_b33 hk_b33; have hR_b33 := RowV.one (agg := true) (k := 5) rfl hk_b33)
    have e7 := hS_b7.ext.trans hS_b33.ext
    have hR33 : RowV w_b33 true 5 (.slice (some ⟨b33, 0, none⟩) 1 1) [encRd rs[k]] := hR_b33
    refine Ops.mapEntry (k := rs[k].1) (encK := encPl) (hM.ext e7) rfl rfl ?_
    intro w6 o6 st hp6 hN6
    have hz : ∃ v0, (mget m rs[k].1).getD nilV = v0 := ⟨_, rfl⟩
    obtain ⟨v0, hv0⟩ := hz
    have hO0 := hval rs[k].1
    have hne0 : ∀ p : Pl, ((mget m p).getD nilV).ownBlock ≠ some mb := fun p e => by have := ((hval p).block _ e).1; omega
    rw [show (mget m rs[k].1).getD (Value.slice none 0 0) = v0 from hv0] at hN6 ⊢
    rw [hv0] at hO0
    have hO6 := (hO0.ext e7).put hp6 (by rw [← hv0]; exact hne0 _)
    have hR6 : RowV w6 true 5 (.slice (some ⟨b33, 0, none⟩) 1 1) [encRd rs[k]] := hp6.row hR33 (by intro e; simp only [Value.ownBlock, Option.some.injEq] at e; omega)
    have z6 := hp6.size
    have z7 := e7.size
    (refine ju rfl rfl ?_)
    refine Ops.appendL hO6 (by omega) hR6 rfl rfl rfl rfl (one_rd _) ?_ ?_ ?_
    · rw [List.length_map]; have := here_len rs[k].1 (rs.take k); have := List.length_take_le k rs; simp only [List.length_cons, List.length_nil]; omega
    · rw [List.length_map]; have := here_len rs[k].1 (rs.take k); have := List.length_take_le k rs; simp only [List.length_cons, List.length_nil]; omega
    intro v2 V4 hA hO4 _ hown2
    have hne0' : v0.ownBlock ≠ some mb := by rw [← hv0]; exact hne0 _
    (refine ju rfl rfl ?_)
    refine Ops.entryStore (v := v2) (hN6.app hA hne0') rfl rfl rfl ?_
    intro V5 o5 hp5 hM5'
    have hOn6 : Only mb w5 V5 := (((hOn.trans (.ofExt e7)).trans (.ofPut hp6)).app hA (Nat.le_refl _)).trans (.ofPut hp5)
    have hO5 := hO4.put hp5 (by rcases hown2 with h | h <;> rw [h]; exact hne0'; intro e; cases e; omega)
    have hmg : ∀ p : Pl, p ≠ rs[k].1 → mget (mset (mset m rs[k].1 v0) rs[k].1 v2) p = mget m p := fun p hp => by rw [mget_set_other _ _ hp, mget_set_other _ _ hp]
    have hmg0 : mget (mset (mset m rs[k].1 v0) rs[k].1 v2) rs[k].1 = some v2 := mget_set_same _ _ _
    (refine jz ?_; refine jjC ?_; refine jY rfl rfl (by omega) ?_; apply jI; exact eI rfl; refine jz ?_)
    refine ⟨rfl, by ((refine Same.upd rfl ?_; refine Same.upd rfl ?_; refine Same.upd rfl ?_; refine Same.upd rfl ?_; refine Same.upd rfl ?_; refine Same.upd rfl ?_; refine Same.upd rfl ?_; refine Same.upd rfl ?_; refine Same.upd rfl ?_; refine Same.upd rfl ?_; refine Same.upd rfl ?_; refine Same.upd rfl ?_; refine Same.upd rfl ?_; refine Same.upd rfl ?_; refine Same.upd rfl ?_; refine Same.upd rfl ?_; exact Same.ovN)), rs.length - (k + 1), by omega, k + 1, _, congrArg (Value.int .i64) (by omega), rfl, by omega, hOn6, hM5', fun p => ?_, fun p q g hpq => ?_⟩
    · rw [here_snoc hgk]
      by_cases hp : p = rs[k].1
      · subst hp
        rw [hmg0, if_pos rfl, List.map_append]
        exact hO5
      · rw [hmg p hp, if_neg (fun e => hp e.symm), List.append_nil]
        have h1 := ((hval p).ext e7).put hp6 (hne0 p)
        have h2 := h1.app hA fun g hg => by rw [← hv0]; exact hdis p _ g hp hg
        exact h2.put hp5 (hne0 p)
    · by_cases hp : p = rs[k].1
      · have hq : q ≠ rs[k].1 := fun e => hpq (hp.trans e.symm)
        subst hp
        rw [hmg0, hmg q hq]
        intro h hq2
        rcases hown2 with h3 | h3
        · rw [Option.getD_some, h3, ← hv0] at h
          exact hdis _ q g hpq h hq2
        · rw [Option.getD_some, h3] at h
          have := ((hval q).block g hq2).2
          cases h
          omega
      · rw [hmg p hp]
        by_cases hq : q = rs[k].1
        · subst hq
          rw [hmg0]
          intro h hq2
          rcases hown2 with h3 | h3
          · rw [Option.getD_some, h3, ← hv0] at hq2
            exact hdis p _ g hpq h hq2
          · rw [Option.getD_some, h3] at hq2
            have := ((hval p).block g h).2
            cases hq2
            omega
        · rw [hmg q hq]
          exact hdis p q g hpq
  obtain rfl : k = rs.length := by omega
  rw [List.take_length] at hval
  have hrows : ∀ p : Pl, ∃ a' c', (mget m p).getD nilV = .slice a' (hereR p rs).length c' ∧ RowV V true 5 (.slice a' (hereR p rs).length c') ((hereR p rs).map encRd) := fun p => by
    obtain ⟨a', c', e⟩ := (hval p).slice
    rw [List.length_map] at e
    exact ⟨a', c', e, e ▸ (hval p).row⟩
  have hB4V : Bk V b4 [nilV] 24 := hOn.bk hB4 (by omega)
  clear hval hdis hM5
  (refine jjB ?_; refine jjC ?_; refine jja rfl rfl (by omega) ?_; refine jz ?_; refine jjB ?_; refine jjK rfl ?_; refine jjE ?_; refine jjB ?_; refine jjC ?_)
  ((skip); refine jjY ?_; intro b8 w_b8 hb_b8 hs_b8 hS_b8 hk_b8; have hA_b8 := Bk.of hk_b8)
  (refine jz ?_; refine jjB ?_; refine jjB ?_; refine jjC ?_; apply jI; exact eP rfl; refine jw rfl ?_; refine jm ?_; refine jn rfl ?_; refine jm ?_; refine jn rfl ?_; refine jN rfl rfl rfl ?_; refine jh rfl ?_; apply jI; exact eI rfl; refine jz ?_; refine jjD ?_)
  have hE8 := hS_b8.ext
  have z8 := hE8.size
  have hw8 : Ext w w_b8 := hEV.trans hE8
  have hB4' : Bk w_b8 b4 [nilV] 24 := hB4V.ext hE8
  refine W.keep0 [(0, .pointer (some ⟨bb, 0, none⟩)), (4, .pointer (some ⟨b4, 0, none⟩)), (5, .map (some mb)), (8, .pointer (some ⟨b8, 0, none⟩)), (42, .slice a cs.length c), (43, .int .i64 ((cs.length : Nat) : Int)), (44, .int .i64 ((0 : Nat) : Int))] ⟨eP rfl, eP rfl, eM rfl, eP rfl, eS rfl, eI rfl, eI rfl, trivial⟩ fun s1 => ?_
  refine W.loopG (45 :: 46 :: 47 :: 48 :: 10 :: 9 :: 49 :: 50 :: 51 :: 11 :: 52 :: 53 :: 54 :: 55 :: 56 :: 57 :: 58 :: 59 :: 12 :: 13 :: 14 :: 60 :: 61 :: 62 :: 63 :: 64 :: 65 :: 15 :: 66 :: 67 :: 68 :: 69 :: 16 :: 70 :: 71 :: 72 :: 73 :: 74 :: 75 :: 76 :: 77 :: 78 :: 79 :: 80 :: 18 :: 81 :: 82 :: 83 :: 19 :: 84 :: 85 :: 86 :: 87 :: 88 :: 89 :: 90 :: 91 :: 92 :: 93 :: 94 :: 95 :: 96 :: 97 :: 98 :: 99 :: 100 :: 101 :: 102 :: 103 :: 104 :: 105 :: 106 :: 107 :: 108 :: 109 :: 110 :: 111 :: 112 :: 113 :: 114 :: 115 :: 116 :: 117 :: 118 :: 119 :: 44 :: []) (fun gg s' V2 => ∃ (k : Nat) (cv : Value) (ds : List Ch), s' 44 = .int .i64 ((k : Nat) : Int) ∧ gg = cs.length - k ∧ k ≤ cs.length ∧ Only b8 w_b8 V2 ∧ Bk V2 b8 [cv] 24 ∧ OwnCh V2 w_b8.heap.size cv ds ∧ txF ds = (readT (txF cs) rs).take k) cs.length ⟨0, _, [], rfl, rfl, Nat.zero_le _, .ofExt (.refl _), hA_b8, ⟨OwnL.nil _ _ _ _ _, by simp⟩, rfl⟩ ?_
  rintro _ sd2 V2 ⟨k, cv, ds, h44, rfl, hk2, hOn2, hV28, hOd, htx⟩
  refine W.fix h44 ?_
  clear h44
  have zOn2 := hOn2.size
  have hE2 : Ext w V2 := hOn2.ext hw8 (by have := hEV.size; omega)
  have hEV2 : Ext V V2 := hOn2.ext hE8 (by omega)
  have hrl2 : (readT (txF cs) rs).length = cs.length := by rw [readT, List.length_mapIdx, txF_len]
  have hdl : ds.length ≤ 1000 := by have := congrArg List.length htx; rw [txF_len, List.length_take] at this; omega
  by_cases hkc : k < cs.length
  rotate_left
  · have hke : k = cs.length := by omega
    rw [hke, ← hrl2, List.take_length] at htx
    obtain ⟨ca, cc, rfl⟩ := hOd.out.slice
    have := Bk.toAt (h := hV28)
    have hB42 : Bk V2 b4 [nilV] 24 := hOn2.bk hB4' (by have := hB4V.lt; omega)
    (refine jjB ?_; refine jjC ?_; refine jja rfl rfl (by omega) ?_; refine jz ?_; refine jjB ?_; refine jjK rfl ?_; refine jjE ?_; refine jjB ?_; refine jjC ?_; refine jO rfl rfl rfl rfl ?_)
    refine Ops.store rfl rfl rfl rfl rfl ?_
    intro V3 hp3
    have hA3 : At V3 b4 0 [.slice ca (ds.map encCh).length cc] := Bk.toAt (h := ⟨hp3.new⟩)
    (refine jz ?_; refine jjF ?_)
    exact fin1C rfl rfl rfl rfl rfl ⟨hp3.ext hE2 (by omega), ca, cc, ds, rfl, htx, (hOd.put hp3 (by have := hB4V.lt; omega)).mono (by have := hEV.size; omega)⟩
  have hgk := List.getElem?_eq_getElem hkc
  have hsk := hs.2 _ (List.getElem_mem hkc)
  have hT2 : TextI V2 cs := hT.ext hE2
  have hbV2 : At V2 bb 0 [.slice a cs.length c] := hb.ext hE2
  have hr2 : RowI V2 (.slice a cs.length c) true 2 (cs.map encCh) := ⟨hrow.h.ext hE2⟩
  (refine jjB ?_; refine jjC ?_; refine jjZ rfl rfl (by omega) ?_; refine jz ?_; refine jjB ?_; refine jjJ rfl ?_; refine jjG ?_; refine jjB ?_; refine jjD ?_; refine jjB ?_; refine jjC ?_; apply jI; exact eI rfl; refine jF rfl rfl rfl (map_get (by omega)) ?_; intro _ _ _; refine jQ rfl rfl ?_)
  ((skip); refine jjY ?_; intro b10 w_b10 hb_b10 hs_b10 hS_b10 hk_b10; have hA_b10 := Bk.of hk_b10)
  (apply jJ; exact eI rfl)
  refine Ops.store rfl rfl rfl rfl rfl ?_
  intro w10 hp10
  have e10a : Ext V2 w10 := hp10.ext hS_b10.ext (by omega)
  have s10 : Step V2 w10 := e10a.toStep
  have hB10' : Bk w10 b10 [.int .i64 cs[k].1, .slice cs[k].2.1 cs[k].2.2.2.length cs[k].2.2.1] 63 := ⟨hp10.new⟩
  (refine jz ?_; refine jjB ?_; refine jjC ?_; refine jm ?_; refine jn rfl ?_; refine jN rfl rfl rfl ?_)
  (refine jjS (cells := [.int .i64 cs[k].1, .slice none 0 0]) ?_ ?_; exact rfl)
  (apply jjR rfl; (intro _; first|exact eI rfl|exact eB rfl|exact eP rfl|exact eS rfl|exact eT rfl|exact eA rfl|exact eU rfl|exact eF rfl|exact eM rfl|exact eN rfl|exact rfl); exact rfl; exact rfl; exact rfl; exact rfl; intro b11 w_b11 hb_b11 hs_b11 hS_b11 hk_b11; have hA_b11 := Bk.of hk_b11)
  (refine jz ?_; refine jjB ?_; refine jjB ?_; refine jjC ?_; refine jm ?_; refine jn rfl ?_; refine jN rfl rfl rfl ?_; refine jh rfl ?_; apply jI; exact eI rfl; refine jz ?_; refine jjD ?_)
  have e10 := e10a.trans hS_b11.ext
  have z11 := e10.size
  have ze10a := e10a.size
  have hb11e := hb_b11
  have hw11 : Ext w w_b11 := hE2.trans e10
  have hV11 : Ext V w_b11 := hEV2.trans e10
  have hB10 : At w_b11 b10 0 [.int .i64 cs[k].1, .slice cs[k].2.1 cs[k].2.2.2.length cs[k].2.2.1] := inferInstance
  have hz : ∃ lns, (readC rs k (txC cs[k])).2 = lns := ⟨_, rfl⟩
  obtain ⟨lns, hlns⟩ := hz
  have hlnl : lns.length = cs[k].2.2.2.length := by rw [← hlns, readC, List.length_mapIdx, List.length_map]
  refine W.keep [(0, .pointer (some ⟨bb, 0, none⟩)), (4, .pointer (some ⟨b4, 0, none⟩)), (5, .map (some mb)), (8, .pointer (some ⟨b8, 0, none⟩)), (42, .slice a cs.length c), (43, .int .i64 ((cs.length : Nat) : Int)), (44, .int .i64 ((k : Nat) : Int)), (9, .int .i64 ((k : Nat) : Int)), (11, .pointer (some ⟨b11, 0, none⟩)), (53, .slice cs[k].2.1 cs[k].2.2.2.length cs[k].2.2.1), (54, .int .i64 ((cs[k].2.2.2.length : Nat) : Int)), (55, .int .i64 ((0 : Nat) : Int))] (D := (45 :: 46 :: 47 :: 48 :: 10 :: 9 :: 49 :: 50 :: 51 :: 11 :: 52 :: 53 :: 54 :: 55 :: 56 :: 57 :: 58 :: 59 :: 12 :: 13 :: 14 :: 60 :: 61 :: 62 :: 63 :: 64 :: 65 :: 15 :: 66 :: 67 :: 68 :: 69 :: 16 :: 70 :: 71 :: 72 :: 73 :: 74 :: 75 :: 76 :: 77 :: 78 :: 79 :: 80 :: 18 :: 81 :: 82 :: 83 :: 19 :: 84 :: 85 :: 86 :: 87 :: 88 :: 89 :: 90 :: 91 :: 92 :: 93 :: 94 :: 95 :: 96 :: 97 :: 98 :: 99 :: 100 :: 101 :: 102 :: 103 :: 104 :: 105 :: 106 :: 107 :: 108 :: 109 :: 110 :: 111 :: 112 :: 113 :: 114 :: 115 :: 116 :: 117 :: 118 :: 119 :: 44 :: [])) (sO := upds s1 _) (by ((refine Same.upd rfl ?_; refine Same.upd rfl ?_; refine Same.upd rfl ?_; refine Same.upd rfl ?_; refine Same.upd rfl ?_; refine Same.upd rfl ?_; refine Same.upd rfl ?_; refine Same.upd rfl ?_; refine Same.upd rfl ?_; refine Same.upd rfl ?_; refine Same.upd rfl ?_; refine Same.upd rfl ?_; refine Same.upd rfl ?_; refine Same.upd rfl ?_; refine Same.upd rfl ?_; exact Same.ovN))) ⟨eP rfl, eP rfl, eM rfl, eP rfl, eS rfl, eI rfl, eI rfl, eI rfl, eP rfl, eS rfl, eI rfl, eI rfl, trivial⟩ fun s2 hs2' => ?_
  refine W.loopG (56 :: 57 :: 58 :: 59 :: 12 :: 13 :: 14 :: 60 :: 61 :: 62 :: 63 :: 64 :: 65 :: 15 :: 66 :: 67 :: 68 :: 69 :: 16 :: 70 :: 71 :: 72 :: 73 :: 74 :: 75 :: 76 :: 77 :: 78 :: 79 :: 80 :: 18 :: 81 :: 82 :: 83 :: 19 :: 84 :: 85 :: 86 :: 87 :: 88 :: 89 :: 90 :: 91 :: 92 :: 93 :: 94 :: 95 :: 96 :: 97 :: 98 :: 99 :: 100 :: 101 :: 102 :: 103 :: 104 :: 105 :: 106 :: 107 :: 108 :: 109 :: 110 :: 111 :: 112 :: 55 :: []) (fun gg s' V3 => ∃ (n : Nat) (lv : Value) (ys : List Ln), s' 55 = .int .i64 ((n : Nat) : Int) ∧ gg = cs[k].2.2.2.length - n ∧ n ≤ cs[k].2.2.2.length ∧ Only b11 w_b11 V3 ∧ Bk V3 b11 [.int .i64 cs[k].1, lv] 63 ∧ OwnLn V3 w_b11.heap.size lv ys ∧ ys.map (·.2.2) = lns.take n) cs[k].2.2.2.length ⟨0, _, [], rfl, rfl, Nat.zero_le _, .ofExt (.refl _), hA_b11, ⟨OwnL.nil _ _ _ _ _, by simp⟩, rfl⟩ ?_
  rintro _ sd3 V3 ⟨n, lv, ys, h55, rfl, hn, hOn3, hV3b, hOy, hyw⟩
  refine W.fix h55 ?_
  clear h55
  have zOn3 := hOn3.size
  have z11w := hw11.size
  have zE2 := hE2.size
  have hE3 : Ext w V3 := hOn3.ext hw11 (by omega)
  have hEV3 : Ext V V3 := hOn3.ext hV11 (by have := hEV2.size; omega)
  have hyl : ys.length ≤ 1000 := by have := congrArg List.length hyw; rw [List.length_map, List.length_take] at this; omega
  obtain ⟨la, lc, hlv⟩ := hOy.out.slice
  rw [List.length_map] at hlv
  subst hlv
  by_cases hnl : n < cs[k].2.2.2.length
  rotate_left
  · have hne : n = lns.length := by omega
    rw [hne, List.take_length] at hyw
    have hcvb : cv.ownBlock ≠ some b11 := fun e => by have := (hOd.out.block _ e).2; omega
    have hOd2 : OwnCh V3 w_b8.heap.size cv ds := (hOd.ext e10).only hOn3 hcvb ⟨_, hA_b11⟩
    have hV38 : Bk V3 b8 [cv] 24 := hOn3.bk (hV28.ext e10) (by have := hV28.lt; omega)
    obtain ⟨ca, cc, hcv⟩ := hOd2.out.slice
    rw [List.length_map] at hcv
    subst hcv
    have := Bk.toAt (h := hV38)
    have := Bk.toAt (h := hV3b)
    (refine jjB ?_; refine jjC ?_; refine jja rfl rfl (by omega) ?_; refine jz ?_; refine jjB ?_; refine jjK rfl ?_; refine jjE ?_; refine jjC ?_; refine jm ?_; refine jn rfl ?_; refine jN rfl rfl rfl ?_; refine jO rfl rfl rfl rfl ?_)
    (refine jjP (v := .agg _) rfl (by exact rfl) (by exact rfl) (by exact rfl) (by exact rfl) ?_; intro b51 w_b51 hb_b51 hs_b51 hS_b51 hk_b51; have hR_b51 := RowV.one (agg := true) (k := 2) rfl hk_b51)
    have hR1 : RowV w_b51 true 2 (.slice (some ⟨b51, 0, none⟩) 1 1) [encCh (cs[k].1, la, lc, ys)] := hR_b51
    have e51 := hS_b51.ext
    have z51 := e51.size
    refine Ops.appendL (hOd2.out.ext e51) (by omega) hR1 rfl rfl rfl rfl (one_ch _) ?_ ?_ ?_
    · rw [List.length_map]; simp only [List.length_cons, List.length_nil]; omega
    · rw [List.length_map]; simp only [List.length_cons, List.length_nil]; omega
    intro cv2 V4 hA hO _ hown2
    have zA := hA.g.size
    have hV34 : Bk V4 b8 [.slice ca ds.length cc] 24 := hA.bk (hV38.ext e51) (hOd2.out.neB hV38 (by decide))
    rw [← List.map_singleton, ← List.map_append] at hO
    obtain ⟨ca2, cl2, cc2, rfl⟩ := hO.slice3
    (refine jm ?_; refine jn rfl ?_)
    refine Ops.store rfl rfl rfl rfl rfl ?_
    intro V6 hp6
    (refine jz ?_; refine jjC ?_; refine jY rfl rfl (by omega) ?_; apply jI; exact eI rfl; refine jz ?_)
    have hOnF : Only b8 w_b8 V6 := (((hOn2.trans (.ofExt (hOn3.ext e10 (by omega)))).trans (.ofExt e51)).app hA (Nat.le_refl _)).trans (.ofPut hp6)
    have hOdF : OwnCh V4 w_b8.heap.size (.slice ca2 cl2 cc2) (ds ++ [(cs[k].1, la, lc, ys)]) := ⟨hO, fun x hx => by
      rcases List.mem_append.1 hx with hx | hx
      · exact ((hOd2.ins x hx).ext e51).appC (hOd2.out.ext e51) hA
      · obtain rfl := List.mem_singleton.1 hx
        exact ((hOy.ext e51).appC (hOd2.out.ext e51) hA).mono (by omega)⟩
    have hb8lt := hV28.lt
    have hb8lt' := hA_b8.lt
    refine ⟨rfl, by ((refine Same.upd rfl ?_; refine Same.upd rfl ?_; refine Same.upd rfl ?_; refine Same.upd rfl ?_; refine Same.upd rfl ?_; refine Same.upd rfl ?_; refine Same.upd rfl ?_; refine Same.upd rfl ?_; refine Same.upd rfl ?_; refine Same.upd rfl ?_; refine Same.ovN' rfl ?_; assumption)), cs.length - (k + 1), by omega, k + 1, _, ds ++ [(cs[k].1, la, lc, ys)], congrArg (Value.int .i64) (by omega), rfl, by omega, hOnF, ⟨hp6.new⟩, hOdF.put hp6 (by omega), ?_⟩
    have hg : (readT (txF cs) rs)[k]? = some (readC rs k (txC cs[k])) := by
      rw [readT, List.getElem?_mapIdx]
      simp [txF, hkc]
    rw [take_snoc_get hg, ← htx, txF, List.map_append]
    show _ ++ [(cs[k].1, ys.map (·.2.2))] = _
    rw [hyw, ← hlns]; rfl
  have hsn := hsk.2 _ (List.getElem_mem hnl)
  have hT3 : TextI V3 cs := hT.ext hE3
  have i3 := hT3.line hkc
  have i3w := hT3.word hkc hnl
  have hz : ∃ l, cs[k].2.2.2[n].2.2 = l := ⟨_, rfl⟩
  obtain ⟨l, hl⟩ := hz
  have hll := hsn.1
  rw [hl] at hll
  have hln : lns[n]? = some (lineS l rs k n) := by
    rw [← hlns, readC, List.getElem?_mapIdx]
    simp [hnl, hl]
  have hLR : RowV V3 false 1 (.slice cs[k].2.2.2[n].1 l.length cs[k].2.2.2[n].2.1) (l.map strV) := by have := i3w.h; rw [hl] at this; exact this
  (refine jjB ?_; refine jjC ?_; refine jjZ rfl rfl (by omega) ?_; refine jz ?_; refine jjB ?_; refine jjJ rfl ?_; refine jjG ?_; refine jjB ?_; refine jjD ?_; refine jjB ?_; refine jjC ?_; apply jI; exact eI rfl; refine jF rfl rfl rfl (map_get (by omega)) ?_; intro _ _ _; refine jQ rfl rfl ?_; apply jJ; exact eI rfl; apply jJ; exact eS rfl; refine jz ?_; refine jjB ?_; refine jjC ?_; apply jJ; exact eS rfl; refine jz ?_; refine jjB ?_; refine jjB ?_; refine jjC ?_; apply jI; exact eS rfl; refine jh rfl ?_; refine jY rfl rfl (by omega) ?_; apply jI; exact eI rfl; refine jz ?_; refine jjD ?_)
  refine W.keep [(0, .pointer (some ⟨bb, 0, none⟩)), (4, .pointer (some ⟨b4, 0, none⟩)), (5, .map (some mb)), (8, .pointer (some ⟨b8, 0, none⟩)), (42, .slice a cs.length c), (43, .int .i64 ((cs.length : Nat) : Int)), (44, .int .i64 ((k : Nat) : Int)), (9, .int .i64 ((k : Nat) : Int)), (11, .pointer (some ⟨b11, 0, none⟩)), (53, .slice cs[k].2.1 cs[k].2.2.2.length cs[k].2.2.1), (54, .int .i64 ((cs[k].2.2.2.length : Nat) : Int)), (55, .int .i64 ((n : Nat) : Int)), (12, .int .i64 ((n : Nat) : Int)), (13, .slice cs[k].2.2.2[n].1 l.length cs[k].2.2.2[n].2.1), (14, .slice none 0 0), (62, .int .i64 ((l.length : Nat) + 1 : Int)), (63, .int .i64 ((0 : Nat) : Int))] (D := (56 :: 57 :: 58 :: 59 :: 12 :: 13 :: 14 :: 60 :: 61 :: 62 :: 63 :: 64 :: 65 :: 15 :: 66 :: 67 :: 68 :: 69 :: 16 :: 70 :: 71 :: 72 :: 73 :: 74 :: 75 :: 76 :: 77 :: 78 :: 79 :: 80 :: 18 :: 81 :: 82 :: 83 :: 19 :: 84 :: 85 :: 86 :: 87 :: 88 :: 89 :: 90 :: 91 :: 92 :: 93 :: 94 :: 95 :: 96 :: 97 :: 98 :: 99 :: 100 :: 101 :: 102 :: 103 :: 104 :: 105 :: 106 :: 107 :: 108 :: 109 :: 110 :: 111 :: 112 :: 55 :: [])) (sO := upds s2 _) (by ((refine Same.upd rfl ?_; refine Same.upd rfl ?_; refine Same.upd rfl ?_; refine Same.upd rfl ?_; refine Same.upd rfl ?_; refine Same.upd rfl ?_; refine Same.upd rfl ?_; refine Same.upd rfl ?_; refine Same.upd rfl ?_; refine Same.upd rfl ?_; refine Same.upd rfl ?_; refine Same.upd rfl ?_; exact Same.ovN))) ⟨eP rfl, eP rfl, eM rfl, eP rfl, eS rfl, eI rfl, eI rfl, eI rfl, eP rfl, eS rfl, eI rfl, eI rfl, eI rfl, (by rw [← hl]; exact rfl), eS rfl, (by rw [← hl]; exact rfl), eI rfl, trivial⟩ fun s3 hs3' => ?_
  refine W.loopG (64 :: 65 :: 15 :: 66 :: 67 :: 68 :: 69 :: 16 :: 70 :: 71 :: 72 :: 73 :: 74 :: 75 :: 76 :: 77 :: 78 :: 79 :: 80 :: 18 :: 81 :: 82 :: 83 :: 19 :: 84 :: 85 :: 86 :: 87 :: 88 :: 89 :: 90 :: 91 :: 92 :: 93 :: 94 :: 95 :: 96 :: 97 :: 98 :: 99 :: 100 :: 101 :: 102 :: 103 :: 14 :: 104 :: 63 :: []) (fun gg s' V4 => ∃ (q : Nat) (wa : Option Addr) (wn wc : Nat) (ws : List ByteArray), s' 63 = .int .i64 ((q : Nat) : Int) ∧ s' 14 = .slice wa wn wc ∧ gg = l.length + 1 - q ∧ q ≤ l.length + 1 ∧ Ext V3 V4 ∧ OwnL V4 V3.heap.size 9 false 1 (.slice wa wn wc) (ws.map strV) ∧ ws.filter fullB = (List.range q).flatMap (wrdS l rs k n) ∧ ws.length ≤ q * 101) (l.length + 1) ⟨0, none, 0, 0, [], rfl, rfl, rfl, Nat.zero_le _, .refl _, OwnL.nil _ _ _ _ _, rfl, Nat.zero_le _⟩ ?_
  rintro _ sd4 V4 ⟨q, wa, wn, wc, ws, h63, h14, rfl, hq, hE4, hOw, hwf, hwl⟩
  refine W.fix h63 (W.fix (d := 14) h14 ?_)
  clear h63 h14
  have zE4 := hE4.size
  have hz := hOw.slice
  obtain ⟨_, _, ewn⟩ := hz
  simp only [Value.slice.injEq, List.length_map] at ewn
  obtain ⟨-, hwn, -⟩ := ewn
  by_cases hql : q < l.length + 1
  rotate_left
  · have hqe : q = l.length + 1 := by omega
    have hws : ws.filter fullB = lineS l rs k n := by rw [hwf, hqe]; rfl
    (refine jjB ?_; refine jjC ?_; refine jja rfl rfl (by omega) ?_; refine jz ?_; refine jjB ?_; refine jjK rfl ?_; refine jjE ?_)
    refine W.drawX 7 (fun w' => At w' b11 0 [.int .i64 cs[k].1, .slice la ys.length lc]) ?_
    intro w1 hS1
    have x1 := hS1.ext
    have aB := Bk.toAt (h := hV3b)
    have s1 := aB.ext (hE4.trans x1)
    (refine AnyX.take [0, 1, 2] ?_ ?_ ?_; (decide +kernel); (exact s1); (((apply jjT; exact rfl; rintro w' q0; refine jm ?_; refine jn rfl ?_; refine jz ?_; exact ⟨rfl, rfl⟩; apply jjT; exact rfl; rintro w' q0; refine jN rfl rfl rfl ?_; refine jz ?_; exact ⟨rfl, rfl⟩; apply jjT; exact rfl; rintro w' q0; apply jI; exact eS rfl; refine jz ?_; exact ⟨rfl, rfl⟩; refine jjU ?_))))
    (apply AnyX.one 3; (decide +kernel); exact rfl; (exact s1))
    refine Ops.callR (cap := []) rfl (inferInstance : Enters Tryz.prog 164).h rfl (DeleteFunc_own wa wn wc ws _ (hOw.ext x1) (by omega)) ?_
    rintro e w5' ⟨v', rfl, hOd5, hext5⟩
    refine ⟨v', rfl, ?_⟩
    refine jz ?_
    have x5 : Ext V3 w5' := hext5 V3 (hE4.trans x1) (Nat.le_refl _)
    have z5 := x5.size
    have hz := hOd5.slice
    obtain ⟨a6, c6, hv6⟩ := hz
    rw [List.length_map, hws] at hv6
    subst hv6
    rw [hws] at hOd5
    have s5 := aB.ext x5
    (apply AnyX.one 4; (decide +kernel); exact rfl; (exact s5))
    (refine jjP (v := .slice _ _ _) rfl (by exact rfl) (by exact rfl) (by exact rfl) (by exact rfl) ?_; intro b45 w_b45 hb_b45 hs_b45 hS_b45 hk_b45; have hR_b45 := RowV.one (agg := false) (k := 1) rfl hk_b45)
    refine jz ?_
    have hR45 : RowV w_b45 false 1 (.slice (some ⟨b45, 0, none⟩) 1 1) [encLn (a6, c6, lineS l rs k n)] := hR_b45
    have x45 := x5.trans hS_b45.ext
    have z45 := x45.size
    have s45 := aB.ext x45
    (apply AnyX.one 5; (decide +kernel); exact rfl; (exact s45))
    refine Ops.appendL (hOy.out.ext x45) (by omega) hR45 rfl rfl rfl rfl (one_ln _) ?_ ?_ ?_
    · rw [List.length_map]; simp only [List.length_cons, List.length_nil]; omega
    · rw [List.length_map]; simp only [List.length_cons, List.length_nil]; omega
    intro lv2 w9 hA9 hO9 _ hown9
    refine jz ?_
    have hnb : ∀ b, b < w_b11.heap.size → (Value.slice la ys.length lc).ownBlock ≠ some b := fun b h e => by have := (hOy.out.block _ e).1; omega
    have lt11 := hA_b11.lt
    have s9 := hA9.at_ s45 (hnb _ (by omega))
    (refine AnyX.take [6] ?_ ?_ ?_; (decide +kernel); (exact s9); (((apply jjT; exact rfl; rintro w' q0; refine jm ?_; refine jn rfl ?_; refine jz ?_; exact ⟨rfl, rfl⟩; refine jjU ?_))))
    (apply AnyX.one 7; (decide +kernel); exact rfl; (exact s9))
    have hB9 : Bk w9 b11 [.int .i64 cs[k].1, .slice la ys.length lc] 63 := hA9.bk (hV3b.ext x45) (hnb _ (by omega))
    rw [← List.map_singleton, ← List.map_append] at hO9
    have hz := hO9.slice3
    obtain ⟨la2, ll2, lc2, rfl⟩ := hz
    refine Ops.storeC (cs := [.int .i64 cs[k].1, .slice la ys.length lc]) (j := 1) (v := .slice la2 ll2 lc2) rfl rfl rfl rfl (show 1 < 2 by omega) ?_
    intro wF hpF
    refine jz ?_
    refine AnyX.done (by decide +kernel) ?_
    have hOnF : Only b11 w_b11 wF := ((hOn3.trans (.ofExt x45)).app hA9 (Nat.le_refl _)).trans (.ofPut hpF)
    have hOyF : OwnLn w9 w_b11.heap.size (.slice la2 ll2 lc2) (ys ++ [(a6, c6, lineS l rs k n)]) := ⟨hO9, fun y hy => by
      rcases List.mem_append.1 hy with hy | hy
      · exact ((hOy.ins y hy).ext x45).app hA9 (OwnL.ne ((hOy.ins y hy).ext x45) (hOy.out.ext x45) (by decide))
      · obtain rfl := List.mem_singleton.1 hy
        exact ((hOd5.ext hS_b45.ext).app hA9 (OwnL.ne (hOd5.ext hS_b45.ext) (hOy.out.ext x45) (by decide))).mono (by omega)⟩
    (refine jjC ?_; refine jY rfl rfl (by omega) ?_; apply jI; exact eI rfl; refine jz ?_)
    refine ⟨rfl, by ((refine Same.upd rfl ?_; refine Same.upd rfl ?_; refine Same.upd rfl ?_; refine Same.upd rfl ?_; refine Same.upd rfl ?_; refine Same.upd rfl ?_; refine Same.upd rfl ?_; refine Same.upd rfl ?_; refine Same.upd rfl ?_; refine Same.upd rfl ?_; refine Same.upd rfl ?_; refine Same.upd rfl ?_; refine Same.ovN' rfl ?_; assumption)), cs[k].2.2.2.length - (n + 1), by omega, n + 1, _, ys ++ [(a6, c6, lineS l rs k n)], congrArg (Value.int .i64) (by omega), rfl, by omega, hOnF, ⟨hpF.new⟩, hOyF.put hpF (by omega), ?_⟩
    rw [take_snoc_get hln, ← hyw, List.map_append]; rfl
  have hz : ∃ o, l.getD q ⟨#[]⟩ = o := ⟨_, rfl⟩
  obtain ⟨o, ho⟩ := hz
  (refine jjB ?_; refine jjC ?_; refine jjZ rfl rfl (by omega) ?_; refine jz ?_; refine jjB ?_; refine jjJ rfl ?_; refine jjG ?_; refine jjB ?_; refine jjD ?_; refine jjB ?_; refine jjC ?_; apply jI; exact eI rfl; apply jJ; exact eI rfl; refine jz ?_; refine jjB ?_; refine jjC ?_; apply jI; exact eS rfl; apply jI; exact eI rfl)
  refine jjQ ((own_leaf cs[k].2.2.2[n].1 cs[k].2.2.2[n].2.1 l.length l q _ rfl (by omega) (by omega) (hLR.ext hE4)).mono fun v _ _ e => e.trans (by rw [ho])) rfl rfl ?_
  rintro _ w5' hS5' rfl
  have x5 := hE4.trans hS5'.ext
  have z5 := x5.size
  skip
  (refine jjP (v := .string _) rfl (by exact rfl) (by exact rfl) (by exact rfl) (by exact rfl) ?_; intro b69 w_b69 hb_b69 hs_b69 hS_b69 hk_b69; have hR_b69 := RowV.one (agg := false) (k := 1) rfl hk_b69)
  have x69 := hS_b69.ext
  have z69 := x69.size
  have hO69 : OwnL w_b69 w5'.heap.size 9 false 1 (.slice (some ⟨b69, 0, none⟩) 1 1) ([o].map strV) := OwnL.one rfl (by omega) hk_b69
  (apply jJ; exact eS rfl; refine jz ?_; refine jjB ?_; refine jjB ?_; refine jjC ?_; apply jI; exact eM rfl; apply jI; exact eI rfl; apply jI; exact eI rfl; apply jI; exact eI rfl)
  (refine jjS (cells := [.int .i64 (k : Int), .int .i64 (n : Int), .int .i64 (q : Int)]) ?_ ?_; exact rfl)
  skip
  have hz : ∃ H, hereR ((k : Int), (n : Int), (q : Int)) rs = H := ⟨_, rfl⟩
  obtain ⟨H, hH⟩ := hz
  have hz := hrows ((k : Int), (n : Int), (q : Int))
  obtain ⟨ha, hc, hv, hHR⟩ := hz
  rw [hH] at hv hHR
  have hHl : H.length ≤ 100 := by rw [← hH]; have := here_len ((k : Int), (n : Int), (q : Int)) rs; omega
  have hHm : ∀ r ∈ H, r ∈ rs := fun r hr => by rw [← hH] at hr; exact (here_mem hr).1
  have hHlast : ∀ (i : Nat) (hi : i < H.length), H[i].2.1 ≠ 2 → i + 1 = H.length := fun i hi h => by
    by_cases e : i + 1 = H.length
    · exact e
    · exfalso
      subst hH
      exact h (here_put hrs.next (by omega))
  have hX69 : Ext V w_b69 := hEV3.trans (x5.trans x69)
  refine Ops.lookupV (k := ((k : Int), (n : Int), (q : Int))) (encK := encPl) hv (hM.ext hX69) rfl rfl ?_
  (refine jh rfl ?_; apply jI; exact eI rfl; refine jz ?_; refine jjD ?_)
  refine W.keep [(0, .pointer (some ⟨bb, 0, none⟩)), (4, .pointer (some ⟨b4, 0, none⟩)), (5, .map (some mb)), (8, .pointer (some ⟨b8, 0, none⟩)), (42, .slice a cs.length c), (43, .int .i64 ((cs.length : Nat) : Int)), (44, .int .i64 ((k : Nat) : Int)), (9, .int .i64 ((k : Nat) : Int)), (11, .pointer (some ⟨b11, 0, none⟩)), (53, .slice cs[k].2.1 cs[k].2.2.2.length cs[k].2.2.1), (54, .int .i64 ((cs[k].2.2.2.length : Nat) : Int)), (55, .int .i64 ((n : Nat) : Int)), (12, .int .i64 ((n : Nat) : Int)), (13, .slice cs[k].2.2.2[n].1 l.length cs[k].2.2.2[n].2.1), (14, .slice wa wn wc), (62, .int .i64 ((l.length : Nat) + 1 : Int)), (63, .int .i64 ((q : Nat) : Int)), (15, .int .i64 ((q : Nat) : Int)), (16, .slice (some ⟨b69, 0, none⟩) 1 1), (75, .slice ha H.length hc), (76, .int .i64 ((H.length : Nat) : Int)), (77, .int .i64 ((0 : Nat) : Int))] (D := (64 :: 65 :: 15 :: 66 :: 67 :: 68 :: 69 :: 16 :: 70 :: 71 :: 72 :: 73 :: 74 :: 75 :: 76 :: 77 :: 78 :: 79 :: 80 :: 18 :: 81 :: 82 :: 83 :: 19 :: 84 :: 85 :: 86 :: 87 :: 88 :: 89 :: 90 :: 91 :: 92 :: 93 :: 94 :: 95 :: 96 :: 97 :: 98 :: 99 :: 100 :: 101 :: 102 :: 103 :: 14 :: 104 :: 63 :: [])) (sO := upds s3 _) (by ((refine Same.upd rfl ?_; refine Same.upd rfl ?_; refine Same.upd rfl ?_; refine Same.upd rfl ?_; refine Same.upd rfl ?_; refine Same.upd rfl ?_; refine Same.upd rfl ?_; refine Same.upd rfl ?_; refine Same.upd rfl ?_; refine Same.upd rfl ?_; refine Same.upd rfl ?_; refine Same.upd rfl ?_; refine Same.upd rfl ?_; refine Same.upd rfl ?_; refine Same.upd rfl ?_; refine Same.upd rfl ?_; refine Same.upd rfl ?_; refine Same.upd rfl ?_; exact Same.ovN))) ⟨eP rfl, eP rfl, eM rfl, eP rfl, eS rfl, eI rfl, eI rfl, eI rfl, eP rfl, eS rfl, eI rfl, eI rfl, eI rfl, eS rfl, eS rfl, eI rfl, eI rfl, eI rfl, eS rfl, eS rfl, eI rfl, eI rfl, trivial⟩ fun s4 hs4' => ?_
  refine W.loopG (78 :: 79 :: 80 :: 18 :: 81 :: 82 :: 83 :: 19 :: 84 :: 85 :: 86 :: 87 :: 88 :: 89 :: 90 :: 91 :: 92 :: 93 :: 94 :: 95 :: 96 :: 97 :: 98 :: 99 :: 16 :: 100 :: 77 :: []) (fun gg s' V6 => ∃ (i : Nat) (sa : Option Addr) (sn sc : Nat) (so : List ByteArray), s' 77 = .int .i64 ((i : Nat) : Int) ∧ s' 16 = .slice sa sn sc ∧ gg = H.length - i ∧ i ≤ H.length ∧ Ext w5' V6 ∧ OwnL V6 w5'.heap.size 9 false 1 (.slice sa sn sc) (so.map strV) ∧ (so = (foldR o (H.take i)).1 ++ [(foldR o (H.take i)).2] ∨ (so = (foldR o (H.take i)).1 ∧ (foldR o (H.take i)).2.size = 0 ∧ i = H.length))) H.length ⟨0, some ⟨b69, 0, none⟩, 1, 1, [o], rfl, rfl, rfl, Nat.zero_le _, x69, hO69, .inl rfl⟩ ?_
  rintro _ sd5 V6 ⟨i, sa, sn, sc, so, h77, h16, rfl, hi, hE6, hOs, hso⟩
  refine W.fix h77 (W.fix (d := 16) h16 ?_)
  clear h77 h16
  have zE6 := hE6.size
  have hz := hOs.slice
  obtain ⟨_, _, esn⟩ := hz
  simp only [Value.slice.injEq, List.length_map] at esn
  obtain ⟨-, hsn', -⟩ := esn
  have hfl := foldR_len o (H.take i)
  have hti := List.length_take_le i H
  by_cases hiH : i < H.length
  rotate_left
  · have hz : i = H.length := by omega
    subst hz
    rw [List.take_length] at hso hfl
    have hff := filter_fold (fun r hr => hrs.put r (hHm r hr)) (hso.imp_right fun h => ⟨h.1, h.2.1⟩)
    have hsl : so.length ≤ H.length + 1 := by
      rcases hso with h | ⟨h, _⟩
      · rw [h, List.length_append]; simp only [List.length_cons, List.length_nil]; omega
      · rw [h]; omega
    (refine jjB ?_; refine jjC ?_; refine jja rfl rfl (by omega) ?_; refine jz ?_; refine jjB ?_; refine jjK rfl ?_; refine jjE ?_; refine jjC ?_; apply jI; exact eS rfl; apply jI; exact eS rfl)
    refine Ops.appendL (hOw.ext (hS5'.ext.trans hE6)) (by omega) hOs.row rfl rfl rfl rfl (all_strs _) ?_ ?_ ?_
    · simp only [List.length_map]; omega
    · simp only [List.length_map]; omega
    intro v2 V7 hA hO7 _ _
    rw [← List.map_append] at hO7
    have hz := hO7.slice3
    obtain ⟨a7, n7, c7, rfl⟩ := hz
    (apply jJ; exact eS rfl; refine jz ?_; refine jjC ?_; refine jY rfl rfl (by omega) ?_; apply jI; exact eI rfl; refine jz ?_)
    refine ⟨rfl, by ((refine Same.upd rfl ?_; refine Same.upd rfl ?_; refine Same.upd rfl ?_; refine Same.upd rfl ?_; refine Same.upd rfl ?_; refine Same.upd rfl ?_; refine Same.upd rfl ?_; refine Same.upd rfl ?_; refine Same.upd rfl ?_; refine Same.ovN' rfl ?_; assumption)), l.length + 1 - (q + 1), by omega, q + 1, a7, n7, c7, ws ++ so, congrArg (Value.int .i64) (by omega), rfl, rfl, by omega, hA.ext (x5.trans hE6) (Nat.le_refl _), hO7, ?_, ?_⟩
    · rw [List.filter_append, hwf, hff, range_snoc]
      congr 1
      unfold wrdS
      rw [hH, ho]
    · rw [List.length_append]; omega
  have hgi := List.getElem?_eq_getElem hiH
  have hso' : so = (foldR o (H.take i)).1 ++ [(foldR o (H.take i)).2] := by
    rcases hso with h | ⟨_, _, h⟩
    · exact h
    · omega
  have hrm := hHm _ (List.getElem_mem hiH)
  have hz := kindAt H[i].2.1 (hrs.kind _ hrm)
  obtain ⟨kj, fr, fm, hkd, hk4, hn1, hn2, hK, -, hmk⟩ := hz
  have hst : ((foldR o (H.take i)).1 ++ mkL H[i].2.1 (foldR o (H.take i)).2 H[i].2.2 = (foldR o (H.take (i + 1))).1 ++ [(foldR o (H.take (i + 1))).2]) ∨ ((foldR o (H.take i)).1 ++ mkL H[i].2.1 (foldR o (H.take i)).2 H[i].2.2 = (foldR o (H.take (i + 1))).1 ∧ (foldR o (H.take (i + 1))).2.size = 0 ∧ i + 1 = H.length) := step_some (o := o) hgi (by have := hrs.kind _ hrm; omega) (hrs.omit_ _ hrm) (hHlast i hiH)
  have hslen : sn = (foldR o (H.take i)).1.length + 1 := by rw [hsn', hso', List.length_append]; rfl
  have hz := hOs.self (by rw [List.length_map]; omega)
  obtain ⟨gs, rfl, hgs, _⟩ := hz
  have hz := hOs.cells
  obtain ⟨cds, hBs, hcl, hnc, hcm, hll', htk, hBg⟩ := hz
  have hcell : cds[sn - 1]? = some (strV (foldR o (H.take i)).2) := by
    have h2 : (cds.take sn)[sn - 1]? = some (strV (foldR o (H.take i)).2) := by
      rw [htk, List.getElem?_map, hso', List.getElem?_append_right (by omega), show sn - 1 - (foldR o (H.take i)).1.length = 0 by omega]; rfl
    rwa [List.getElem?_take, if_pos (by omega)] at h2
  have hlast : ((sn : Nat) : Int) - 1 = ((sn - 1 : Nat) : Int) := by omega
  have i6 : RowI V6 (.slice ha H.length hc) true 5 (H.map encRd) := ⟨hHR.ext ((hEV3.trans x5).trans hE6)⟩
  have hg6 : At V6 1 0 kindsC := hg.ext ((hE3.trans x5).trans hE6)
  (refine jjB ?_; refine jjC ?_; refine jjZ rfl rfl (by omega) ?_; refine jz ?_; refine jjB ?_; refine jjJ rfl ?_; refine jjG ?_; refine jjB ?_; refine jjD ?_; refine jjB ?_; refine jjC ?_; refine jF rfl rfl rfl (map_get (by omega)) ?_; intro _ _ _; refine jQ rfl rfl ?_)
  (apply jjR rfl; (intro _; first|exact eI rfl|exact eB rfl|exact eP rfl|exact eS rfl|exact eT rfl|exact eA rfl|exact eU rfl|exact eF rfl|exact eM rfl|exact eN rfl|exact rfl); exact rfl; exact rfl; exact rfl; exact rfl; intro b18 w_b18 hb_b18 hs_b18 hS_b18 hk_b18; have hA_b18 := Bk.of hk_b18)
  (refine jz ?_; refine jjB ?_; refine jjC ?_; apply jI; exact eS rfl; refine jh rfl ?_; refine jZ rfl rfl (by omega) ?_; apply jJ; exact eI rfl; refine jz ?_)
  refine W.draw (fun w' => Ext w5' w' ∧ At w' b18 0 [.int .i64 H[i].1.1, .int .i64 H[i].1.2.1, .int .i64 H[i].1.2.2, .int .u8 H[i].2.1, .string H[i].2.2]) ?_
  intro w1 hS1
  have y1 : Ext V6 w1 := hS_b18.ext.trans hS1.ext
  have hb18 : At w_b18 b18 0 [.int .i64 H[i].1.1, .int .i64 H[i].1.2.1, .int .i64 H[i].1.2.2, .int .u8 H[i].2.1, .string H[i].2.2] := Bk.toAt (h := hA_b18)
  have s1 := And.intro (hE6.trans y1) (hb18.ext hS1.ext)
  (refine jjV [0, 1] ?_ ?_ ?_; (decide +kernel); (exact s1); (((apply jjT; exact rfl; rintro w' ⟨q0, q1⟩; apply jI; exact eS rfl; refine jz ?_; exact ⟨rfl, rfl⟩; apply jjT; exact rfl; rintro w' ⟨q0, q1⟩; apply jI; exact eI rfl; refine jz ?_; exact ⟨rfl, rfl⟩; refine jjU ?_))))
  refine jjV [2] (by decide +kernel) s1 (jjT (v := .slice (some ⟨gs, 0, none⟩) (sn - 1) sc) rfl (fun w' q1 => ?_) (jjU ?_)); (refine Ops.sliceXHv (hi := sn - 1) rfl rfl hlast (by omega) (by omega) ?_; refine jz ?_; exact ⟨rfl, rfl⟩)
  (refine jjV [3, 4] ?_ ?_ ?_; (decide +kernel); (exact s1); (((apply jjT; exact rfl; rintro w' ⟨q0, q1⟩; refine jm ?_; refine jn rfl ?_; refine jz ?_; exact ⟨rfl, rfl⟩; apply jjT; exact rfl; rintro w' ⟨q0, q1⟩; refine jN rfl rfl rfl ?_; refine jz ?_; exact ⟨rfl, rfl⟩; refine jjU ?_))))
  refine jjV [5] (by decide +kernel) s1 (jjT (v := .pointer (some ⟨1, 0 + kj * 3, none⟩)) rfl (fun w' q1 => ?_) (jjU ?_)); (refine Ops.indexAP (j := kj) rfl rfl hkd (by simpa using hk4) ?_; refine jz ?_; exact ⟨rfl, rfl⟩)
  (refine jjV [6, 7] ?_ ?_ ?_; (decide +kernel); (exact s1); (((apply jjT; exact rfl; rintro w' ⟨q0, q1⟩; have := hK w' (hg.ext ((hE3.trans x5).trans q0)); refine jm ?_; refine jn rfl ?_; refine jz ?_; exact ⟨rfl, rfl⟩; apply jjT; exact rfl; rintro w' ⟨q0, q1⟩; have := hK w' (hg.ext ((hE3.trans x5).trans q0)); refine jP rfl rfl rfl ?_; refine jz ?_; exact ⟨rfl, rfl⟩; refine jjU ?_))))
  (refine jjV [8, 9, 10, 12, 13] ?_ ?_ ?_; (decide +kernel); (exact s1); (((apply jjT; exact rfl; rintro w' ⟨q0, q1⟩; apply jI; exact eS rfl; refine jz ?_; exact ⟨rfl, rfl⟩; apply jjT; exact rfl; rintro w' ⟨q0, q1⟩; apply jI; exact eI rfl; refine jz ?_; exact ⟨rfl, rfl⟩; apply jjT; exact rfl; rintro w' ⟨q0, q1⟩; refine jG rfl rfl (by assumption) (by omega) ?_; refine jz ?_; exact ⟨rfl, rfl⟩; apply jjT; exact rfl; rintro w' ⟨q0, q1⟩; refine jm ?_; refine jn rfl ?_; refine jz ?_; exact ⟨rfl, rfl⟩; apply jjT; exact rfl; rintro w' ⟨q0, q1⟩; refine jN rfl rfl rfl ?_; refine jz ?_; exact ⟨rfl, rfl⟩; refine jjU ?_))))
  (apply jjW 11; (decide +kernel); exact rfl; (exact s1))
  refine jR ((hBs.ext y1).cellO (o := 0 + (sn - 1)) (by rw [Nat.zero_add]; exact hcell)) rfl rfl ?_
  refine jz ?_
  (apply jjW 14; (decide +kernel); exact rfl; (exact s1))
  refine jjQ (hmk (foldR o (H.take i)).2 H[i].2.2 _) rfl rfl ?_
  intro vm w14 hS14 hOm
  refine jz ?_
  have y14 := y1.trans hS14.ext
  have z14 := y14.size
  have s14 := And.intro (hE6.trans y14) ((hb18.ext hS1.ext).ext hS14.ext)
  have hcut := (hOs.ext y14).cut (m := sn - 1) (by rw [List.length_map]; omega) (by omega)
  have hct : (so.map strV).take (sn - 1) = ((foldR o (H.take i)).1).map strV := by
    rw [← List.map_take, hso', List.take_append_of_le_length (by omega), List.take_of_length_le (by omega)]
  rw [hct] at hcut
  have hz := hOm.slice
  obtain ⟨am, cm', hvm⟩ := hz
  rw [List.length_map] at hvm
  subst hvm
  (apply jjW 15; (decide +kernel); exact rfl; (exact s14))
  have hmkl : (mkL H[i].2.1 (foldR o (H.take i)).2 H[i].2.2).length ≤ 2 := by unfold mkL; split; simp; split <;> simp
  refine Ops.appendL hcut (by omega) hOm.row rfl rfl rfl rfl (all_strs _) ?_ ?_ ?_
  · simp only [List.length_map]; omega
  · simp only [List.length_map]; omega
  intro v2 w15 hA15 hO15 _ _
  refine jz ?_
  rw [← List.map_append] at hO15
  have hz := hO15.slice3
  obtain ⟨a7, n7, c7, rfl⟩ := hz
  have x15 : Ext w5' w15 := hA15.ext (hE6.trans y14) (Nat.le_refl _)
  have hlt18 := hA_b18.lt
  have aa15 := (hA15.at_ ((hb18.ext hS1.ext).ext hS14.ext) (fun e => by
    simp only [Value.ownBlock, Option.some.injEq] at e
    have := hBs.lt
    omega))
  have s15 := And.intro x15 aa15
  (refine jjV [16] ?_ ?_ ?_; (decide +kernel); (exact s15); (((apply jjT; exact rfl; rintro w' ⟨q0, q1⟩; apply jJ; exact eS rfl; refine jz ?_; exact ⟨rfl, rfl⟩; refine jjU ?_))))
  refine jjX (by decide +kernel) s15 ?_
  (refine jjC ?_; refine jY rfl rfl (by omega) ?_; apply jI; exact eI rfl; refine jz ?_)
  exact ⟨rfl, by ((refine Same.upd rfl ?_; refine Same.upd rfl ?_; refine Same.upd rfl ?_; refine Same.upd rfl ?_; refine Same.upd rfl ?_; refine Same.upd rfl ?_; refine Same.upd rfl ?_; refine Same.upd rfl ?_; refine Same.upd rfl ?_; refine Same.upd rfl ?_; refine Same.upd rfl ?_; refine Same.upd rfl ?_; refine Same.upd rfl ?_; refine Same.upd rfl ?_; refine Same.upd rfl ?_; refine Same.upd rfl ?_; refine Same.upd rfl ?_; refine Same.upd rfl ?_; refine Same.upd rfl ?_; refine Same.upd rfl ?_; refine Same.upd rfl ?_; refine Same.upd rfl ?_; refine Same.upd rfl ?_; refine Same.upd rfl ?_; refine Same.upd rfl ?_; refine Same.upd rfl ?_; refine Same.upd rfl ?_; refine Same.upd rfl ?_; refine Same.upd rfl ?_; exact Same.ovN)), H.length - (i + 1), by omega, i + 1, a7, n7, c7, (foldR o (H.take i)).1 ++ mkL H[i].2.1 (foldR o (H.take i)).2 H[i].2.2, congrArg (Value.int .i64) (by omega), rfl, rfl, by omega, x15, hO15, hst⟩
end Go.Proofs.YtpbkphaceljclaaGreatDoor

/- leaf: copies that are right. -/
namespace Go.Proofs.YtpbkphaceljclaaGreatDoor
open Go.RowKit

/-- How one reading stands to the next one. -/
theorem next_cases (x y : Rd) : (cmpP x.1 y.1 = 1 ∧ nextB x y = false) ∨ (cmpP x.1 y.1 = 0 ∧ x.2.1 ≠ 2 ∧ nextB x y = false) ∨ (cmpP x.1 y.1 = 0 ∧ x.2.1 = 2 ∧ nextB x y = true) ∨ (cmpP x.1 y.1 = -1 ∧ nextB x y = true) := by
  rcases befP_tri x.1 y.1 with h | h | h
  · have h2 : befP y.1 x.1 = false := by
      cases hb : befP y.1 x.1 with
      | false => rfl
      | true => have := befP_trans h hb; rw [befP_irr] at this; cases this
    have h3 : ¬ y.1 = x.1 := fun e => by rw [e, befP_irr] at h; cases h
    exact .inr (.inr (.inr ⟨cmpP_lt h, by simp [nextB, h2, h3]⟩))
  · have h2 : cmpP x.1 y.1 = 0 := by rw [h]; exact cmpP_self _
    by_cases h3 : x.2.1 = 2
    · exact .inr (.inr (.inl ⟨h2, h3, by simp [nextB, h, h3, befP_irr]⟩))
    · exact .inr (.inl ⟨h2, h3, by simp [nextB, h, h3]⟩)
  · have h2 : befP x.1 y.1 = false := by
      cases hb : befP x.1 y.1 with
      | false => rfl
      | true => have := befP_trans h hb; rw [befP_irr] at this; cases this
    have h3 : x.1 ≠ y.1 := fun e => by rw [e, befP_irr] at h; cases h
    exact .inl ⟨cmpP_gt h2 h3, by simp [nextB, h]⟩
theorem fitR_eq {l : List ByteArray} {q kd : Int} {s : ByteArray} (h : 1 ≤ kd ∧ kd ≤ 3) : fitR l q kd s = (inB 0 ((l.length : Int) - 1 + behN kd) q && rgtB kd (l.getD q.toNat ⟨#[]⟩) s) := by
  have hsd : kd = 1 ∨ kd = 2 ∨ kd = 3 := by omega
  rcases hsd with rfl | rfl | rfl
  · simp [fitR, rgtB, behN]
  · simp [fitR, rgtB, behN]
  · simp [fitR, rgtB, behN]
theorem fitR_no {l : List ByteArray} {q kd : Int} {s : ByteArray} (h : ¬ (1 ≤ kd ∧ kd ≤ 3)) : fitR l q kd s = false := by
  rw [fitR, if_neg (by omega), if_neg (by omega), if_neg (by omega)]
/-- Readings as they come from outside. -/
structure SmallR (rs : List Rd) : Prop where
  len : rs.length ≤ 1000
  word : ∀ r ∈ rs, r.2.2.size ≤ 1000
  byte : ∀ r ∈ rs, 0 ≤ r.2.1 ∧ r.2.1 ≤ 255
theorem fitR_kind {l : List ByteArray} {q kd : Int} {s : ByteArray} (h : fitR l q kd s = true) : (1 ≤ kd ∧ kd ≤ 3) ∧ (kd = 1 → s.size = 0) ∧ (kd = 2 → s.size ≠ 0) := by
  by_cases hk : 1 ≤ kd ∧ kd ≤ 3
  · refine ⟨hk, fun e => ?_, fun e => ?_⟩
    · subst e
      simp [fitR] at h
      rw [h.2]; rfl
    · subst e
      simp [fitR, wordB] at h
      omega
  · rw [fitR_no hk] at h; cases h
theorem readB_kind {t : Tx} {r : Rd} (h : readB t r = true) : (1 ≤ r.2.1 ∧ r.2.1 ≤ 3) ∧ (r.2.1 = 1 → r.2.2.size = 0) ∧ (r.2.1 = 2 → r.2.2.size ≠ 0) := by
  unfold readB at h
  split at h
  · cases h
  · exact fitR_kind h
theorem good_of {t : Tx} {rs : List Rd} (hl : rs.length ≤ 20) (h1 : ∀ (j : Nat) (hj : j < rs.length), readB t rs[j] = true) (h2 : ∀ (j : Nat) (hj : j + 1 < rs.length), nextB rs[j] rs[j + 1] = true) : GoodR rs := by
  have h3 : ∀ r ∈ rs, readB t r = true := fun r hr => by
    obtain ⟨j, hj, rfl⟩ := List.mem_iff_getElem.1 hr
    exact h1 j hj
  exact ⟨by omega, nextsB_yes h2, fun r hr => (readB_kind (h3 r hr)).1, fun r hr => (readB_kind (h3 r hr)).2.1, fun r hr => (readB_kind (h3 r hr)).2.2⟩
theorem copyB_id {t : Tx} {id : Int} {rs : List Rd} (h : inB 0 9999 id = false) : copyB t id rs = false := by simp [copyB, h]
theorem copyB_len {t : Tx} {id : Int} {rs : List Rd} (h : ¬ rs.length ≤ 20) : copyB t id rs = false := by simp [copyB, h]
theorem copyB_read {t : Tx} {id : Int} {rs : List Rd} {j : Nat} (hj : j < rs.length) (h : readB t rs[j] = false) : copyB t id rs = false := by
  have : rs.all (readB t) = false := all_no hj h
  simp only [copyB, this, Bool.false_and, Bool.and_false]
theorem copyB_next {t : Tx} {id : Int} {rs : List Rd} {j : Nat} (hj : j + 1 < rs.length) (h : nextB rs[j] rs[j + 1] = false) : copyB t id rs = false := by
  have : nextsB rs = false := nextsB_no j hj h
  simp only [copyB, this, Bool.false_and, Bool.and_false]
theorem copyB_yes {t : Tx} {id : Int} {rs : List Rd} (h0 : inB 0 9999 id = true) (hl : rs.length ≤ 20) (h1 : ∀ (j : Nat) (hj : j < rs.length), readB t rs[j] = true) (h2 : ∀ (j : Nat) (hj : j + 1 < rs.length), nextB rs[j] rs[j + 1] = true) : copyB t id rs = lensB (readT t rs) := by
  have e1 : rs.all (readB t) = true := all_yes h1
  have e2 : nextsB rs = true := nextsB_yes h2
  simp only [copyB, h0, e1, e2, decide_eq_true hl, Bool.and_true, Bool.true_and]
theorem lensB_no {t : Tx} {k : Nat} (hk : k < t.length) (h : t[k].2.any (fun l => !inB 1 10 (l.length : Int)) = true) : lensB t = false := by
  refine all_no hk ?_
  rw [any_not] at h
  simpa using h
theorem lensB_yes {t : Tx} (h : ∀ (k : Nat) (hk : k < t.length), t[k].2.any (fun l => !inB 1 10 (l.length : Int)) = false) : lensB t = true := by
  refine all_yes fun k hk => ?_
  have := h k hk
  rw [any_not] at this
  simpa using this
theorem text_line {t : Tx} {p : Pl} {l : List ByteArray} (h : textB t = true) (hl : lineT t p = some l) : 1 ≤ l.length ∧ l.length ≤ 10 := by
  unfold lineT at hl
  split at hl
  · obtain ⟨x, hx, hxy⟩ := Option.bind_eq_some_iff.1 hl
    simp only [textB, Bool.and_eq_true] at h
    have h1 := List.all_eq_true.1 h.1.2 x (List.mem_of_getElem? hx)
    simp only [chapB, Bool.and_eq_true] at h1
    have h2 := List.all_eq_true.1 h1.2 l (List.mem_of_getElem? hxy)
    simp [lineB, inB] at h2
    omega
  · cases hl
theorem right1_leaf (y : Ln) (w : World) : Ct Tryz.prog 147 [encLn y] w fun v _ => v = .bool (!inB 1 10 (y.2.2.length : Int)) := by
  obtain ⟨B, hB⟩ : ∃ B, inB 1 10 (y.2.2.length : Int) = B := ⟨_, rfl⟩
  refine Ct.ofW (by simp) ?_
  (refine jjB ?_; refine jjC ?_; apply jJ; exact eB rfl; refine jz ?_; refine jjB ?_; refine jjC ?_; apply jI; exact eS rfl; refine jh rfl ?_)
  (refine jjP (v := .int _ _) rfl (by exact rfl) (by exact rfl) (by exact rfl) (by exact rfl) ?_; intro b5 w_b5 hb_b5 hs_b5 hS_b5 hk_b5; have hR_b5 := RowV.one (agg := false) (k := 1) rfl hk_b5)
  skip
  refine jjQ (inOne_leaf 1 10 (y.2.2.length : Int) b5 B _ hB hR_b5) rfl rfl ?_
  rintro _ w2 hS2 rfl
  (refine js rfl ?_; apply jJ; exact eB rfl; refine jz ?_; refine jjF ?_; refine jB rfl rfl ⟨inferInstance, ?_⟩)
  rw [hB]; exact rfl
theorem any_map' {α β : Type} (f : α → β) (p : β → Bool) (l : List α) : (l.map f).any p = l.any (fun x => p (f x)) := by rw [List.any_map]; rfl

set_option maxHeartbeats 16000000 in
theorem right_leaf (a : Option Addr) (c : Nat) (cs : List Ch) (w : World) [hrow : RowI w (.slice a cs.length c) true 2 (cs.map encCh)] [hT : TextI w cs] [hg : At w 1 0 kindsC] (bb : Nat) (id : Int) (ra : Option Addr) (rc : Nat) (rs : List Rd) (hs : SmallT cs) (hrs : SmallR rs) (ht : textB (txF cs) = true)
    [hb : At w bb 0 [.slice a cs.length c]] [hrd : RowI w (.slice ra rs.length rc) true 5 (rs.map encRd)] :
    Ct Tryz.prog 131 [.pointer (some ⟨bb, 0, none⟩), .agg #[.int .i64 id, .slice ra rs.length rc]] w fun v _ => v = .bool (copyB (txF cs) id rs) := by
  have hs1 := hs.1
  have hrl := hrs.len
  refine Ct.ofW (by simp) ?_
  (refine jjB ?_; refine jjC ?_)
  (refine jy rfl ?_; intro b3 w_b3 hb_b3 hs_b3 hS_b3 hk_b3; have hA_b3 := At.ofBlock hk_b3)
  (apply jJ; exact eB rfl; refine jz ?_; refine jjB ?_; refine jjB ?_; refine jjC ?_; refine jm ?_; refine jn rfl ?_; refine jN rfl rfl rfl ?_)
  (refine jjP (v := .int _ _) rfl (by exact rfl) (by exact rfl) (by exact rfl) (by exact rfl) ?_; intro b15 w_b15 hb_b15 hs_b15 hS_b15 hk_b15; have hR_b15 := RowV.one (agg := false) (k := 1) rfl hk_b15)
  obtain ⟨B1, h1⟩ : ∃ B, inB 0 9999 id = B := ⟨_, rfl⟩
  skip
  refine jjQ (inOne_leaf 0 9999 id b15 B1 _ h1 hR_b15) rfl rfl ?_
  rintro _ w2 hS2 rfl
  cases B1
  · (refine jq rfl ?_; apply jI; exact eB rfl; refine jU rfl rfl rfl rfl ?_; refine jU rfl rfl rfl rfl ?_; refine jU rfl rfl rfl rfl ?_; refine jU rfl rfl rfl rfl ?_; apply jK rfl; exact eB rfl; refine jz ?_; refine jjJ rfl ?_; refine jjB ?_; refine jjC ?_; apply jJ; exact eB rfl; refine jz ?_; refine jjF ?_; refine jB rfl rfl ⟨inferInstance, ?_⟩)
    rw [copyB_id h1]; exact rfl
  by_cases h20 : rs.length ≤ 20
  rotate_left
  · (refine jp rfl ?_; apply jI; exact eB rfl; refine jT rfl rfl rfl ?_; refine jm ?_; refine jn rfl ?_; refine jT rfl rfl rfl ?_; refine jN rfl rfl rfl ?_; refine jT rfl rfl rfl ?_; refine jh rfl ?_; refine jT rfl rfl rfl ?_; refine jjd rfl rfl (by omega) ?_; apply jL rfl; exact eB rfl; refine jz ?_; refine jjJ rfl ?_; refine jjB ?_; refine jjC ?_; apply jJ; exact eB rfl; refine jz ?_; refine jjF ?_; refine jB rfl rfl ⟨inferInstance, ?_⟩)
    rw [copyB_len h20]; exact rfl
  (refine jp rfl ?_; apply jI; exact eB rfl; refine jT rfl rfl rfl ?_; refine jm ?_; refine jn rfl ?_; refine jT rfl rfl rfl ?_; refine jN rfl rfl rfl ?_; refine jT rfl rfl rfl ?_; refine jh rfl ?_; refine jT rfl rfl rfl ?_; refine jje rfl rfl (by omega) ?_; apply jL rfl; exact eB rfl; refine jz ?_; refine jjK rfl ?_; refine jjG ?_; refine jjB ?_; refine jjB ?_; refine jjC ?_; refine jm ?_; refine jn rfl ?_; refine jN rfl rfl rfl ?_; refine jh rfl ?_; apply jI; exact eI rfl; refine jz ?_; refine jjD ?_)
  have hE2 : Ext w w2 := inferInstance
  refine W.keep0 [(0, .pointer (some ⟨bb, 0, none⟩)), (3, .pointer (some ⟨b3, 0, none⟩)), (25, .slice ra rs.length rc), (26, .int .i64 ((rs.length : Nat) : Int)), (27, .int .i64 ((0 : Nat) : Int))] ⟨eP rfl, eP rfl, eS rfl, eI rfl, eI rfl, trivial⟩ fun s0 => ?_
  have hb32 : At w2 b3 0 [.int .i64 id, .slice ra rs.length rc] := inferInstance
  refine W.loop (28 :: 29 :: 30 :: 31 :: 6 :: 5 :: 32 :: 33 :: 34 :: 35 :: 7 :: 36 :: 37 :: 38 :: 39 :: 40 :: 41 :: 42 :: 43 :: 44 :: 45 :: 46 :: 4 :: 47 :: 48 :: 49 :: 50 :: 8 :: 51 :: 52 :: 53 :: 54 :: 55 :: 56 :: 57 :: 58 :: 59 :: 60 :: 61 :: 62 :: 63 :: 64 :: 65 :: 66 :: 67 :: 68 :: 69 :: 70 :: 71 :: 72 :: 73 :: 74 :: 75 :: 76 :: 77 :: 78 :: 79 :: 80 :: 81 :: 82 :: 83 :: 9 :: 84 :: 85 :: 86 :: 87 :: 88 :: 10 :: 89 :: 90 :: 91 :: 92 :: 93 :: 94 :: 95 :: 96 :: 97 :: 98 :: 99 :: 100 :: 27 :: []) (fun gg s' V => ∃ (i : Nat), s' 27 = .int .i64 ((i : Nat) : Int) ∧ gg = rs.length - i ∧ i ≤ rs.length ∧ (∀ (q : Nat) (hq : q < rs.length), q < i → readB (txF cs) rs[q] = true) ∧ ∀ (q : Nat) (hq : q + 1 < rs.length), q + 1 < i → nextB rs[q] rs[q + 1] = true) rs.length ⟨0, rfl, rfl, Nat.zero_le _, by intros; omega, by intros; omega⟩ ?_
  rintro _ sd V hSV ⟨i, h27, rfl, hi, hpre, hnx⟩
  refine W.fix h27 ?_
  clear h27
  have hEV : Ext w V := hE2.trans hSV.ext
  have i7 : At V 1 0 kindsC := hg.ext hEV
  by_cases hir : i < rs.length
  rotate_left
  · have hgood : GoodR rs := good_of h20 (fun q hq => hpre q hq (by omega)) (fun q hq => hnx q hq (by omega))
    have hyes := copyB_yes h1 h20 (fun q hq => hpre q hq (by omega)) (fun q hq => hnx q hq (by omega)) (t := txF cs)
    (refine jjB ?_; refine jjC ?_; refine jja rfl rfl (by omega) ?_; refine jz ?_; refine jjB ?_; refine jjK rfl ?_; refine jjE ?_; refine jjB ?_; refine jjB ?_; refine jjC ?_; apply jI; exact eP rfl; refine jO rfl rfl rfl rfl ?_)
    refine jjQ (read_leaf a c cs _ bb id ra rc rs hs hgood) rfl rfl ?_
    rintro _ w5 hS5 ⟨a', c', ds, rfl, htx, hO⟩
    have hdl : ds.length = (readT (txF cs) rs).length := by rw [← htx, txF_len]
    have hdl2 : ds.length ≤ 1000 := by rw [hdl, readT, List.length_mapIdx, txF_len]; omega
    have e0 : (ds.map encCh).length = ds.length := List.length_map _
    rw [e0] at hO
    skip
    refine Ops.field rfl rfl ?_
    (refine jh rfl ?_; apply jI; exact eI rfl; refine jz ?_; refine jjD ?_)
    refine W.keep0 [(104, .slice a' ds.length c'), (105, .int .i64 ((ds.length : Nat) : Int)), (106, .int .i64 ((0 : Nat) : Int))] ⟨(by rw [← e0]; exact rfl), (by rw [← e0]; exact rfl), eI rfl, trivial⟩ fun s1 => ?_
    refine W.loop (107 :: 108 :: 109 :: 12 :: 110 :: 111 :: 112 :: 4 :: 113 :: 106 :: []) (fun gg s' V => ∃ (k : Nat), s' 106 = .int .i64 ((k : Nat) : Int) ∧ gg = ds.length - k ∧ k ≤ ds.length ∧ (∀ (q : Nat) (hq : q < ds.length), q < k → (txC ds[q]).2.any (fun l => !inB 1 10 (l.length : Int)) = false)) ds.length ⟨0, rfl, rfl, Nat.zero_le _, by intros; omega⟩ ?_
    rintro _ sd2 V2 hSV2 ⟨k, h106, rfl, hk, hpre2⟩
    refine W.fix h106 ?_
    clear h106
    have hEw : Ext w V2 := (hEV.trans hS5.ext).trans hSV2.ext
    have hst : Step w V2 := hEw.toStep
    by_cases hkd : k < ds.length
    rotate_left
    · have hl : lensB (readT (txF cs) rs) = true := by
        rw [← htx]
        refine lensB_yes fun q hq => ?_
        rw [txF_len] at hq
        have := hpre2 q hq (by omega)
        simpa [txF] using this
      (refine jjB ?_; refine jjC ?_; refine jja rfl rfl (by omega) ?_; refine jz ?_; refine jjB ?_; refine jjK rfl ?_; refine jjE ?_; refine jjB ?_; refine jjC ?_; apply jJ; exact eB rfl; refine jz ?_; refine jjF ?_; refine jB rfl rfl ⟨inferInstance, ?_⟩)
      rw [hyes, hl]; exact rfl
    have hOx := hO.ins _ (List.getElem_mem hkd)
    have hOout := hO.out.ext hSV2.ext
    have i2 : RowI V2 (.slice a' ds.length c') true 2 (ds.map encCh) := ⟨hOout.row⟩
    (refine jjB ?_; refine jjC ?_; refine jjZ rfl rfl (by omega) ?_; refine jz ?_; refine jjB ?_; refine jjJ rfl ?_; refine jjG ?_; refine jjB ?_; refine jjD ?_; refine jjB ?_; refine jjC ?_; refine jF rfl rfl rfl (map_get (by omega)) ?_; intro _ _ _; refine jQ rfl rfl ?_)
    (apply jjR rfl; (intro _; first|exact eI rfl|exact eB rfl|exact eP rfl|exact eS rfl|exact eT rfl|exact eA rfl|exact eU rfl|exact eF rfl|exact eM rfl|exact eN rfl|exact rfl); exact rfl; exact rfl; exact rfl; exact rfl; intro b12 w_b12 hb_b12 hs_b12 hS_b12 hk_b12; have hA_b12 := Bk.of hk_b12)
    (refine jz ?_; refine jjB ?_; refine jjC ?_; refine jm ?_; refine jn rfl ?_; refine jN rfl rfl rfl ?_)
    obtain ⟨P, hP⟩ : ∃ P, (txC ds[k]).2.any (fun l => !inB 1 10 (l.length : Int)) = P := ⟨_, rfl⟩
    have hP' : ds[k].2.2.2.any (fun y => !inB 1 10 (y.2.2.length : Int)) = P := by rw [← hP, any_map']
    refine jjQ ((ContainsFunc_Slstring _ _ (.func (.func 147) #[] #[]) encLn ds[k].2.2.2 (fun y => !inB 1 10 (y.2.2.length : Int)) ((hOx.out.ext hSV2.ext).ext hS_b12.ext).row ⟨_, [], rfl, inferInstance, fun w' y _ _ => right1_leaf y w'⟩).mono fun v _ _ h => h.trans (by rw [hP'])) rfl rfl ?_
    rintro _ w6 hS6 rfl
    cases P
    · (refine jz ?_; refine jjK rfl ?_; refine jjG ?_; refine jjC ?_; refine jY rfl rfl (by omega) ?_; apply jI; exact eI rfl; refine jz ?_)
      refine ⟨rfl, by ((refine Same.upd rfl ?_; refine Same.upd rfl ?_; refine Same.upd rfl ?_; refine Same.upd rfl ?_; refine Same.upd rfl ?_; refine Same.upd rfl ?_; refine Same.upd rfl ?_; refine Same.upd rfl ?_; refine Same.upd rfl ?_; refine Same.upd rfl ?_; exact Same.ovN)), ds.length - (k + 1), by omega, inferInstance, k + 1, congrArg (Value.int .i64) (by omega), rfl, by omega, fun q hq hqk => ?_⟩
      by_cases e : q = k
      · subst e; exact hP
      · exact hpre2 q hq (by omega)
    · have hl : lensB (readT (txF cs) rs) = false := by
        rw [← htx]
        refine lensB_no (k := k) (by rw [txF_len]; exact hkd) ?_
        simpa [txF] using hP
      (refine jz ?_; refine jjJ rfl ?_; refine jjB ?_; refine jjC ?_; apply jJ; exact eB rfl; refine jz ?_; refine jjF ?_; refine jB rfl rfl ⟨inferInstance, ?_⟩)
      rw [hyes, hl]; exact rfl
  have hrm := List.getElem_mem hir
  have hby := hrs.byte _ hrm
  have hwd := hrs.word _ hrm
  (refine jjB ?_; refine jjC ?_; refine jjZ rfl rfl (by omega) ?_; refine jz ?_; refine jjB ?_; refine jjJ rfl ?_; refine jjG ?_; refine jjB ?_; refine jjD ?_; refine jjB ?_; refine jjC ?_; apply jI; exact eI rfl; refine jF rfl rfl rfl (map_get (by omega)) ?_; intro _ _ _; refine jQ rfl rfl ?_)
  ((skip); refine jjY ?_; intro b6 w_b6 hb_b6 hs_b6 hS_b6 hk_b6; have hA_b6 := Bk.of hk_b6)
  (apply jJ; exact eI rfl)
  refine Ops.store rfl rfl rfl rfl rfl ?_
  intro w6 hp6
  have e6 : Ext V w6 := hp6.ext hS_b6.ext (by omega)
  have s6 : Step V w6 := e6.toStep
  have hB6 : Bk w6 b6 [.int .i64 rs[i].1.1, .int .i64 rs[i].1.2.1, .int .i64 rs[i].1.2.2, .int .u8 rs[i].2.1, .string rs[i].2.2] 145 := ⟨hp6.new⟩
  have hA6 : At w6 b6 0 [.int .i64 rs[i].1.1, .int .i64 rs[i].1.2.1, .int .i64 rs[i].1.2.2, .int .u8 rs[i].2.1, .string rs[i].2.2] := Bk.toAt (h := hB6)
  (refine jz ?_; refine jjB ?_; refine jjC ?_; apply jI; exact eP rfl; refine jm ?_; refine jn rfl ?_; refine jO rfl rfl rfl rfl ?_)
  have hz : ∃ o, lineC cs rs[i].1 = o := ⟨_, rfl⟩
  obtain ⟨o, ho⟩ := hz
  refine jjQ ((line_leaf a c cs _ bb rs[i].1 hs).mono fun v _ _ h => h.trans (by rw [ho])) rfl rfl ?_
  rintro _ w7 hS7 rfl
  cases o with
  | none =>
    have hno : readB (txF cs) rs[i] = false := by rw [readB, lineC_T, ho]; rfl
    (apply jJ; exact eS rfl; refine jz ?_; refine jjB ?_; refine jjB ?_; refine jjC ?_; apply jI; exact eS rfl; refine jh rfl ?_; refine jjh rfl rfl (by omega) ?_; apply jI; exact eB rfl; refine jU rfl rfl rfl rfl ?_; refine jU rfl rfl rfl rfl ?_; refine jU rfl rfl rfl rfl ?_; refine jU rfl rfl rfl rfl ?_; refine jU rfl rfl rfl rfl ?_; refine jU rfl rfl rfl rfl ?_; apply jK rfl; exact eB rfl; refine jz ?_; refine jjJ rfl ?_; refine jjB ?_; refine jjC ?_; apply jJ; exact eB rfl; refine jz ?_; refine jjF ?_; refine jB rfl rfl ⟨inferInstance, ?_⟩)
    rw [copyB_read hir hno]; exact rfl
  | some y =>
  have hln : lineT (txF cs) rs[i].1 = some y.2.2 := by rw [lineC_T, ho]; rfl
  have hyl := text_line ht hln
  have hrb : readB (txF cs) rs[i] = fitR y.2.2 rs[i].1.2.2 rs[i].2.1 rs[i].2.2 := by rw [readB, hln]
  have hyrow : RowV V false 1 (.slice y.1 y.2.2.length y.2.1) (y.2.2.map strV) := by
    have hz := lineC_mem ho
    obtain ⟨x, hx, hy⟩ := hz
    exact (hT.words x hx y hy).ext hEV
  (apply jJ; exact eS rfl; refine jz ?_; refine jjB ?_; refine jjB ?_; refine jjC ?_; apply jI; exact eS rfl; refine jh rfl ?_; refine jji rfl rfl (by omega) ?_; apply jI; exact eB rfl; refine jT rfl rfl rfl ?_; refine jm ?_; refine jn rfl ?_; refine jT rfl rfl rfl ?_; refine jN rfl rfl rfl ?_; refine jT rfl rfl rfl ?_)
  refine Ops.convI rfl rfl (wrapi (by omega) (by omega)) ?_
  (refine jT rfl rfl rfl ?_)
  (refine jjP (v := .int _ _) rfl (by exact rfl) (by exact rfl) (by exact rfl) (by exact rfl) ?_; intro b43 w_b43 hb_b43 hs_b43 hS_b43 hk_b43; have hR_b43 := RowV.one (agg := false) (k := 1) rfl hk_b43)
  have hz : ∃ B, inB 1 3 rs[i].2.1 = B := ⟨_, rfl⟩
  obtain ⟨B2, h2⟩ := hz
  (refine jT rfl rfl rfl ?_)
  refine jjQ (inOne_leaf 1 3 rs[i].2.1 b43 B2 _ h2 hR_b43) rfl rfl ?_
  rintro _ w8 hS8 rfl
  cases B2
  · have hno : readB (txF cs) rs[i] = false := by rw [hrb]; exact fitR_no (by simp [inB] at h2; omega)
    (refine jT rfl rfl rfl ?_; refine jq rfl ?_; apply jL rfl; exact eB rfl; refine jz ?_; refine jjJ rfl ?_; refine jjB ?_; refine jjC ?_; apply jJ; exact eB rfl; refine jz ?_; refine jjF ?_; refine jB rfl rfl ⟨inferInstance, ?_⟩)
    rw [copyB_read hir hno]; exact rfl
  have hk13 : 1 ≤ rs[i].2.1 ∧ rs[i].2.1 ≤ 3 := by simpa [inB] using h2
  have hz := kindAt rs[i].2.1 hk13
  obtain ⟨kj, fr, fm, hkd, hk4, hn1, hn2, hK, hrgt, -⟩ := hz
  rw [fitR_eq hk13] at hrb
  have hbeh : 0 ≤ behN rs[i].2.1 ∧ behN rs[i].2.1 ≤ 1 := by unfold behN; split <;> omega
  (refine jT rfl rfl rfl ?_; refine jp rfl ?_; apply jL rfl; exact eB rfl; refine jz ?_; refine jjK rfl ?_; refine jjG ?_; refine jjB ?_; refine jjC ?_; refine jm ?_; refine jn rfl ?_; refine jN rfl rfl rfl ?_)
  refine Ops.indexAP (j := kj) rfl rfl hkd (by simpa using hk4) ?_
  refine Ops.loadA (hK _ inferInstance) rfl rfl rfl ?_
  (apply jjR rfl; (intro _; first|exact eI rfl|exact eB rfl|exact eP rfl|exact eS rfl|exact eT rfl|exact eA rfl|exact eU rfl|exact eF rfl|exact eM rfl|exact eN rfl|exact rfl); exact rfl; exact rfl; exact rfl; exact rfl; intro b8 w_b8 hb_b8 hs_b8 hS_b8 hk_b8; have hA_b8 := Bk.of hk_b8)
  (refine jz ?_; refine jjB ?_; refine jjB ?_)
  have hA8 : At w_b8 b8 0 [.int .i64 (behN rs[i].2.1), .func (.func fr) #[] ([] : List Value).toArray, .func (.func fm) #[] ([] : List Value).toArray] := Bk.toAt (h := hA_b8)
  have hE8 : Ext V w_b8 := inferInstance
  have hz : ∃ B, inB 0 ((y.2.2.length : Int) - 1 + behN rs[i].2.1) rs[i].1.2.2 = B := ⟨_, rfl⟩
  obtain ⟨B3, h3⟩ := hz
  refine W.draw (fun w' => Ext w_b8 w') ?_
  intro w1 hS1
  have x1 := hS1.ext
  (refine jjV [0, 1, 2, 3, 4, 5, 6, 7, 8] ?_ ?_ ?_; (decide +kernel); (exact x1); (((apply jjT; exact rfl; rintro w' hq; have := hq.toStep; apply jI; exact eS rfl; refine jz ?_; exact ⟨rfl, rfl⟩; apply jjT; exact rfl; rintro w' hq; have := hq.toStep; refine jh rfl ?_; refine jz ?_; exact ⟨rfl, rfl⟩; apply jjT; exact rfl; rintro w' hq; have := hq.toStep; refine jZ rfl rfl (by omega) ?_; refine jz ?_; exact ⟨rfl, rfl⟩; apply jjT; exact rfl; rintro w' hq; have := hq.toStep; refine jm ?_; refine jn rfl ?_; refine jz ?_; exact ⟨rfl, rfl⟩; apply jjT; exact rfl; rintro w' hq; have := hq.toStep; refine jN rfl rfl rfl ?_; refine jz ?_; exact ⟨rfl, rfl⟩; apply jjT; exact rfl; rintro w' hq; have := hq.toStep; refine jY rfl rfl (by omega) ?_; refine jz ?_; exact ⟨rfl, rfl⟩; apply jjT; exact rfl; rintro w' hq; have := hq.toStep; refine jm ?_; refine jn rfl ?_; refine jz ?_; exact ⟨rfl, rfl⟩; apply jjT; exact rfl; rintro w' hq; have := hq.toStep; refine jm ?_; refine jn rfl ?_; refine jz ?_; exact ⟨rfl, rfl⟩; apply jjT; exact rfl; rintro w' hq; have := hq.toStep; refine jN rfl rfl rfl ?_; refine jz ?_; exact ⟨rfl, rfl⟩; refine jjU ?_))))
  (apply jjW 9; (decide +kernel); exact rfl; (exact x1))
  (refine jjP (v := .int _ _) rfl (by exact rfl) (by exact rfl) (by exact rfl) (by exact rfl) ?_; intro b60 w_b60 hb_b60 hs_b60 hS_b60 hk_b60; have hR_b60 := RowV.one (agg := false) (k := 1) rfl hk_b60)
  refine jz ?_
  have x2 := x1.trans hS_b60.ext
  (apply jjW 10; (decide +kernel); exact rfl; (exact x2))
  refine jjQ (inOne_leaf 0 ((y.2.2.length : Int) - 1 + behN rs[i].2.1) rs[i].1.2.2 b60 B3 _ h3 hR_b60) rfl rfl ?_
  rintro _ w9 hS9 rfl
  refine jz ?_
  have x3 := x2.trans hS9.ext
  rw [h3] at hrb
  cases B3
  · (refine jjV [11, 12, 13, 14, 15, 16, 17, 18, 19, 20, 21, 22, 23, 24] ?_ ?_ ?_; (decide +kernel); (exact x3); (((apply jjT; exact rfl; rintro w' hq; have := hq.toStep; refine jq rfl ?_; refine jz ?_; exact ⟨rfl, rfl⟩; apply jjT; exact rfl; rintro w' hq; have := hq.toStep; apply jI; exact eB rfl; refine jz ?_; exact ⟨rfl, rfl⟩; apply jjT; exact rfl; rintro w' hq; have := hq.toStep; refine jU rfl rfl rfl rfl ?_; refine jz ?_; exact ⟨rfl, rfl⟩; apply jjT; exact rfl; rintro w' hq; have := hq.toStep; refine jU rfl rfl rfl rfl ?_; refine jz ?_; exact ⟨rfl, rfl⟩; apply jjT; exact rfl; rintro w' hq; have := hq.toStep; refine jU rfl rfl rfl rfl ?_; refine jz ?_; exact ⟨rfl, rfl⟩; apply jjT; exact rfl; rintro w' hq; have := hq.toStep; refine jU rfl rfl rfl rfl ?_; refine jz ?_; exact ⟨rfl, rfl⟩; apply jjT; exact rfl; rintro w' hq; have := hq.toStep; refine jU rfl rfl rfl rfl ?_; refine jz ?_; exact ⟨rfl, rfl⟩; apply jjT; exact rfl; rintro w' hq; have := hq.toStep; refine jU rfl rfl rfl rfl ?_; refine jz ?_; exact ⟨rfl, rfl⟩; apply jjT; exact rfl; rintro w' hq; have := hq.toStep; refine jU rfl rfl rfl rfl ?_; refine jz ?_; exact ⟨rfl, rfl⟩; apply jjT; exact rfl; rintro w' hq; have := hq.toStep; refine jU rfl rfl rfl rfl ?_; refine jz ?_; exact ⟨rfl, rfl⟩; apply jjT; exact rfl; rintro w' hq; have := hq.toStep; refine jU rfl rfl rfl rfl ?_; refine jz ?_; exact ⟨rfl, rfl⟩; apply jjT; exact rfl; rintro w' hq; have := hq.toStep; refine jU rfl rfl rfl rfl ?_; refine jz ?_; exact ⟨rfl, rfl⟩; apply jjT; exact rfl; rintro w' hq; have := hq.toStep; refine jU rfl rfl rfl rfl ?_; refine jz ?_; exact ⟨rfl, rfl⟩; apply jjT; exact rfl; rintro w' hq; have := hq.toStep; apply jK rfl; exact eB rfl; refine jz ?_; exact ⟨rfl, rfl⟩; refine jjU ?_))))
    refine jjX (by decide +kernel) x3 ?_
    (refine jjJ rfl ?_; refine jjB ?_; refine jjC ?_; apply jJ; exact eB rfl; refine jz ?_; refine jjF ?_; refine jB rfl rfl ⟨inferInstance, ?_⟩)
    have := x3.toStep
    skip
    rw [copyB_read hir (by rw [hrb]; rfl)]; exact rfl
  have hq : ∃ q : Nat, q ≤ y.2.2.length ∧ rs[i].1.2.2 = (q : Int) := ⟨rs[i].1.2.2.toNat, by simp [inB] at h3; omega, by simp [inB] at h3; omega⟩
  obtain ⟨q, hql, hqe⟩ := hq
  have hz : ∃ B, rgtB rs[i].2.1 (y.2.2.getD q ⟨#[]⟩) rs[i].2.2 = B := ⟨_, rfl⟩
  obtain ⟨B4, h4⟩ := hz
  rw [hqe, Int.toNat_natCast, h4, Bool.true_and] at hrb
  (refine jjV [11, 12, 13, 14, 15, 16, 17, 18, 20, 21] ?_ ?_ ?_; (decide +kernel); (exact x3); (((apply jjT; exact rfl; rintro w' hq; have := hq.toStep; refine jp rfl ?_; refine jz ?_; exact ⟨rfl, rfl⟩; apply jjT; exact rfl; rintro w' hq; have := hq.toStep; apply jI; exact eB rfl; refine jz ?_; exact ⟨rfl, rfl⟩; apply jjT; exact rfl; rintro w' hq; have := hq.toStep; refine jT rfl rfl rfl ?_; refine jm ?_; refine jn rfl ?_; refine jz ?_; exact ⟨rfl, rfl⟩; apply jjT; exact rfl; rintro w' hq; have := hq.toStep; refine jT rfl rfl rfl ?_; refine jN rfl rfl rfl ?_; refine jz ?_; exact ⟨rfl, rfl⟩; apply jjT; exact rfl; rintro w' hq; have := hq.toStep; refine jT rfl rfl rfl ?_; apply jI; exact eS rfl; refine jz ?_; exact ⟨rfl, rfl⟩; apply jjT; exact rfl; rintro w' hq; have := hq.toStep; refine jT rfl rfl rfl ?_; refine jm ?_; refine jn rfl ?_; refine jz ?_; exact ⟨rfl, rfl⟩; apply jjT; exact rfl; rintro w' hq; have := hq.toStep; refine jT rfl rfl rfl ?_; refine jm ?_; refine jn rfl ?_; refine jz ?_; exact ⟨rfl, rfl⟩; apply jjT; exact rfl; rintro w' hq; have := hq.toStep; refine jT rfl rfl rfl ?_; refine jN rfl rfl rfl ?_; refine jz ?_; exact ⟨rfl, rfl⟩; apply jjT; exact rfl; rintro w' hq; have := hq.toStep; refine jT rfl rfl rfl ?_; refine jm ?_; refine jn rfl ?_; refine jz ?_; exact ⟨rfl, rfl⟩; apply jjT; exact rfl; rintro w' hq; have := hq.toStep; refine jT rfl rfl rfl ?_; refine jN rfl rfl rfl ?_; refine jz ?_; exact ⟨rfl, rfl⟩; refine jjU ?_))))
  (apply jjW 19; (decide +kernel); exact rfl; (exact x3))
  (refine jT rfl rfl rfl ?_)
  have hown : Ct Tryz.prog 143 [.slice y.1 y.2.2.length y.2.1, .int .i64 rs[i].1.2.2] w9 fun v _ => v = .string (y.2.2.getD q ⟨#[]⟩) := by
    rw [hqe]
    exact own_leaf y.1 y.2.1 y.2.2.length y.2.2 q w9 rfl (by omega) hql (hyrow.ext (hE8.trans x3))
  refine jjQ hown rfl rfl ?_
  rintro _ wA hSA rfl
  refine jz ?_
  have x4 := x3.trans hSA.ext
  (apply jjW 22; (decide +kernel); exact rfl; (exact x4))
  (refine jT rfl rfl rfl ?_)
  refine jjQ ((hrgt (y.2.2.getD q ⟨#[]⟩) rs[i].2.2 _ hwd).mono fun v _ _ h => h.trans (by rw [h4])) rfl rfl ?_
  rintro _ wB hSB rfl
  refine jz ?_
  have x5 := x4.trans hSB.ext
  (refine jjV [23, 24] ?_ ?_ ?_; (decide +kernel); (exact x5); (((apply jjT; exact rfl; rintro w' hq; have := hq.toStep; refine jT rfl rfl rfl ?_; refine js rfl ?_; refine jz ?_; exact ⟨rfl, rfl⟩; apply jjT; exact rfl; rintro w' hq; have := hq.toStep; apply jL rfl; exact eB rfl; refine jz ?_; exact ⟨rfl, rfl⟩; refine jjU ?_))))
  refine jjX (by decide +kernel) x5 ?_
  have s5 := x5.toStep
  cases B4
  · (refine jjJ rfl ?_; refine jjB ?_; refine jjC ?_; apply jJ; exact eB rfl; refine jz ?_; refine jjF ?_; refine jB rfl rfl ⟨inferInstance, ?_⟩)
    rw [copyB_read hir hrb]; exact rfl
  have hpre' : ∀ (q : Nat) (hq : q < rs.length), q < i + 1 → readB (txF cs) rs[q] = true := fun q hq hqi => by
    by_cases e : q = i
    · subst e; exact hrb
    · exact hpre q hq (by omega)
  by_cases hi0 : i = 0
  · (refine jjK rfl ?_; refine jjG ?_; refine jjB ?_; refine jjB ?_; refine jjC ?_; apply jI; exact eI rfl; refine jjh rfl rfl (by omega) ?_; refine jz ?_; refine jjJ rfl ?_; refine jjE ?_; refine jjC ?_; refine jY rfl rfl (by omega) ?_; apply jI; exact eI rfl; refine jz ?_)
    exact ⟨rfl, by ((refine Same.upd rfl ?_; refine Same.upd rfl ?_; refine Same.upd rfl ?_; refine Same.upd rfl ?_; refine Same.upd rfl ?_; refine Same.upd rfl ?_; refine Same.upd rfl ?_; refine Same.upd rfl ?_; refine Same.upd rfl ?_; refine Same.upd rfl ?_; refine Same.upd rfl ?_; refine Same.upd rfl ?_; refine Same.upd rfl ?_; refine Same.upd rfl ?_; refine Same.upd rfl ?_; refine Same.upd rfl ?_; refine Same.upd rfl ?_; refine Same.upd rfl ?_; refine Same.upd rfl ?_; refine Same.upd rfl ?_; refine Same.upd rfl ?_; refine Same.upd rfl ?_; refine Same.upd rfl ?_; refine Same.upd rfl ?_; refine Same.upd rfl ?_; refine Same.upd rfl ?_; refine Same.upd rfl ?_; refine Same.upd rfl ?_; refine Same.upd rfl ?_; refine Same.upd rfl ?_; refine Same.upd rfl ?_; refine Same.upd rfl ?_; refine Same.upd rfl ?_; refine Same.upd rfl ?_; refine Same.upd rfl ?_; refine Same.upd rfl ?_; refine Same.upd rfl ?_; refine Same.upd rfl ?_; refine Same.upd rfl ?_; refine Same.upd rfl ?_; refine Same.upd rfl ?_; refine Same.upd rfl ?_; refine Same.upd rfl ?_; refine Same.upd rfl ?_; refine Same.upd rfl ?_; refine Same.upd rfl ?_; refine Same.upd rfl ?_; refine Same.upd rfl ?_; refine Same.upd rfl ?_; refine Same.upd rfl ?_; refine Same.upd rfl ?_; refine Same.upd rfl ?_; refine Same.upd rfl ?_; refine Same.upd rfl ?_; refine Same.upd rfl ?_; refine Same.upd rfl ?_; refine Same.upd rfl ?_; exact Same.ovN)), rs.length - (i + 1), by omega, inferInstance, i + 1, congrArg (Value.int .i64) (by omega), rfl, by omega, hpre', fun q hq hqi => by omega⟩
  have hi1 : ((i : Nat) : Int) - 1 = ((i - 1 : Nat) : Int) := by omega
  have hii : i - 1 < rs.length := by omega
  (refine jjK rfl ?_; refine jjG ?_; refine jjB ?_; refine jjB ?_; refine jjC ?_; apply jI; exact eI rfl; refine jji rfl rfl (by omega) ?_; refine jz ?_; refine jjK rfl ?_; refine jjG ?_; refine jjB ?_; refine jjC ?_; refine jm ?_; refine jn rfl ?_; refine jN rfl rfl rfl ?_; apply jI; exact eI rfl; refine jZ rfl rfl (by omega) ?_)
  refine jF rfl rfl hi1 (map_get hii) ?_
  intro ba oa hAl
  (refine jQ rfl rfl ?_)
  (apply jjR rfl; (intro _; first|exact eI rfl|exact eB rfl|exact eP rfl|exact eS rfl|exact eT rfl|exact eA rfl|exact eU rfl|exact eF rfl|exact eM rfl|exact eN rfl|exact rfl); exact rfl; exact rfl; exact rfl; exact rfl; intro b9 w_b9 hb_b9 hs_b9 hS_b9 hk_b9; have hA_b9 := Bk.of hk_b9)
  (refine jz ?_; refine jjB ?_; refine jjC ?_; refine jm ?_; refine jn rfl ?_; refine jO rfl rfl rfl rfl ?_; refine jm ?_; refine jn rfl ?_; refine jO rfl rfl rfl rfl ?_)
  refine jjQ (order_leaf rs[i - 1].1 rs[i].1 _) rfl rfl ?_
  rintro _ wC hSC rfl
  have hnc := next_cases rs[i - 1] rs[i]
  have hii2 : i - 1 + 1 < rs.length := by omega
  have hnx0 : ∀ b, nextB rs[i - 1] rs[i] = b → nextB rs[i - 1] rs[i - 1 + 1] = b := fun b h => by
    have e : i - 1 + 1 = i := by omega
    simpa only [e] using h
  have hnx' : nextB rs[i - 1] rs[i] = true → ∀ (q : Nat) (hq : q + 1 < rs.length), q + 1 < i + 1 → nextB rs[q] rs[q + 1] = true := fun h q hq hqi => by
    by_cases e : q = i - 1
    · subst e; exact hnx0 _ h
    · exact hnx q hq (by omega)
  rcases hnc with ⟨ho1, hn⟩ | ⟨ho1, hk2, hn⟩ | ⟨ho1, hk2, hn⟩ | ⟨ho1, hn⟩
  · (apply jJ; exact eI rfl; refine jz ?_; refine jjB ?_; refine jjC ?_; apply jI; exact eI rfl; refine jjd rfl rfl (by omega) ?_; apply jI; exact eB rfl; refine jU rfl rfl rfl rfl ?_; refine jU rfl rfl rfl rfl ?_; refine jU rfl rfl rfl rfl ?_; refine jV rfl rfl ?_; refine jV rfl rfl ?_; refine jV rfl rfl ?_; refine jU rfl rfl rfl rfl ?_; apply jK rfl; exact eB rfl; refine jz ?_; refine jjJ rfl ?_; refine jjB ?_; refine jjC ?_; apply jJ; exact eB rfl; refine jz ?_; refine jjF ?_; refine jB rfl rfl ⟨inferInstance, ?_⟩)
    rw [copyB_next hii2 (hnx0 _ hn)]; exact rfl
  · (apply jJ; exact eI rfl; refine jz ?_; refine jjB ?_; refine jjC ?_; apply jI; exact eI rfl; refine jje rfl rfl (by omega) ?_; apply jI; exact eB rfl; refine jT rfl rfl rfl ?_; apply jI; exact eI rfl; refine jT rfl rfl rfl ?_; refine jjh rfl rfl (by omega) ?_; refine jT rfl rfl rfl ?_; apply jI; exact eB rfl; refine jT rfl rfl rfl ?_; refine jm ?_; refine jn rfl ?_; refine jT rfl rfl rfl ?_; refine jN rfl rfl rfl ?_; refine jT rfl rfl rfl ?_; refine jjj rfl rfl (by omega) ?_; refine jT rfl rfl rfl ?_; apply jK rfl; exact eB rfl; apply jL rfl; exact eB rfl; refine jz ?_; refine jjJ rfl ?_; refine jjB ?_; refine jjC ?_; apply jJ; exact eB rfl; refine jz ?_; refine jjF ?_; refine jB rfl rfl ⟨inferInstance, ?_⟩)
    rw [copyB_next hii2 (hnx0 _ hn)]; exact rfl
  · (apply jJ; exact eI rfl; refine jz ?_; refine jjB ?_; refine jjC ?_; apply jI; exact eI rfl; refine jje rfl rfl (by omega) ?_; apply jI; exact eB rfl; refine jT rfl rfl rfl ?_; apply jI; exact eI rfl; refine jT rfl rfl rfl ?_; refine jjh rfl rfl (by omega) ?_; refine jT rfl rfl rfl ?_; apply jI; exact eB rfl; refine jT rfl rfl rfl ?_; refine jm ?_; refine jn rfl ?_; refine jT rfl rfl rfl ?_; refine jN rfl rfl rfl ?_; refine jT rfl rfl rfl ?_; refine jjk rfl rfl (by omega) ?_; refine jT rfl rfl rfl ?_; apply jK rfl; exact eB rfl; apply jL rfl; exact eB rfl; refine jz ?_; refine jjK rfl ?_; refine jjG ?_; refine jjC ?_; refine jY rfl rfl (by omega) ?_; apply jI; exact eI rfl; refine jz ?_)
    exact ⟨rfl, by ((refine Same.upd rfl ?_; refine Same.upd rfl ?_; refine Same.upd rfl ?_; refine Same.upd rfl ?_; refine Same.upd rfl ?_; refine Same.upd rfl ?_; refine Same.upd rfl ?_; refine Same.upd rfl ?_; refine Same.upd rfl ?_; refine Same.upd rfl ?_; refine Same.upd rfl ?_; refine Same.upd rfl ?_; refine Same.upd rfl ?_; refine Same.upd rfl ?_; refine Same.upd rfl ?_; refine Same.upd rfl ?_; refine Same.upd rfl ?_; refine Same.upd rfl ?_; refine Same.upd rfl ?_; refine Same.upd rfl ?_; refine Same.upd rfl ?_; refine Same.upd rfl ?_; refine Same.upd rfl ?_; refine Same.upd rfl ?_; refine Same.upd rfl ?_; refine Same.upd rfl ?_; refine Same.upd rfl ?_; refine Same.upd rfl ?_; refine Same.upd rfl ?_; refine Same.upd rfl ?_; refine Same.upd rfl ?_; refine Same.upd rfl ?_; refine Same.upd rfl ?_; refine Same.upd rfl ?_; refine Same.upd rfl ?_; refine Same.upd rfl ?_; refine Same.upd rfl ?_; refine Same.upd rfl ?_; refine Same.upd rfl ?_; refine Same.upd rfl ?_; refine Same.upd rfl ?_; refine Same.upd rfl ?_; refine Same.upd rfl ?_; refine Same.upd rfl ?_; refine Same.upd rfl ?_; refine Same.upd rfl ?_; refine Same.upd rfl ?_; refine Same.upd rfl ?_; refine Same.upd rfl ?_; refine Same.upd rfl ?_; refine Same.upd rfl ?_; refine Same.upd rfl ?_; refine Same.upd rfl ?_; refine Same.upd rfl ?_; refine Same.upd rfl ?_; refine Same.upd rfl ?_; refine Same.upd rfl ?_; refine Same.upd rfl ?_; refine Same.upd rfl ?_; refine Same.upd rfl ?_; refine Same.upd rfl ?_; refine Same.upd rfl ?_; refine Same.upd rfl ?_; refine Same.upd rfl ?_; refine Same.upd rfl ?_; refine Same.upd rfl ?_; refine Same.upd rfl ?_; refine Same.upd rfl ?_; refine Same.upd rfl ?_; refine Same.upd rfl ?_; refine Same.upd rfl ?_; refine Same.upd rfl ?_; refine Same.upd rfl ?_; refine Same.upd rfl ?_; refine Same.upd rfl ?_; refine Same.upd rfl ?_; refine Same.upd rfl ?_; refine Same.upd rfl ?_; refine Same.upd rfl ?_; refine Same.upd rfl ?_; refine Same.upd rfl ?_; exact Same.ovN)), rs.length - (i + 1), by omega, inferInstance, i + 1, congrArg (Value.int .i64) (by omega), rfl, by omega, hpre', hnx' hn⟩
  · (apply jJ; exact eI rfl; refine jz ?_; refine jjB ?_; refine jjC ?_; apply jI; exact eI rfl; refine jje rfl rfl (by omega) ?_; apply jI; exact eB rfl; refine jT rfl rfl rfl ?_; apply jI; exact eI rfl; refine jT rfl rfl rfl ?_; refine jji rfl rfl (by omega) ?_; refine jT rfl rfl rfl ?_; apply jI; exact eB rfl; refine jU rfl rfl rfl rfl ?_; refine jU rfl rfl rfl rfl ?_; refine jU rfl rfl rfl rfl ?_; refine jT rfl rfl rfl ?_; apply jL rfl; exact eB rfl; apply jL rfl; exact eB rfl; refine jz ?_; refine jjK rfl ?_; refine jjG ?_; refine jjC ?_; refine jY rfl rfl (by omega) ?_; apply jI; exact eI rfl; refine jz ?_)
    exact ⟨rfl, by ((refine Same.upd rfl ?_; refine Same.upd rfl ?_; refine Same.upd rfl ?_; refine Same.upd rfl ?_; refine Same.upd rfl ?_; refine Same.upd rfl ?_; refine Same.upd rfl ?_; refine Same.upd rfl ?_; refine Same.upd rfl ?_; refine Same.upd rfl ?_; refine Same.upd rfl ?_; refine Same.upd rfl ?_; refine Same.upd rfl ?_; refine Same.upd rfl ?_; refine Same.upd rfl ?_; refine Same.upd rfl ?_; refine Same.upd rfl ?_; refine Same.upd rfl ?_; refine Same.upd rfl ?_; refine Same.upd rfl ?_; refine Same.upd rfl ?_; refine Same.upd rfl ?_; refine Same.upd rfl ?_; refine Same.upd rfl ?_; refine Same.upd rfl ?_; refine Same.upd rfl ?_; refine Same.upd rfl ?_; refine Same.upd rfl ?_; refine Same.upd rfl ?_; refine Same.upd rfl ?_; refine Same.upd rfl ?_; refine Same.upd rfl ?_; refine Same.upd rfl ?_; refine Same.upd rfl ?_; refine Same.upd rfl ?_; refine Same.upd rfl ?_; refine Same.upd rfl ?_; refine Same.upd rfl ?_; refine Same.upd rfl ?_; refine Same.upd rfl ?_; refine Same.upd rfl ?_; refine Same.upd rfl ?_; refine Same.upd rfl ?_; refine Same.upd rfl ?_; refine Same.upd rfl ?_; refine Same.upd rfl ?_; refine Same.upd rfl ?_; refine Same.upd rfl ?_; refine Same.upd rfl ?_; refine Same.upd rfl ?_; refine Same.upd rfl ?_; refine Same.upd rfl ?_; refine Same.upd rfl ?_; refine Same.upd rfl ?_; refine Same.upd rfl ?_; refine Same.upd rfl ?_; refine Same.upd rfl ?_; refine Same.upd rfl ?_; refine Same.upd rfl ?_; refine Same.upd rfl ?_; refine Same.upd rfl ?_; refine Same.upd rfl ?_; refine Same.upd rfl ?_; refine Same.upd rfl ?_; refine Same.upd rfl ?_; refine Same.upd rfl ?_; refine Same.upd rfl ?_; refine Same.upd rfl ?_; refine Same.upd rfl ?_; refine Same.upd rfl ?_; refine Same.upd rfl ?_; refine Same.upd rfl ?_; refine Same.upd rfl ?_; refine Same.upd rfl ?_; refine Same.upd rfl ?_; refine Same.upd rfl ?_; refine Same.upd rfl ?_; refine Same.upd rfl ?_; refine Same.upd rfl ?_; refine Same.upd rfl ?_; refine Same.upd rfl ?_; exact Same.ovN)), rs.length - (i + 1), by omega, inferInstance, i + 1, congrArg (Value.int .i64) (by omega), rfl, by omega, hpre', hnx' hn⟩
end Go.Proofs.YtpbkphaceljclaaGreatDoor

/- leaf: copied, stands, Stands. -/
namespace Go.Proofs.YtpbkphaceljclaaGreatDoor
open Go.RowKit

theorem cpE_text {t : Tx} {id : Int} {rs : List Rd} (h : textB t = false) : cpE t id rs = 10 := by rw [cpE, h]; rfl
theorem cpE_copy {t : Tx} {id : Int} {rs : List Rd} (h : textB t = true) (h2 : copyB t id rs = false) : cpE t id rs = 11 := by rw [cpE, h, h2]; rfl
theorem cpE_yes {t : Tx} {id : Int} {rs : List Rd} (h : textB t = true) (h2 : copyB t id rs = true) : cpE t id rs = 0 := by rw [cpE, h, h2]; rfl
theorem cpE_in (t : Tx) (id : Int) (rs : List Rd) : 0 ≤ cpE t id rs ∧ cpE t id rs ≤ 11 := by
  unfold cpE
  split
  · split <;> omega
  · omega
set_option maxHeartbeats 2000000 in
theorem copied_leaf (a : Option Addr) (c : Nat) (cs : List Ch) (w : World) [hrow : RowI w (.slice a cs.length c) true 2 (cs.map encCh)] [hT : TextI w cs] [hg : At w 1 0 kindsC] (id : Int) (ra : Option Addr) (rc : Nat) (rs : List Rd) (hs : SmallT cs) (hrs : SmallR rs)
    [hrd : RowI w (.slice ra rs.length rc) true 5 (rs.map encRd)] :
    Ct Tryz.prog 112 [.agg #[.slice a cs.length c], .agg #[.int .i64 id, .slice ra rs.length rc]] w fun v w' => ∃ o, v = .tuple #[.pointer o, .int .i64 (cpE (txF cs) id rs)] ∧ (cpE (txF cs) id rs = 0 → ∃ b, o = some ⟨b, 0, none⟩ ∧ At w' b 0 [.slice a cs.length c]) := by
  refine Ct.ofW (by simp) ?_
  (refine jjB ?_; refine jjC ?_)
  (refine jy rfl ?_; intro b2 w_b2 hb_b2 hs_b2 hS_b2 hk_b2; have hA_b2 := At.ofBlock hk_b2)
  skip
  (refine jy rfl ?_; intro b3 w_b3 hb_b3 hs_b3 hS_b3 hk_b3; have hA_b3 := At.ofBlock hk_b3)
  (apply jJ; exact eN rfl; apply jJ; exact eI rfl; refine jz ?_; refine jjB ?_; refine jjC ?_; refine jO rfl rfl rfl rfl ?_)
  have hz : ∃ B, textB (txF cs) = B := ⟨_, rfl⟩
  obtain ⟨B, hB⟩ := hz
  refine jjQ ((open_leaf a c cs _ hs).mono fun v _ _ h => by rw [hB] at h; exact h) rfl rfl ?_
  rintro _ w2 hS2 ⟨o, rfl, ho⟩
  cases B
  · (apply jI; exact eU rfl; refine ju rfl rfl ?_; refine ju rfl rfl ?_; apply jJ; exact rfl; apply jJ; exact eI rfl; refine jz ?_; refine jjB ?_; refine jjB ?_; refine jjC ?_; apply jI; exact eI rfl; refine jc rfl rfl ?_; refine jz ?_; refine jjJ rfl ?_; refine jjB ?_; refine jjC ?_; apply jI; exact eI rfl; apply jJ; exact eN rfl; apply jJ; exact eI rfl; refine jz ?_; refine jjF ?_; refine jC rfl rfl rfl ⟨inferInstance, ?_⟩)
    rw [cpE_text hB]
    exact ⟨_, rfl, fun h => by cases h⟩
  have hz := ho rfl
  obtain ⟨b, -, rfl, hAb⟩ := hz
  have hz : ∃ B, copyB (txF cs) id rs = B := ⟨_, rfl⟩
  obtain ⟨B2, h2⟩ := hz
  (apply jI; exact eU rfl; refine ju rfl rfl ?_; refine ju rfl rfl ?_; apply jJ; exact eP rfl; apply jJ; exact eI rfl; refine jz ?_; refine jjB ?_; refine jjB ?_; refine jjC ?_; apply jI; exact eI rfl; refine jc rfl rfl ?_; refine jz ?_; refine jjK rfl ?_; refine jjG ?_; refine jjB ?_; refine jjB ?_; refine jjC ?_; apply jI; exact eP rfl; refine jO rfl rfl rfl rfl ?_)
  refine jjQ ((right_leaf a c cs _ b id ra rc rs hs hrs hB).mono fun v _ _ h => h.trans (by rw [h2])) rfl rfl ?_
  rintro _ w3 hS3 rfl
  cases B2
  · (refine jq rfl ?_; refine jz ?_; refine jjJ rfl ?_; refine jjB ?_; refine jjC ?_; apply jJ; exact eN rfl; apply jJ; exact eI rfl; refine jz ?_; refine jjF ?_; refine jC rfl rfl rfl ⟨inferInstance, ?_⟩)
    rw [cpE_copy hB h2]
    exact ⟨_, rfl, fun h => by cases h⟩
  · (refine jp rfl ?_; refine jz ?_; refine jjK rfl ?_; refine jjG ?_; refine jjB ?_; refine jjC ?_; apply jI; exact eP rfl; apply jJ; exact eP rfl; apply jJ; exact eI rfl; refine jz ?_; refine jjF ?_; refine jC rfl rfl rfl ⟨inferInstance, ?_⟩)
    rw [cpE_yes hB h2]
    exact ⟨_, rfl, fun _ => ⟨b, rfl, inferInstance⟩⟩
theorem find_drop {α : Type} {f : α → Bool} {l : List α} {i : Nat} (h : ∀ (j : Nat) (hj : j < l.length), j < i → f l[j] = false) : l.find? f = (l.drop i).find? f := by
  induction i with
  | zero => rfl
  | succ i ih =>
    rw [ih fun j hj hji => h j hj (by omega)]
    by_cases hi : i < l.length
    · rw [List.drop_eq_getElem_cons hi, List.find?_cons, h i hi (by omega)]
    · rw [List.drop_of_length_le (by omega), List.drop_of_length_le (by omega)]
theorem placeB_line {t : Tx} {p : Pl} (h : placeB t p = true) : ∃ l, lineT t p = some l ∧ ∃ q : Nat, q < l.length ∧ p.2.2 = (q : Int) := by
  unfold placeB at h
  split at h
  · cases h
  · refine ⟨_, ‹_›, p.2.2.toNat, ?_, ?_⟩ <;> (simp [inB] at h; omega)
abbrev stF (p : Pl) (r : Rd) : Bool := decide (r.1 = p) && decide (r.2.1 ≠ 2)
theorem standsB_hit {t : Tx} {rs : List Rd} {p : Pl} {i : Nat} (hi : i < rs.length) (hb : ∀ (j : Nat) (hj : j < rs.length), j < i → stF p rs[j] = false) (h : stF p rs[i] = true) : standsB t rs p = rs[i].2.2 := by
  have e : rs.find? (stF p) = some rs[i] := by rw [find_drop hb, List.drop_eq_getElem_cons hi, List.find?_cons, h]
  unfold standsB
  rw [show (rs.find? fun r => decide (r.1 = p) && decide (r.2.1 ≠ 2)) = some rs[i] from e]
theorem standsB_miss {t : Tx} {rs : List Rd} {p : Pl} (hb : ∀ (j : Nat) (hj : j < rs.length), stF p rs[j] = false) : standsB t rs p = wordT t p := by
  have e : rs.find? (stF p) = none := by rw [find_drop (i := rs.length) (fun j hj _ => hb j hj), List.drop_length]; rfl
  unfold standsB
  rw [show (rs.find? fun r => decide (r.1 = p) && decide (r.2.1 ≠ 2)) = none from e]
set_option maxHeartbeats 4000000 in
theorem stands_leaf (a : Option Addr) (c : Nat) (cs : List Ch) (w : World) [hrow : RowI w (.slice a cs.length c) true 2 (cs.map encCh)] [hT : TextI w cs] (bb : Nat) (id : Int) (ra : Option Addr) (rc : Nat) (rs : List Rd) (p : Pl) (hs : SmallT cs) (hrs : SmallR rs) (hp : placeB (txF cs) p = true)
    [hb : At w bb 0 [.slice a cs.length c]] [hrd : RowI w (.slice ra rs.length rc) true 5 (rs.map encRd)] :
    Ct Tryz.prog 114 [.pointer (some ⟨bb, 0, none⟩), .agg #[.int .i64 id, .slice ra rs.length rc], encPl p] w fun v _ => v = .string (standsB (txF cs) rs p) := by
  have hrl := hrs.len
  refine Ct.ofW (by simp) ?_
  (refine jjB ?_; refine jjC ?_)
  (refine jy rfl ?_; intro b4 w_b4 hb_b4 hs_b4 hS_b4 hk_b4; have hA_b4 := At.ofBlock hk_b4)
  skip
  (refine jy rfl ?_; intro b5 w_b5 hb_b5 hs_b5 hS_b5 hk_b5; have hA_b5 := At.ofBlock hk_b5)
  (apply jJ; exact eT rfl; refine jz ?_; refine jjB ?_; refine jjB ?_; refine jjC ?_; refine jm ?_; refine jn rfl ?_; refine jN rfl rfl rfl ?_; refine jh rfl ?_; apply jI; exact eI rfl; refine jz ?_; refine jjD ?_)
  have hE5 : Ext w w_b5 := inferInstance
  refine W.keep0 [(0, .pointer (some ⟨bb, 0, none⟩)), (5, .pointer (some ⟨b5, 0, none⟩)), (10, .slice ra rs.length rc), (11, .int .i64 ((rs.length : Nat) : Int)), (12, .int .i64 ((0 : Nat) : Int))] ⟨eP rfl, eP rfl, eS rfl, eI rfl, eI rfl, trivial⟩ fun s0 => ?_
  refine W.loop (13 :: 14 :: 15 :: 8 :: 16 :: 17 :: 18 :: 19 :: 20 :: 21 :: 22 :: 23 :: 24 :: 25 :: 26 :: 6 :: 27 :: 12 :: []) (fun gg s' V => ∃ (i : Nat), s' 12 = .int .i64 ((i : Nat) : Int) ∧ gg = rs.length - i ∧ i ≤ rs.length ∧ (∀ (q : Nat) (hq : q < rs.length), q < i → stF p rs[q] = false)) rs.length ⟨0, rfl, rfl, Nat.zero_le _, by intros; omega⟩ ?_
  rintro _ sd V hSV ⟨i, h12, rfl, hi, hpre⟩
  refine W.fix h12 ?_
  clear h12
  have hEV : Ext w V := hE5.trans hSV.ext
  by_cases hir : i < rs.length
  rotate_left
  · have hmiss := standsB_miss (t := txF cs) (fun q hq => hpre q hq (by omega))
    have hz := placeB_line hp
    obtain ⟨l, hl, q, hq, hqe⟩ := hz
    rw [lineC_T] at hl
    have hz := Option.map_eq_some_iff.1 hl
    obtain ⟨y, hy, rfl⟩ := hz
    have hyrow : RowV V false 1 (.slice y.1 y.2.2.length y.2.1) (y.2.2.map strV) := by
      have hz := lineC_mem hy
      obtain ⟨x, hx, hy⟩ := hz
      exact (hT.words x hx _ hy).ext hEV
    have hz := hyrow.place' (map_get hq)
    obtain ⟨ba, oa, ea, hAy⟩ := hz
    have hwt : wordT (txF cs) p = y.2.2[q] := by
      rw [wordT, lineC_T, hy, hqe, Int.toNat_natCast, Option.map_some, Option.getD_some, List.getD_eq_getElem?_getD, List.getElem?_eq_getElem hq]; rfl
    have hAy' : At V ba (oa + q) [.string y.2.2[q]] := by rw [Nat.mul_one] at hAy; exact hAy
    (refine jjB ?_; refine jjC ?_; refine jja rfl rfl (by omega) ?_; refine jz ?_; refine jjB ?_; refine jjK rfl ?_; refine jjE ?_; refine jjB ?_)
    refine W.draw (fun w' => Ext V w') ?_
    intro w1 hS1
    have x1 := hS1.ext
    (refine jjV [0, 1, 3, 4] ?_ ?_ ?_; (decide +kernel); (exact x1); (((apply jjT; exact rfl; rintro w' hq; have := hq.toStep; apply jI; exact eP rfl; refine jz ?_; exact ⟨rfl, rfl⟩; apply jjT; exact rfl; rintro w' hq; have := hq.toStep; refine jO rfl rfl rfl rfl ?_; refine jz ?_; exact ⟨rfl, rfl⟩; apply jjT; exact rfl; rintro w' hq; have := hq.toStep; refine jm ?_; refine jn rfl ?_; refine jz ?_; exact ⟨rfl, rfl⟩; apply jjT; exact rfl; rintro w' hq; have := hq.toStep; refine jN rfl rfl rfl ?_; refine jz ?_; exact ⟨rfl, rfl⟩; refine jjU ?_))))
    (apply jjW 2; (decide +kernel); exact rfl; (exact x1))
    refine jjQ ((line_leaf a c cs _ bb p hs).mono fun v _ _ h => h.trans (by rw [hy])) rfl rfl ?_
    rintro _ w2 hS2 rfl
    refine jz ?_
    have x2 := x1.trans hS2.ext
    rw [show lnV (some y) = .slice (some ⟨ba, oa, none⟩) y.2.2.length y.2.1 from by show Value.slice y.1 _ _ = _; rw [ea]]
    refine jjV [5] (by decide +kernel) x2 (jjT (v := .pointer (some ⟨ba, oa + q, none⟩)) rfl (fun w' q1 => ?_) (jjU ?_)); (refine jG (j := q) rfl rfl hqe (by omega) ?_; refine jz ?_; exact ⟨rfl, rfl⟩)
    refine jjV [6] (by decide +kernel) x2 (jjT (v := .string y.2.2[q]) rfl (fun w' q1 => ?_) (jjU ?_)); (refine jR ((hAy'.ext q1).get (i := 0) rfl) rfl rfl ?_; refine jz ?_; exact ⟨rfl, rfl⟩)
    (refine jjV [7] ?_ ?_ ?_; (decide +kernel); (exact x2); (((apply jjT; exact rfl; rintro w' hq; have := hq.toStep; apply jJ; exact eT rfl; refine jz ?_; exact ⟨rfl, rfl⟩; refine jjU ?_))))
    refine jjX (by decide +kernel) x2 ?_
    have := x2.toStep
    (refine jjF ?_; refine jB rfl rfl ⟨inferInstance, ?_⟩)
    rw [hmiss, hwt]; exact rfl
  (refine jjB ?_; refine jjC ?_; refine jjZ rfl rfl (by omega) ?_; refine jz ?_; refine jjB ?_; refine jjJ rfl ?_; refine jjG ?_; refine jjB ?_; refine jjD ?_; refine jjB ?_; refine jjC ?_; refine jF rfl rfl rfl (map_get (by omega)) ?_; intro _ _ _; refine jQ rfl rfl ?_)
  (apply jjR rfl; (intro _; first|exact eI rfl|exact eB rfl|exact eP rfl|exact eS rfl|exact eT rfl|exact eA rfl|exact eU rfl|exact eF rfl|exact eM rfl|exact eN rfl|exact rfl); exact rfl; exact rfl; exact rfl; exact rfl; intro b8 w_b8 hb_b8 hs_b8 hS_b8 hk_b8; have hA_b8 := Bk.of hk_b8)
  (refine jz ?_; refine jjB ?_; refine jjC ?_; refine jm ?_; refine jn rfl ?_; refine jO rfl rfl rfl rfl ?_; refine jO rfl rfl rfl rfl ?_)
  refine Ops.eqlT (enc := encPl) rs[i].1 p rfl rfl ?_
  by_cases h1 : rs[i].1 = p
  rotate_left
  · rw [decide_eq_false h1]
    (apply jI; exact eB rfl; refine jU rfl rfl rfl rfl ?_; refine jU rfl rfl rfl rfl ?_; refine jU rfl rfl rfl rfl ?_; apply jL rfl; exact eB rfl; refine jz ?_; refine jjK rfl ?_; refine jjG ?_; refine jjC ?_; refine jY rfl rfl (by omega) ?_; apply jI; exact eI rfl; refine jz ?_)
    refine ⟨rfl, by ((refine Same.upd rfl ?_; refine Same.upd rfl ?_; refine Same.upd rfl ?_; refine Same.upd rfl ?_; refine Same.upd rfl ?_; refine Same.upd rfl ?_; refine Same.upd rfl ?_; refine Same.upd rfl ?_; refine Same.upd rfl ?_; refine Same.upd rfl ?_; refine Same.upd rfl ?_; refine Same.upd rfl ?_; refine Same.upd rfl ?_; refine Same.upd rfl ?_; refine Same.upd rfl ?_; refine Same.upd rfl ?_; exact Same.ovN)), rs.length - (i + 1), by omega, inferInstance, i + 1, congrArg (Value.int .i64) (by omega), rfl, by omega, fun q hq hqi => ?_⟩
    by_cases e : q = i
    · subst e; simp [stF, h1]
    · exact hpre q hq (by omega)
  rw [decide_eq_true h1]
  by_cases h2 : rs[i].2.1 = 2
  · (apply jI; exact eB rfl; refine jT rfl rfl rfl ?_; refine jm ?_; refine jn rfl ?_; refine jT rfl rfl rfl ?_; refine jN rfl rfl rfl ?_; refine jT rfl rfl rfl ?_; refine jjk rfl rfl (by omega) ?_; apply jK rfl; exact eB rfl; refine jz ?_; refine jjK rfl ?_; refine jjG ?_; refine jjC ?_; refine jY rfl rfl (by omega) ?_; apply jI; exact eI rfl; refine jz ?_)
    refine ⟨rfl, by ((refine Same.upd rfl ?_; refine Same.upd rfl ?_; refine Same.upd rfl ?_; refine Same.upd rfl ?_; refine Same.upd rfl ?_; refine Same.upd rfl ?_; refine Same.upd rfl ?_; refine Same.upd rfl ?_; refine Same.upd rfl ?_; refine Same.upd rfl ?_; refine Same.upd rfl ?_; refine Same.upd rfl ?_; refine Same.upd rfl ?_; refine Same.upd rfl ?_; refine Same.upd rfl ?_; refine Same.upd rfl ?_; exact Same.ovN)), rs.length - (i + 1), by omega, inferInstance, i + 1, congrArg (Value.int .i64) (by omega), rfl, by omega, fun q hq hqi => ?_⟩
    by_cases e : q = i
    · subst e; simp [stF, h2]
    · exact hpre q hq (by omega)
  · have hhit := standsB_hit (t := txF cs) hir hpre (by simp [stF, h1, h2])
    (apply jI; exact eB rfl; refine jT rfl rfl rfl ?_; refine jm ?_; refine jn rfl ?_; refine jT rfl rfl rfl ?_; refine jN rfl rfl rfl ?_; refine jT rfl rfl rfl ?_; refine jjj rfl rfl (by omega) ?_; apply jK rfl; exact eB rfl; refine jz ?_; refine jjJ rfl ?_; refine jjB ?_; refine jjC ?_; refine jm ?_; refine jn rfl ?_; refine jN rfl rfl rfl ?_; apply jJ; exact eT rfl; refine jz ?_; refine jjF ?_; refine jB rfl rfl ⟨inferInstance, ?_⟩)
    rw [hhit]; exact rfl
set_option maxHeartbeats 4000000 in
theorem Stands_leaf (a : Option Addr) (c : Nat) (cs : List Ch) (w : World) [hrow : RowI w (.slice a cs.length c) true 2 (cs.map encCh)] [hT : TextI w cs] [hg : At w 1 0 kindsC] (id : Int) (ra : Option Addr) (rc : Nat) (rs : List Rd) (p : Pl) (hs : SmallT cs) (hrs : SmallR rs)
    [hrd : RowI w (.slice ra rs.length rc) true 5 (rs.map encRd)] :
    Ct Tryz.prog 78 [.agg #[.slice a cs.length c], .agg #[.int .i64 id, .slice ra rs.length rc], encPl p] w fun v _ => v = if cpE (txF cs) id rs ≠ 0 then .tuple #[.string ⟨#[]⟩, .int .i64 (cpE (txF cs) id rs)] else if placeB (txF cs) p = false then .tuple #[.string ⟨#[]⟩, .int .i64 12] else .tuple #[.string (standsB (txF cs) rs p), .int .i64 0] := by
  refine Ct.ofW (by simp) ?_
  (refine jjB ?_; refine jjC ?_)
  (refine jy rfl ?_; intro b3 w_b3 hb_b3 hs_b3 hS_b3 hk_b3; have hA_b3 := At.ofBlock hk_b3)
  skip
  (refine jy rfl ?_; intro b4 w_b4 hb_b4 hs_b4 hS_b4 hk_b4; have hA_b4 := At.ofBlock hk_b4)
  skip
  (refine jy rfl ?_; intro b5 w_b5 hb_b5 hs_b5 hS_b5 hk_b5; have hA_b5 := At.ofBlock hk_b5)
  (apply jJ; exact eT rfl; apply jJ; exact eI rfl; refine jz ?_; refine jjB ?_; refine jjC ?_; refine jO rfl rfl rfl rfl ?_; refine jO rfl rfl rfl rfl ?_)
  have hz : ∃ e, cpE (txF cs) id rs = e := ⟨_, rfl⟩
  obtain ⟨e, he⟩ := hz
  have hin := cpE_in (txF cs) id rs
  rw [he] at hin ⊢
  refine jjQ ((copied_leaf a c cs _ id ra rc rs hs hrs).mono fun v _ _ h => by rw [he] at h; exact h) rfl rfl ?_
  rintro _ w2 hS2 ⟨o, rfl, ho⟩
  by_cases h0 : e = 0
  rotate_left
  · (apply jI; exact eU rfl; refine ju rfl rfl ?_; refine ju rfl rfl ?_; apply jJ; exact rfl; apply jJ; exact eI rfl; refine jz ?_; refine jjB ?_; refine jjB ?_; refine jjC ?_; apply jI; exact eI rfl; refine jjj rfl rfl (by omega) ?_; refine jz ?_; refine jjJ rfl ?_; refine jjB ?_; refine jjC ?_; apply jI; exact eI rfl; apply jJ; exact eT rfl; apply jJ; exact eI rfl; refine jz ?_; refine jjF ?_; refine jC rfl rfl rfl ⟨inferInstance, ?_⟩)
    rw [if_pos h0]; exact rfl
  have hz := ho h0
  obtain ⟨b, rfl, hAb⟩ := hz
  subst h0
  rw [if_neg (by simp)]
  have hz : ∃ B, placeB (txF cs) p = B := ⟨_, rfl⟩
  obtain ⟨B, hB⟩ := hz
  (apply jI; exact eU rfl; refine ju rfl rfl ?_; refine ju rfl rfl ?_; apply jJ; exact eP rfl; apply jJ; exact eI rfl; refine jz ?_; refine jjB ?_; refine jjB ?_; refine jjC ?_; apply jI; exact eI rfl; refine jjk rfl rfl (by omega) ?_; refine jz ?_; refine jjK rfl ?_; refine jjG ?_; refine jjB ?_; refine jjB ?_; refine jjC ?_; apply jI; exact eP rfl; refine jO rfl rfl rfl rfl ?_)
  refine jjQ ((has_leaf a c cs _ b p hs).mono fun v _ _ h => h.trans (by rw [placeC_B, hB])) rfl rfl ?_
  rintro _ w3 hS3 rfl
  rw [hB]
  cases B
  · (refine jq rfl ?_; refine jz ?_; refine jjJ rfl ?_; refine jjB ?_; refine jjC ?_; apply jJ; exact eT rfl; apply jJ; exact eI rfl; refine jz ?_; refine jjF ?_; refine jC rfl rfl rfl ⟨inferInstance, ?_⟩)
    exact rfl
  rw [if_neg (by simp)]
  (refine jp rfl ?_; refine jz ?_; refine jjK rfl ?_; refine jjG ?_; refine jjB ?_; refine jjC ?_; apply jI; exact eP rfl; refine jO rfl rfl rfl rfl ?_; refine jO rfl rfl rfl rfl ?_)
  refine jjQ (stands_leaf a c cs _ b id ra rc rs p hs hrs hB) rfl rfl ?_
  rintro _ w4 hS4 rfl
  (apply jJ; exact eT rfl; apply jJ; exact eI rfl; refine jz ?_; refine jjF ?_; refine jC rfl rfl rfl ⟨inferInstance, ?_⟩)
  exact rfl
end Go.Proofs.YtpbkphaceljclaaGreatDoor

/- slip: Moved. -/
namespace Go.Proofs.YtpbkphaceljclaaGreatDoor
open Go.RowKit

theorem moveR_skip {p : Pl} {rs : List Rd} {i : Nat} {q : Int} (hi : i < rs.length) (h : rs[i].1.1 ≠ p.1 ∨ rs[i].1.2.1 ≠ p.2.1 ∨ p.2.2 < rs[i].1.2.2) : moveR p (rs.drop i) q = moveR p (rs.drop (i + 1)) q := by
  rw [List.drop_eq_getElem_cons hi, moveR, if_pos h]
theorem moveR_put {p : Pl} {rs : List Rd} {i : Nat} {q : Int} (hi : i < rs.length) (h : ¬ (rs[i].1.1 ≠ p.1 ∨ rs[i].1.2.1 ≠ p.2.1 ∨ p.2.2 < rs[i].1.2.2)) (h2 : rs[i].2.1 = 2) : moveR p (rs.drop i) q = moveR p (rs.drop (i + 1)) (q + 1) := by
  rw [List.drop_eq_getElem_cons hi, moveR, if_neg h, if_pos h2]
theorem moveR_gone {p : Pl} {rs : List Rd} {i : Nat} {q : Int} (hi : i < rs.length) (h : ¬ (rs[i].1.1 ≠ p.1 ∨ rs[i].1.2.1 ≠ p.2.1 ∨ p.2.2 < rs[i].1.2.2)) (h2 : rs[i].2.1 = 1) (h3 : rs[i].1.2.2 = p.2.2) : moveR p (rs.drop i) q = none := by
  rw [List.drop_eq_getElem_cons hi, moveR, if_neg h, if_neg (by omega), if_pos h2, if_pos h3]
theorem moveR_omit {p : Pl} {rs : List Rd} {i : Nat} {q : Int} (hi : i < rs.length) (h : ¬ (rs[i].1.1 ≠ p.1 ∨ rs[i].1.2.1 ≠ p.2.1 ∨ p.2.2 < rs[i].1.2.2)) (h2 : rs[i].2.1 = 1) (h3 : ¬ rs[i].1.2.2 = p.2.2) : moveR p (rs.drop i) q = moveR p (rs.drop (i + 1)) (q - 1) := by
  rw [List.drop_eq_getElem_cons hi, moveR, if_neg h, if_neg (by omega), if_pos h2, if_neg h3]
theorem moveR_other {p : Pl} {rs : List Rd} {i : Nat} {q : Int} (hi : i < rs.length) (h : ¬ (rs[i].1.1 ≠ p.1 ∨ rs[i].1.2.1 ≠ p.2.1 ∨ p.2.2 < rs[i].1.2.2)) (h2 : ¬ rs[i].2.1 = 1) (h3 : ¬ rs[i].2.1 = 2) : moveR p (rs.drop i) q = moveR p (rs.drop (i + 1)) q := by
  rw [List.drop_eq_getElem_cons hi, moveR, if_neg h, if_neg h3, if_neg h2]
theorem movedS_err {t : Tx} {id : Int} {rs : List Rd} {p : Pl} (h : cpE t id rs ≠ 0) : movedS t id rs p = ((0, 0, 0), cpE t id rs) := by rw [movedS, if_pos h]
theorem movedS_place {t : Tx} {id : Int} {rs : List Rd} {p : Pl} (h : cpE t id rs = 0) (h2 : placeB t p = false) : movedS t id rs p = ((0, 0, 0), 12) := by rw [movedS, if_neg (by simp [h]), if_pos h2]
theorem movedS_none {t : Tx} {id : Int} {rs : List Rd} {p : Pl} (h : cpE t id rs = 0) (h2 : placeB t p = true) (h3 : moveR p rs p.2.2 = none) : movedS t id rs p = ((0, 0, 0), 6) := by rw [movedS, if_neg (by simp [h]), if_neg (by simp [h2]), h3]
theorem movedS_some {t : Tx} {id : Int} {rs : List Rd} {p : Pl} {q : Int} (h : cpE t id rs = 0) (h2 : placeB t p = true) (h3 : moveR p rs p.2.2 = some q) : movedS t id rs p = ((p.1, p.2.1, q), 0) := by rw [movedS, if_neg (by simp [h]), if_neg (by simp [h2]), h3]
theorem place_small {cs : List Ch} (hs : SmallT cs) {p : Pl} (h : placeB (txF cs) p = true) : 0 ≤ p.2.2 ∧ p.2.2 ≤ 1000 := by
  obtain ⟨l, hl, q, hq, e⟩ := placeB_line h
  rw [lineC_T] at hl
  obtain ⟨y, hy, rfl⟩ := Option.map_eq_some_iff.1 hl
  obtain ⟨x, hx, hy⟩ := lineC_mem hy
  have := ((hs.2 x hx).2 y hy).1
  omega
set_option maxHeartbeats 8000000 in
theorem Moved_slip (a : Option Addr) (c : Nat) (cs : List Ch) (w : World) [hrow : RowI w (.slice a cs.length c) true 2 (cs.map encCh)] [hT : TextI w cs] [hg : At w 1 0 kindsC] (id : Int) (ra : Option Addr) (rc : Nat) (rs : List Rd) (p : Pl) (hs : SmallT cs) (hrs : SmallR rs)
    [hrd : RowI w (.slice ra rs.length rc) true 5 (rs.map encRd)] :
    Ct Tryz.prog 36 [.agg #[.slice a cs.length c], .agg #[.int .i64 id, .slice ra rs.length rc], encPl p] w fun v _ => v = .tuple #[encPl (movedS (txF cs) id rs p).1, .int .i64 (movedS (txF cs) id rs p).2] := by
  have hrl := hrs.len
  refine Ct.ofW (by simp) ?_
  (refine jjB ?_; refine jjC ?_)
  (refine jy rfl ?_; intro b3 w_b3 hb_b3 hs_b3 hS_b3 hk_b3; have hA_b3 := At.ofBlock hk_b3)
  skip
  (refine jy rfl ?_; intro b4 w_b4 hb_b4 hs_b4 hS_b4 hk_b4; have hA_b4 := At.ofBlock hk_b4)
  skip
  (refine jy rfl ?_; intro b5 w_b5 hb_b5 hs_b5 hS_b5 hk_b5; have hA_b5 := At.ofBlock hk_b5)
  ((skip); refine jjY ?_; intro b6 w_b6 hb_b6 hs_b6 hS_b6 hk_b6; have hA_b6 := Bk.of hk_b6)
  (apply jJ; exact eI rfl; refine jz ?_; refine jjB ?_; refine jjB ?_; refine jjC ?_; refine jO rfl rfl rfl rfl ?_; refine jO rfl rfl rfl rfl ?_; refine jO rfl rfl rfl rfl ?_)
  obtain ⟨e, he⟩ : ∃ e, cpE (txF cs) id rs = e := ⟨_, rfl⟩
  have hin := cpE_in (txF cs) id rs
  rw [he] at hin
  have hst := Stands_leaf a c cs w_b6 id ra rc rs p hs hrs
  rw [he] at hst
  have hE6 : Ext w w_b6 := inferInstance
  have hB6 : Bk w_b6 b6 [.int .i64 0, .int .i64 0, .int .i64 0] 44 := hA_b6
  have hA5 : At w_b6 b5 0 [.int .i64 p.1, .int .i64 p.2.1, .int .i64 p.2.2] := inferInstance
  have hA4 : At w_b6 b4 0 [.int .i64 id, .slice ra rs.length rc] := inferInstance
  by_cases h0 : e = 0
  rotate_left
  · rw [if_pos h0] at hst
    refine jjQ hst rfl rfl ?_
    rintro _ w2 hS2 rfl
    have hB2 := hB6.ext hS2.ext
    (apply jI; exact eU rfl; refine ju rfl rfl ?_; refine ju rfl rfl ?_; apply jJ; exact eT rfl; apply jJ; exact eI rfl; refine jz ?_; refine jjB ?_; refine jjC ?_; apply jI; exact eI rfl; refine jjj rfl rfl (by omega) ?_; refine jz ?_; refine jjJ rfl ?_; refine jjB ?_; refine jjC ?_)
    (refine jjS (cells := [.int .i64 0, .int .i64 0, .int .i64 0]) ?_ ?_; exact rfl)
    (apply jI; exact eI rfl)
    refine Ops.store rfl rfl rfl rfl rfl ?_
    intro V2 hp2
    have := Bk.toAt (h := Bk.of hp2.new)
    (apply jJ; exact eI rfl; refine jz ?_; refine jjF ?_)
    refine fin2C rfl rfl rfl rfl rfl rfl ⟨hp2.ext (hE6.trans hS2.ext) (by omega), ?_⟩
    rw [movedS_err (by rw [he]; exact h0), he]; exact rfl
  subst h0
  rw [if_neg (by simp)] at hst
  obtain ⟨B, hB⟩ : ∃ B, placeB (txF cs) p = B := ⟨_, rfl⟩
  rw [hB] at hst
  cases B
  · rw [if_pos rfl] at hst
    refine jjQ hst rfl rfl ?_
    rintro _ w2 hS2 rfl
    have hB2 := hB6.ext hS2.ext
    (apply jI; exact eU rfl; refine ju rfl rfl ?_; refine ju rfl rfl ?_; apply jJ; exact eT rfl; apply jJ; exact eI rfl; refine jz ?_; refine jjB ?_; refine jjC ?_; apply jI; exact eI rfl; refine jjj rfl rfl (by omega) ?_; refine jz ?_; refine jjJ rfl ?_; refine jjB ?_; refine jjC ?_)
    (refine jjS (cells := [.int .i64 0, .int .i64 0, .int .i64 0]) ?_ ?_; exact rfl)
    (apply jI; exact eI rfl)
    refine Ops.store rfl rfl rfl rfl rfl ?_
    intro V2 hp2
    have := Bk.toAt (h := Bk.of hp2.new)
    (apply jJ; exact eI rfl; refine jz ?_; refine jjF ?_)
    refine fin2C rfl rfl rfl rfl rfl rfl ⟨hp2.ext (hE6.trans hS2.ext) (by omega), ?_⟩
    rw [movedS_place he hB]; exact rfl
  rw [if_neg (by simp)] at hst
  have hps := place_small hs hB
  refine jjQ hst rfl rfl ?_
  rintro _ w2 hS2 rfl
  clear hst
  (apply jI; exact eU rfl; refine ju rfl rfl ?_; refine ju rfl rfl ?_; apply jJ; exact eT rfl; apply jJ; exact eI rfl; refine jz ?_; refine jjB ?_; refine jjC ?_; apply jI; exact eI rfl; refine jjk rfl rfl (by omega) ?_; refine jz ?_; refine jjK rfl ?_; refine jjG ?_; refine jjB ?_; refine jjC ?_; refine jO rfl rfl rfl rfl ?_)
  (apply jjR rfl; (intro _; first|exact eI rfl|exact eB rfl|exact eP rfl|exact eS rfl|exact eT rfl|exact eA rfl|exact eU rfl|exact eF rfl|exact eM rfl|exact eN rfl|exact rfl); exact rfl; exact rfl; exact rfl; exact rfl; intro b10 w_b10 hb_b10 hs_b10 hS_b10 hk_b10; have hA_b10 := Bk.of hk_b10)
  (refine jz ?_; refine jjB ?_; refine jjB ?_; refine jjC ?_; refine jm ?_; refine jn rfl ?_; refine jN rfl rfl rfl ?_; refine jh rfl ?_; apply jI; exact eI rfl; refine jz ?_; refine jjD ?_)
  have hE10 : Ext w_b6 w_b10 := hS2.ext.trans hS_b10.ext
  have hw10 : Ext w w_b10 := hE6.trans hE10
  have zE10 := hE10.size
  have z2 := hS2.ext.size
  have hB610 := hB6.ext hE10
  have hA510 := hA5.ext hE10
  have lt5 := hA5.lt
  have lt6 := hB6.lt
  refine W.keep0 [(5, .pointer (some ⟨b5, 0, none⟩)), (6, .pointer (some ⟨b6, 0, none⟩)), (10, .pointer (some ⟨b10, 0, none⟩)), (26, .slice ra rs.length rc), (27, .int .i64 ((rs.length : Nat) : Int)), (28, .int .i64 ((0 : Nat) : Int))] ⟨eP rfl, eP rfl, eP rfl, eS rfl, eI rfl, eI rfl, trivial⟩ fun s0 => ?_
  refine W.loopG (29 :: 30 :: 31 :: 12 :: 32 :: 33 :: 34 :: 35 :: 36 :: 37 :: 38 :: 39 :: 40 :: 41 :: 42 :: 43 :: 44 :: 45 :: 46 :: 47 :: 48 :: 49 :: 50 :: 51 :: 52 :: 53 :: 54 :: 55 :: 57 :: 56 :: 58 :: 59 :: 60 :: 61 :: 63 :: 62 :: 64 :: 65 :: 66 :: 67 :: 68 :: 7 :: 69 :: 70 :: 71 :: 72 :: 73 :: 28 :: []) (fun gg s' V => ∃ (i : Nat) (q : Int), s' 28 = .int .i64 ((i : Nat) : Int) ∧ gg = rs.length - i ∧ i ≤ rs.length ∧ Only b10 w_b10 V ∧ Bk V b10 [.int .i64 p.1, .int .i64 p.2.1, .int .i64 q] 44 ∧ moveR p (rs.drop i) q = moveR p rs p.2.2 ∧ p.2.2 - i ≤ q ∧ q ≤ p.2.2 + i) rs.length ⟨0, p.2.2, rfl, rfl, Nat.zero_le _, .ofExt (.refl _), hA_b10, rfl, by omega, by omega⟩ ?_
  rintro _ sd V ⟨i, q, h28, rfl, hi, hOn, hVq, hmv, hq1, hq2⟩
  refine W.fix h28 ?_
  clear h28
  have zOn := hOn.size
  have hEV : Ext w V := hOn.ext hw10 (by have := hE6.size; omega)
  have hrV : RowI V (.slice ra rs.length rc) true 5 (rs.map encRd) := ⟨hrd.h.ext hEV⟩
  have hB6V : Bk V b6 [.int .i64 0, .int .i64 0, .int .i64 0] 44 := hOn.bk hB610 (by omega)
  have hA5V : At V b5 0 [.int .i64 p.1, .int .i64 p.2.1, .int .i64 p.2.2] := hOn.at_ hA510 (by omega)
  have hAqV : At V b10 0 [.int .i64 p.1, .int .i64 p.2.1, .int .i64 q] := Bk.toAt (h := hVq)
  by_cases hir : i < rs.length
  rotate_left
  · have hz : i = rs.length := by omega
    subst hz
    rw [List.drop_length, moveR] at hmv
    (refine jjB ?_; refine jjC ?_; refine jja rfl rfl (by omega) ?_; refine jz ?_; refine jjB ?_; refine jjK rfl ?_; refine jjE ?_; refine jjB ?_; refine jjC ?_; refine jO rfl rfl rfl rfl ?_)
    refine Ops.store rfl rfl rfl rfl rfl ?_
    intro V2 hp2
    have := Bk.toAt (h := Bk.of hp2.new)
    (apply jJ; exact eI rfl; refine jz ?_; refine jjF ?_)
    refine fin2C rfl rfl rfl rfl rfl rfl ⟨hp2.ext hEV (by have := hE6.size; omega), ?_⟩
    rw [movedS_some he hB hmv.symm]; exact rfl
  (refine jjB ?_; refine jjC ?_; refine jjZ rfl rfl (by omega) ?_; refine jz ?_; refine jjB ?_; refine jjJ rfl ?_; refine jjG ?_; refine jjB ?_; refine jjD ?_; refine jjB ?_; refine jjC ?_; refine jF rfl rfl rfl (map_get (by omega)) ?_; intro _ _ _; refine jQ rfl rfl ?_)
  (apply jjR rfl; (intro _; first|exact eI rfl|exact eB rfl|exact eP rfl|exact eS rfl|exact eT rfl|exact eA rfl|exact eU rfl|exact eF rfl|exact eM rfl|exact eN rfl|exact rfl); exact rfl; exact rfl; exact rfl; exact rfl; intro b12 w_b12 hb_b12 hs_b12 hS_b12 hk_b12; have hA_b12 := Bk.of hk_b12)
  have e12 := hS_b12.ext
  have hOn12 : Only b10 w_b10 w_b12 := hOn.trans (.ofExt e12)
  have hq12 := hVq.ext e12
  by_cases hsk : rs[i].1.1 ≠ p.1 ∨ rs[i].1.2.1 ≠ p.2.1 ∨ p.2.2 < rs[i].1.2.2
  · have hm := moveR_skip (q := q) hir hsk
    by_cases c1 : rs[i].1.1 = p.1
    · by_cases c2 : rs[i].1.2.1 = p.2.1
      · have c3 : p.2.2 < rs[i].1.2.2 := by omega
        (refine jz ?_; refine jjB ?_; refine jjB ?_; refine jjC ?_; refine jm ?_; refine jn rfl ?_; refine jm ?_; refine jn rfl ?_; refine jN rfl rfl rfl ?_; refine jm ?_; refine jn rfl ?_; refine jN rfl rfl rfl ?_; refine jjk rfl rfl (by omega) ?_; apply jI; exact eB rfl; refine jT rfl rfl rfl ?_; refine jm ?_; refine jn rfl ?_; refine jT rfl rfl rfl ?_; refine jm ?_; refine jn rfl ?_; refine jT rfl rfl rfl ?_; refine jN rfl rfl rfl ?_; refine jT rfl rfl rfl ?_; refine jm ?_; refine jn rfl ?_; refine jT rfl rfl rfl ?_; refine jN rfl rfl rfl ?_; refine jT rfl rfl rfl ?_; refine jjk rfl rfl (by omega) ?_; apply jL rfl; exact eB rfl; apply jI; exact eB rfl; refine jT rfl rfl rfl ?_; refine jm ?_; refine jn rfl ?_; refine jT rfl rfl rfl ?_; refine jm ?_; refine jn rfl ?_; refine jT rfl rfl rfl ?_; refine jN rfl rfl rfl ?_; refine jT rfl rfl rfl ?_; refine jm ?_; refine jn rfl ?_; refine jT rfl rfl rfl ?_; refine jN rfl rfl rfl ?_; refine jT rfl rfl rfl ?_; refine jjd rfl rfl (by omega) ?_; apply jL rfl; exact eB rfl; refine jz ?_; refine jjJ rfl ?_; refine jjE ?_; refine jjC ?_; refine jY rfl rfl (by omega) ?_; apply jI; exact eI rfl; refine jz ?_)
        exact ⟨rfl, by ((refine Same.upd rfl ?_; refine Same.upd rfl ?_; refine Same.upd rfl ?_; refine Same.upd rfl ?_; refine Same.upd rfl ?_; refine Same.upd rfl ?_; refine Same.upd rfl ?_; refine Same.upd rfl ?_; refine Same.upd rfl ?_; refine Same.upd rfl ?_; refine Same.upd rfl ?_; refine Same.upd rfl ?_; refine Same.upd rfl ?_; refine Same.upd rfl ?_; refine Same.upd rfl ?_; refine Same.upd rfl ?_; refine Same.upd rfl ?_; refine Same.upd rfl ?_; refine Same.upd rfl ?_; refine Same.upd rfl ?_; refine Same.upd rfl ?_; refine Same.upd rfl ?_; refine Same.upd rfl ?_; refine Same.upd rfl ?_; refine Same.upd rfl ?_; refine Same.upd rfl ?_; refine Same.upd rfl ?_; refine Same.upd rfl ?_; refine Same.upd rfl ?_; exact Same.ovN)), rs.length - (i + 1), by omega, i + 1, q, congrArg (Value.int .i64) (by omega), rfl, by omega, hOn12, hq12, hm.symm.trans hmv, by omega, by omega⟩
      · (refine jz ?_; refine jjB ?_; refine jjB ?_; refine jjC ?_; refine jm ?_; refine jn rfl ?_; refine jm ?_; refine jn rfl ?_; refine jN rfl rfl rfl ?_; refine jm ?_; refine jn rfl ?_; refine jN rfl rfl rfl ?_; refine jjk rfl rfl (by omega) ?_; apply jI; exact eB rfl; refine jT rfl rfl rfl ?_; refine jm ?_; refine jn rfl ?_; refine jT rfl rfl rfl ?_; refine jm ?_; refine jn rfl ?_; refine jT rfl rfl rfl ?_; refine jN rfl rfl rfl ?_; refine jT rfl rfl rfl ?_; refine jm ?_; refine jn rfl ?_; refine jT rfl rfl rfl ?_; refine jN rfl rfl rfl ?_; refine jT rfl rfl rfl ?_; refine jjj rfl rfl (by omega) ?_; apply jL rfl; exact eB rfl; apply jI; exact eB rfl; refine jU rfl rfl rfl rfl ?_; refine jU rfl rfl rfl rfl ?_; refine jU rfl rfl rfl rfl ?_; refine jU rfl rfl rfl rfl ?_; refine jU rfl rfl rfl rfl ?_; refine jU rfl rfl rfl rfl ?_; apply jK rfl; exact eB rfl; refine jz ?_; refine jjJ rfl ?_; refine jjE ?_; refine jjC ?_; refine jY rfl rfl (by omega) ?_; apply jI; exact eI rfl; refine jz ?_)
        exact ⟨rfl, by ((refine Same.upd rfl ?_; refine Same.upd rfl ?_; refine Same.upd rfl ?_; refine Same.upd rfl ?_; refine Same.upd rfl ?_; refine Same.upd rfl ?_; refine Same.upd rfl ?_; refine Same.upd rfl ?_; refine Same.upd rfl ?_; refine Same.upd rfl ?_; refine Same.upd rfl ?_; refine Same.upd rfl ?_; refine Same.upd rfl ?_; refine Same.upd rfl ?_; refine Same.upd rfl ?_; refine Same.upd rfl ?_; refine Same.upd rfl ?_; refine Same.upd rfl ?_; refine Same.upd rfl ?_; refine Same.upd rfl ?_; refine Same.upd rfl ?_; refine Same.upd rfl ?_; refine Same.upd rfl ?_; refine Same.upd rfl ?_; refine Same.upd rfl ?_; refine Same.upd rfl ?_; refine Same.upd rfl ?_; refine Same.upd rfl ?_; refine Same.upd rfl ?_; exact Same.ovN)), rs.length - (i + 1), by omega, i + 1, q, congrArg (Value.int .i64) (by omega), rfl, by omega, hOn12, hq12, hm.symm.trans hmv, by omega, by omega⟩
    · (refine jz ?_; refine jjB ?_; refine jjB ?_; refine jjC ?_; refine jm ?_; refine jn rfl ?_; refine jm ?_; refine jn rfl ?_; refine jN rfl rfl rfl ?_; refine jm ?_; refine jn rfl ?_; refine jN rfl rfl rfl ?_; refine jjj rfl rfl (by omega) ?_; apply jI; exact eB rfl; refine jU rfl rfl rfl rfl ?_; refine jU rfl rfl rfl rfl ?_; refine jU rfl rfl rfl rfl ?_; refine jU rfl rfl rfl rfl ?_; refine jU rfl rfl rfl rfl ?_; refine jU rfl rfl rfl rfl ?_; apply jK rfl; exact eB rfl; apply jI; exact eB rfl; refine jU rfl rfl rfl rfl ?_; refine jU rfl rfl rfl rfl ?_; refine jU rfl rfl rfl rfl ?_; refine jU rfl rfl rfl rfl ?_; refine jU rfl rfl rfl rfl ?_; refine jU rfl rfl rfl rfl ?_; apply jK rfl; exact eB rfl; refine jz ?_; refine jjJ rfl ?_; refine jjE ?_; refine jjC ?_; refine jY rfl rfl (by omega) ?_; apply jI; exact eI rfl; refine jz ?_)
      exact ⟨rfl, by ((refine Same.upd rfl ?_; refine Same.upd rfl ?_; refine Same.upd rfl ?_; refine Same.upd rfl ?_; refine Same.upd rfl ?_; refine Same.upd rfl ?_; refine Same.upd rfl ?_; refine Same.upd rfl ?_; refine Same.upd rfl ?_; refine Same.upd rfl ?_; refine Same.upd rfl ?_; refine Same.upd rfl ?_; refine Same.upd rfl ?_; refine Same.upd rfl ?_; refine Same.upd rfl ?_; refine Same.upd rfl ?_; refine Same.upd rfl ?_; refine Same.upd rfl ?_; refine Same.upd rfl ?_; refine Same.upd rfl ?_; refine Same.upd rfl ?_; refine Same.upd rfl ?_; refine Same.upd rfl ?_; refine Same.upd rfl ?_; refine Same.upd rfl ?_; refine Same.upd rfl ?_; refine Same.upd rfl ?_; refine Same.upd rfl ?_; refine Same.upd rfl ?_; exact Same.ovN)), rs.length - (i + 1), by omega, i + 1, q, congrArg (Value.int .i64) (by omega), rfl, by omega, hOn12, hq12, hm.symm.trans hmv, by omega, by omega⟩
  have c1 : rs[i].1.1 = p.1 := by omega
  have c2 : rs[i].1.2.1 = p.2.1 := by omega
  have c3 : ¬ p.2.2 < rs[i].1.2.2 := by omega
  by_cases hk2 : rs[i].2.1 = 2
  · have hm := moveR_put (q := q) hir hsk hk2
    (refine jz ?_; refine jjB ?_; refine jjB ?_; refine jjC ?_; refine jm ?_; refine jn rfl ?_; refine jm ?_; refine jn rfl ?_; refine jN rfl rfl rfl ?_; refine jm ?_; refine jn rfl ?_; refine jN rfl rfl rfl ?_; refine jjk rfl rfl (by omega) ?_; apply jI; exact eB rfl; refine jT rfl rfl rfl ?_; refine jm ?_; refine jn rfl ?_; refine jT rfl rfl rfl ?_; refine jm ?_; refine jn rfl ?_; refine jT rfl rfl rfl ?_; refine jN rfl rfl rfl ?_; refine jT rfl rfl rfl ?_; refine jm ?_; refine jn rfl ?_; refine jT rfl rfl rfl ?_; refine jN rfl rfl rfl ?_; refine jT rfl rfl rfl ?_; refine jjk rfl rfl (by omega) ?_; apply jL rfl; exact eB rfl; apply jI; exact eB rfl; refine jT rfl rfl rfl ?_; refine jm ?_; refine jn rfl ?_; refine jT rfl rfl rfl ?_; refine jm ?_; refine jn rfl ?_; refine jT rfl rfl rfl ?_; refine jN rfl rfl rfl ?_; refine jT rfl rfl rfl ?_; refine jm ?_; refine jn rfl ?_; refine jT rfl rfl rfl ?_; refine jN rfl rfl rfl ?_; refine jT rfl rfl rfl ?_; refine jje rfl rfl (by omega) ?_; apply jL rfl; exact eB rfl; refine jz ?_; refine jjK rfl ?_; refine jjG ?_; refine jjB ?_; refine jjC ?_; refine jm ?_; refine jn rfl ?_; refine jN rfl rfl rfl ?_; refine jz ?_; refine jjD ?_; refine jjB ?_; refine jjC ?_; refine jjh rfl rfl (by omega) ?_; apply jJ; exact eB rfl; refine jz ?_; refine jjJ rfl ?_; refine jjC ?_; refine jm ?_; refine jn rfl ?_; refine jN rfl rfl rfl ?_; refine jY rfl rfl (by omega) ?_; refine jm ?_; refine jn rfl ?_)
    refine Ops.storeC (cs := [.int .i64 p.1, .int .i64 p.2.1, .int .i64 q]) (j := 2) (v := .int .i64 (q + 1)) rfl rfl rfl rfl (show 2 < 3 by omega) ?_
    intro V3 hp3
    (refine jz ?_; refine jjC ?_; refine jY rfl rfl (by omega) ?_; apply jI; exact eI rfl; refine jz ?_)
    exact ⟨rfl, by ((refine Same.upd rfl ?_; refine Same.upd rfl ?_; refine Same.upd rfl ?_; refine Same.upd rfl ?_; refine Same.upd rfl ?_; refine Same.upd rfl ?_; refine Same.upd rfl ?_; refine Same.upd rfl ?_; refine Same.upd rfl ?_; refine Same.upd rfl ?_; refine Same.upd rfl ?_; refine Same.upd rfl ?_; refine Same.upd rfl ?_; refine Same.upd rfl ?_; refine Same.upd rfl ?_; refine Same.upd rfl ?_; refine Same.upd rfl ?_; refine Same.upd rfl ?_; refine Same.upd rfl ?_; refine Same.upd rfl ?_; refine Same.upd rfl ?_; refine Same.upd rfl ?_; refine Same.upd rfl ?_; refine Same.upd rfl ?_; refine Same.upd rfl ?_; refine Same.upd rfl ?_; refine Same.upd rfl ?_; refine Same.upd rfl ?_; refine Same.upd rfl ?_; refine Same.upd rfl ?_; refine Same.upd rfl ?_; refine Same.upd rfl ?_; refine Same.upd rfl ?_; refine Same.upd rfl ?_; refine Same.upd rfl ?_; refine Same.upd rfl ?_; refine Same.upd rfl ?_; exact Same.ovN)), rs.length - (i + 1), by omega, i + 1, q + 1, congrArg (Value.int .i64) (by omega), rfl, by omega, hOn12.trans (.ofPut hp3), ⟨hp3.new⟩, hm.symm.trans hmv, by omega, by omega⟩
  by_cases hk1 : rs[i].2.1 = 1
  rotate_left
  · have hm := moveR_other (q := q) hir hsk hk1 hk2
    (refine jz ?_; refine jjB ?_; refine jjB ?_; refine jjC ?_; refine jm ?_; refine jn rfl ?_; refine jm ?_; refine jn rfl ?_; refine jN rfl rfl rfl ?_; refine jm ?_; refine jn rfl ?_; refine jN rfl rfl rfl ?_; refine jjk rfl rfl (by omega) ?_; apply jI; exact eB rfl; refine jT rfl rfl rfl ?_; refine jm ?_; refine jn rfl ?_; refine jT rfl rfl rfl ?_; refine jm ?_; refine jn rfl ?_; refine jT rfl rfl rfl ?_; refine jN rfl rfl rfl ?_; refine jT rfl rfl rfl ?_; refine jm ?_; refine jn rfl ?_; refine jT rfl rfl rfl ?_; refine jN rfl rfl rfl ?_; refine jT rfl rfl rfl ?_; refine jjk rfl rfl (by omega) ?_; apply jL rfl; exact eB rfl; apply jI; exact eB rfl; refine jT rfl rfl rfl ?_; refine jm ?_; refine jn rfl ?_; refine jT rfl rfl rfl ?_; refine jm ?_; refine jn rfl ?_; refine jT rfl rfl rfl ?_; refine jN rfl rfl rfl ?_; refine jT rfl rfl rfl ?_; refine jm ?_; refine jn rfl ?_; refine jT rfl rfl rfl ?_; refine jN rfl rfl rfl ?_; refine jT rfl rfl rfl ?_; refine jje rfl rfl (by omega) ?_; apply jL rfl; exact eB rfl; refine jz ?_; refine jjK rfl ?_; refine jjG ?_; refine jjB ?_; refine jjC ?_; refine jm ?_; refine jn rfl ?_; refine jN rfl rfl rfl ?_; refine jz ?_; refine jjD ?_; refine jjB ?_; refine jjC ?_; refine jji rfl rfl (by omega) ?_; apply jJ; exact eB rfl; refine jz ?_; refine jjK rfl ?_; refine jjB ?_; refine jjC ?_; refine jji rfl rfl (by omega) ?_; apply jJ; exact eB rfl; refine jz ?_; refine jjK rfl ?_; refine jjG ?_; refine jjC ?_; refine jY rfl rfl (by omega) ?_; apply jI; exact eI rfl; refine jz ?_)
    exact ⟨rfl, by ((refine Same.upd rfl ?_; refine Same.upd rfl ?_; refine Same.upd rfl ?_; refine Same.upd rfl ?_; refine Same.upd rfl ?_; refine Same.upd rfl ?_; refine Same.upd rfl ?_; refine Same.upd rfl ?_; refine Same.upd rfl ?_; refine Same.upd rfl ?_; refine Same.upd rfl ?_; refine Same.upd rfl ?_; refine Same.upd rfl ?_; refine Same.upd rfl ?_; refine Same.upd rfl ?_; refine Same.upd rfl ?_; refine Same.upd rfl ?_; refine Same.upd rfl ?_; refine Same.upd rfl ?_; refine Same.upd rfl ?_; refine Same.upd rfl ?_; refine Same.upd rfl ?_; refine Same.upd rfl ?_; refine Same.upd rfl ?_; refine Same.upd rfl ?_; refine Same.upd rfl ?_; refine Same.upd rfl ?_; refine Same.upd rfl ?_; refine Same.upd rfl ?_; refine Same.upd rfl ?_; refine Same.upd rfl ?_; refine Same.upd rfl ?_; refine Same.upd rfl ?_; refine Same.upd rfl ?_; refine Same.upd rfl ?_; exact Same.ovN)), rs.length - (i + 1), by omega, i + 1, q, congrArg (Value.int .i64) (by omega), rfl, by omega, hOn12, hq12, hm.symm.trans hmv, by omega, by omega⟩
  by_cases hw : rs[i].1.2.2 = p.2.2
  · have hm := moveR_gone (q := q) hir hsk hk1 hw
    have hpe : rs[i].1 = p := Prod.ext c1 (Prod.ext c2 hw)
    (refine jz ?_; refine jjB ?_; refine jjB ?_; refine jjC ?_; refine jm ?_; refine jn rfl ?_; refine jm ?_; refine jn rfl ?_; refine jN rfl rfl rfl ?_; refine jm ?_; refine jn rfl ?_; refine jN rfl rfl rfl ?_; refine jjk rfl rfl (by omega) ?_; apply jI; exact eB rfl; refine jT rfl rfl rfl ?_; refine jm ?_; refine jn rfl ?_; refine jT rfl rfl rfl ?_; refine jm ?_; refine jn rfl ?_; refine jT rfl rfl rfl ?_; refine jN rfl rfl rfl ?_; refine jT rfl rfl rfl ?_; refine jm ?_; refine jn rfl ?_; refine jT rfl rfl rfl ?_; refine jN rfl rfl rfl ?_; refine jT rfl rfl rfl ?_; refine jjk rfl rfl (by omega) ?_; apply jL rfl; exact eB rfl; apply jI; exact eB rfl; refine jT rfl rfl rfl ?_; refine jm ?_; refine jn rfl ?_; refine jT rfl rfl rfl ?_; refine jm ?_; refine jn rfl ?_; refine jT rfl rfl rfl ?_; refine jN rfl rfl rfl ?_; refine jT rfl rfl rfl ?_; refine jm ?_; refine jn rfl ?_; refine jT rfl rfl rfl ?_; refine jN rfl rfl rfl ?_; refine jT rfl rfl rfl ?_; refine jje rfl rfl (by omega) ?_; apply jL rfl; exact eB rfl; refine jz ?_; refine jjK rfl ?_; refine jjG ?_; refine jjB ?_; refine jjC ?_; refine jm ?_; refine jn rfl ?_; refine jN rfl rfl rfl ?_; refine jz ?_; refine jjD ?_; refine jjB ?_; refine jjC ?_; refine jji rfl rfl (by omega) ?_; apply jJ; exact eB rfl; refine jz ?_; refine jjK rfl ?_; refine jjB ?_; refine jjC ?_; refine jjh rfl rfl (by omega) ?_; apply jJ; exact eB rfl; refine jz ?_; refine jjJ rfl ?_; refine jjB ?_; refine jjB ?_; refine jjC ?_; refine jm ?_; refine jn rfl ?_; refine jO rfl rfl rfl rfl ?_; refine jO rfl rfl rfl rfl ?_)
    refine Ops.eqlT (enc := encPl) rs[i].1 p rfl rfl ?_
    rw [decide_eq_true hpe]
    (refine jz ?_; refine jjJ rfl ?_; refine jjB ?_; refine jjC ?_)
    (refine jjS (cells := [.int .i64 0, .int .i64 0, .int .i64 0]) ?_ ?_; exact rfl)
    skip
    refine Ops.store rfl rfl rfl rfl rfl ?_
    intro V2 hp2
    have := Bk.toAt (h := Bk.of hp2.new)
    (apply jJ; exact eI rfl; refine jz ?_; refine jjF ?_)
    refine fin2C rfl rfl rfl rfl rfl rfl ⟨hp2.ext (hEV.trans e12) (by have := hE6.size; omega), ?_⟩
    rw [movedS_none he hB (hmv.symm.trans hm)]; exact rfl
  · have hm := moveR_omit (q := q) hir hsk hk1 hw
    have hpe : ¬ rs[i].1 = p := fun e => hw (by rw [e])
    (refine jz ?_; refine jjB ?_; refine jjB ?_; refine jjC ?_; refine jm ?_; refine jn rfl ?_; refine jm ?_; refine jn rfl ?_; refine jN rfl rfl rfl ?_; refine jm ?_; refine jn rfl ?_; refine jN rfl rfl rfl ?_; refine jjk rfl rfl (by omega) ?_; apply jI; exact eB rfl; refine jT rfl rfl rfl ?_; refine jm ?_; refine jn rfl ?_; refine jT rfl rfl rfl ?_; refine jm ?_; refine jn rfl ?_; refine jT rfl rfl rfl ?_; refine jN rfl rfl rfl ?_; refine jT rfl rfl rfl ?_; refine jm ?_; refine jn rfl ?_; refine jT rfl rfl rfl ?_; refine jN rfl rfl rfl ?_; refine jT rfl rfl rfl ?_; refine jjk rfl rfl (by omega) ?_; apply jL rfl; exact eB rfl; apply jI; exact eB rfl; refine jT rfl rfl rfl ?_; refine jm ?_; refine jn rfl ?_; refine jT rfl rfl rfl ?_; refine jm ?_; refine jn rfl ?_; refine jT rfl rfl rfl ?_; refine jN rfl rfl rfl ?_; refine jT rfl rfl rfl ?_; refine jm ?_; refine jn rfl ?_; refine jT rfl rfl rfl ?_; refine jN rfl rfl rfl ?_; refine jT rfl rfl rfl ?_; refine jje rfl rfl (by omega) ?_; apply jL rfl; exact eB rfl; refine jz ?_; refine jjK rfl ?_; refine jjG ?_; refine jjB ?_; refine jjC ?_; refine jm ?_; refine jn rfl ?_; refine jN rfl rfl rfl ?_; refine jz ?_; refine jjD ?_; refine jjB ?_; refine jjC ?_; refine jji rfl rfl (by omega) ?_; apply jJ; exact eB rfl; refine jz ?_; refine jjK rfl ?_; refine jjB ?_; refine jjC ?_; refine jjh rfl rfl (by omega) ?_; apply jJ; exact eB rfl; refine jz ?_; refine jjJ rfl ?_; refine jjB ?_; refine jjB ?_; refine jjC ?_; refine jm ?_; refine jn rfl ?_; refine jO rfl rfl rfl rfl ?_; refine jO rfl rfl rfl rfl ?_)
    refine Ops.eqlT (enc := encPl) rs[i].1 p rfl rfl ?_
    rw [decide_eq_false hpe]
    (refine jz ?_; refine jjK rfl ?_; refine jjG ?_; refine jjC ?_; refine jm ?_; refine jn rfl ?_; refine jN rfl rfl rfl ?_; refine jZ rfl rfl (by omega) ?_; refine jm ?_; refine jn rfl ?_)
    refine Ops.storeC (cs := [.int .i64 p.1, .int .i64 p.2.1, .int .i64 q]) (j := 2) (v := .int .i64 (q - 1)) rfl rfl rfl rfl (show 2 < 3 by omega) ?_
    intro V3 hp3
    (refine jz ?_; refine jjC ?_; refine jY rfl rfl (by omega) ?_; apply jI; exact eI rfl; refine jz ?_)
    exact ⟨rfl, by ((refine Same.upd rfl ?_; refine Same.upd rfl ?_; refine Same.upd rfl ?_; refine Same.upd rfl ?_; refine Same.upd rfl ?_; refine Same.upd rfl ?_; refine Same.upd rfl ?_; refine Same.upd rfl ?_; refine Same.upd rfl ?_; refine Same.upd rfl ?_; refine Same.upd rfl ?_; refine Same.upd rfl ?_; refine Same.upd rfl ?_; refine Same.upd rfl ?_; refine Same.upd rfl ?_; refine Same.upd rfl ?_; refine Same.upd rfl ?_; refine Same.upd rfl ?_; refine Same.upd rfl ?_; refine Same.upd rfl ?_; refine Same.upd rfl ?_; refine Same.upd rfl ?_; refine Same.upd rfl ?_; refine Same.upd rfl ?_; refine Same.upd rfl ?_; refine Same.upd rfl ?_; refine Same.upd rfl ?_; refine Same.upd rfl ?_; refine Same.upd rfl ?_; refine Same.upd rfl ?_; refine Same.upd rfl ?_; refine Same.upd rfl ?_; refine Same.upd rfl ?_; refine Same.upd rfl ?_; refine Same.upd rfl ?_; refine Same.upd rfl ?_; refine Same.upd rfl ?_; refine Same.upd rfl ?_; refine Same.upd rfl ?_; refine Same.upd rfl ?_; refine Same.upd rfl ?_; refine Same.upd rfl ?_; refine Same.upd rfl ?_; exact Same.ovN)), rs.length - (i + 1), by omega, i + 1, q - 1, congrArg (Value.int .i64) (by omega), rfl, by omega, hOn12.trans (.ofPut hp3), ⟨hp3.new⟩, hm.symm.trans hmv, by omega, by omega⟩
end Go.Proofs.YtpbkphaceljclaaGreatDoor

/- Comparisons of lists, element by element. -/
namespace Go.Proofs.YtpbkphaceljclaaGreatDoor
open Go.RowKit

set_option maxHeartbeats 1000000 in
theorem same_places1 (a1 a2 : Option Addr) (c1 c2 n1 n2 : Nat) (xs ys : List Pl) (w : World) (h1 : xs.length = n1) (h2 : ys.length = n2) (hx : RowV w true 3 (.slice a1 n1 c1) (xs.map encPl)) (hy : RowV w true 3 (.slice a2 n2 c2) (ys.map encPl)) : Ct Tryz.prog 43 [.slice a1 n1 c1, .slice a2 n2 c2] w fun v _ => v = .bool (decide (xs = ys)) := by
  subst h1 h2
  have hlx := hx.len
  have hly := hy.len
  rw [List.length_map] at hlx hly
  refine Ct.ofW (by simp) ?_
  by_cases hl : xs.length = ys.length
  rotate_left
  · (refine jjB ?_; refine jjC ?_; apply jJ; exact eB rfl; refine jz ?_; refine jjB ?_; refine jjB ?_; refine jjC ?_; apply jI; exact eS rfl; refine jh rfl ?_; apply jI; exact eS rfl; refine jh rfl ?_; refine jjj rfl rfl (by omega) ?_; refine jz ?_; refine jjJ rfl ?_; refine jjB ?_; refine jjC ?_; apply jJ; exact eB rfl; refine jz ?_; refine jjF ?_; refine jB rfl rfl ⟨inferInstance, ?_⟩)
    rw [decide_eq_false (fun e => hl (by rw [e]))]; exact rfl
  (refine jjB ?_; refine jjC ?_; apply jJ; exact eB rfl; refine jz ?_; refine jjB ?_; refine jjB ?_; refine jjC ?_; apply jI; exact eS rfl; refine jh rfl ?_; apply jI; exact eS rfl; refine jh rfl ?_; refine jjk rfl rfl (by omega) ?_; refine jz ?_; refine jjK rfl ?_; refine jjG ?_; refine jjB ?_; refine jjB ?_; refine jjC ?_; apply jJ; exact eI rfl; refine jz ?_; refine jjD ?_)
  refine W.keep0 [(0, .slice a1 xs.length c1), (1, .slice a2 ys.length c2), (5, .int .i64 ((0 : Nat) : Int))] ⟨eS rfl, eS rfl, eI rfl, trivial⟩ fun s0 => ?_
  refine W.loop (11 :: 12 :: 13 :: 14 :: 17 :: 18 :: 19 :: 20 :: 21 :: 22 :: 23 :: 24 :: 25 :: 4 :: 15 :: 16 :: 5 :: []) (fun g s' V => ∃ k : Nat, s' 5 = .int .i64 ((k : Nat) : Int) ∧ g = xs.length - k ∧ k ≤ xs.length ∧ ∀ (j : Nat) (hj : j < xs.length), j < k → xs[j] = ys[j]'(by omega)) xs.length ⟨0, rfl, rfl, Nat.zero_le _, by intros; omega⟩ ?_
  rintro _ sd w1 hS1 ⟨k, h5, rfl, hk, hpre⟩
  refine W.fix h5 ?_
  clear h5
  by_cases hkl : k < xs.length
  rotate_left
  · have e : xs = ys := List.ext_getElem hl fun j hj _ => hpre j hj (by omega)
    (refine jjB ?_; refine jjB ?_; refine jjC ?_; apply jI; exact eI rfl; apply jI; exact eS rfl; refine jh rfl ?_; refine jja rfl rfl (by omega) ?_; refine jz ?_; refine jjK rfl ?_; refine jjE ?_; refine jjB ?_; refine jjC ?_; apply jJ; exact eB rfl; refine jz ?_; refine jjF ?_; refine jB rfl rfl ⟨inferInstance, ?_⟩)
    rw [decide_eq_true e]; exact rfl
  have hkl2 : k < ys.length := by omega
  obtain ⟨b1, o1, rfl, hA1⟩ := hx.place' (map_get hkl)
  obtain ⟨b2, o2, rfl, hA2⟩ := hy.place' (map_get hkl2)
  (refine jjB ?_; refine jjB ?_; refine jjC ?_; apply jI; exact eI rfl; apply jI; exact eS rfl; refine jh rfl ?_; refine jjZ rfl rfl (by omega) ?_; refine jz ?_; refine jjJ rfl ?_; refine jjG ?_; refine jjB ?_; refine jjD ?_; refine jjB ?_)
  refine W.draw (fun w' => Ext w w') ?_
  intro w2 hS2
  have hE2 : Ext w w2 := hS1.ext.trans hS2.ext
  (refine jjV [0, 1, 2, 3, 4, 5, 6, 7] ?_ ?_ ?_; (decide +kernel); (exact hE2); (((apply jjT; exact rfl; rintro w' hq; have := hq.toStep; apply jI; exact eS rfl; refine jz ?_; exact ⟨rfl, rfl⟩; apply jjT; exact rfl; rintro w' hq; have := hq.toStep; apply jI; exact eI rfl; refine jz ?_; exact ⟨rfl, rfl⟩; apply jjT; exact rfl; rintro w' hq; have := hq.toStep; refine jH _ rfl rfl rfl (by omega) ?_; refine jz ?_; exact ⟨rfl, rfl⟩; apply jjT; exact rfl; rintro w' hq; have := hq.toStep; refine jQ rfl rfl ?_; refine jz ?_; exact ⟨rfl, rfl⟩; apply jjT; exact rfl; rintro w' hq; have := hq.toStep; apply jI; exact eS rfl; refine jz ?_; exact ⟨rfl, rfl⟩; apply jjT; exact rfl; rintro w' hq; have := hq.toStep; apply jI; exact eI rfl; refine jz ?_; exact ⟨rfl, rfl⟩; apply jjT; exact rfl; rintro w' hq; have := hq.toStep; refine jH _ rfl rfl rfl (by omega) ?_; refine jz ?_; exact ⟨rfl, rfl⟩; apply jjT; exact rfl; rintro w' hq; have := hq.toStep; refine jQ rfl rfl ?_; refine jz ?_; exact ⟨rfl, rfl⟩; refine jjU ?_))))
  by_cases hkj : xs[k] = ys[k]
  · refine jjV [8] (by decide +kernel) hE2 (jjT (v := .bool false) rfl (fun w' q1 => ?_) (jjU ?_)); (refine Ops.neqT (enc := encPl) xs[k] ys[k] rfl rfl ?_; rw [decide_eq_false (by simp [hkj])]; refine jz ?_; exact ⟨rfl, rfl⟩)
    refine jjX (by decide +kernel) hE2 ?_
    (refine jjK rfl ?_; refine jjG ?_; refine jjC ?_; apply jI; exact eI rfl; refine jY rfl rfl (by omega) ?_; apply jJ; exact eI rfl; refine jz ?_)
    refine ⟨rfl, by ((refine Same.upd rfl ?_; refine Same.upd rfl ?_; refine Same.upd rfl ?_; refine Same.upd rfl ?_; refine Same.upd rfl ?_; refine Same.upd rfl ?_; refine Same.upd rfl ?_; refine Same.upd rfl ?_; refine Same.upd rfl ?_; refine Same.upd rfl ?_; refine Same.upd rfl ?_; refine Same.upd rfl ?_; refine Same.upd rfl ?_; refine Same.upd rfl ?_; refine Same.upd rfl ?_; refine Same.upd rfl ?_; refine Same.upd rfl ?_; exact Same.ovN)), xs.length - (k + 1), by omega, inferInstance, k + 1, congrArg (Value.int .i64) (by omega), rfl, by omega, fun j hj hjk => ?_⟩
    by_cases e : j = k
    · subst e; exact hkj
    · exact hpre j hj (by omega)
  · refine jjV [8] (by decide +kernel) hE2 (jjT (v := .bool true) rfl (fun w' q1 => ?_) (jjU ?_)); (refine Ops.neqT (enc := encPl) xs[k] ys[k] rfl rfl ?_; rw [decide_eq_true hkj]; refine jz ?_; exact ⟨rfl, rfl⟩)
    refine jjX (by decide +kernel) hE2 ?_
    (refine jjJ rfl ?_; refine jjB ?_; refine jjC ?_; apply jJ; exact eB rfl; refine jz ?_; refine jjF ?_; refine jB rfl rfl ⟨inferInstance, ?_⟩)
    rw [decide_eq_false (fun e => hkj (by simp only [e]))]; exact rfl

set_option maxHeartbeats 1000000 in
theorem same_ints3 (a1 a2 : Option Addr) (c1 c2 n1 n2 : Nat) (xs ys : List Int) (w : World) (h1 : xs.length = n1) (h2 : ys.length = n2) (hx : RowV w false 1 (.slice a1 n1 c1) (xs.map intV)) (hy : RowV w false 1 (.slice a2 n2 c2) (ys.map intV)) : Ct Tryz.prog 44 [.slice a1 n1 c1, .slice a2 n2 c2] w fun v _ => v = .bool (decide (xs = ys)) := by
  subst h1 h2
  have hlx := hx.len
  have hly := hy.len
  rw [List.length_map] at hlx hly
  refine Ct.ofW (by simp) ?_
  by_cases hl : xs.length = ys.length
  rotate_left
  · (refine jjB ?_; refine jjC ?_; apply jJ; exact eB rfl; refine jz ?_; refine jjB ?_; refine jjB ?_; refine jjC ?_; apply jI; exact eS rfl; refine jh rfl ?_; apply jI; exact eS rfl; refine jh rfl ?_; refine jjj rfl rfl (by omega) ?_; refine jz ?_; refine jjJ rfl ?_; refine jjB ?_; refine jjC ?_; apply jJ; exact eB rfl; refine jz ?_; refine jjF ?_; refine jB rfl rfl ⟨inferInstance, ?_⟩)
    rw [decide_eq_false (fun e => hl (by rw [e]))]; exact rfl
  (refine jjB ?_; refine jjC ?_; apply jJ; exact eB rfl; refine jz ?_; refine jjB ?_; refine jjB ?_; refine jjC ?_; apply jI; exact eS rfl; refine jh rfl ?_; apply jI; exact eS rfl; refine jh rfl ?_; refine jjk rfl rfl (by omega) ?_; refine jz ?_; refine jjK rfl ?_; refine jjG ?_; refine jjB ?_; refine jjB ?_; refine jjC ?_; apply jJ; exact eI rfl; refine jz ?_; refine jjD ?_)
  refine W.keep0 [(0, .slice a1 xs.length c1), (1, .slice a2 ys.length c2), (5, .int .i64 ((0 : Nat) : Int))] ⟨eS rfl, eS rfl, eI rfl, trivial⟩ fun s0 => ?_
  refine W.loop (11 :: 12 :: 13 :: 14 :: 17 :: 18 :: 19 :: 20 :: 21 :: 22 :: 23 :: 24 :: 25 :: 4 :: 15 :: 16 :: 5 :: []) (fun g s' V => ∃ k : Nat, s' 5 = .int .i64 ((k : Nat) : Int) ∧ g = xs.length - k ∧ k ≤ xs.length ∧ ∀ (j : Nat) (hj : j < xs.length), j < k → xs[j] = ys[j]'(by omega)) xs.length ⟨0, rfl, rfl, Nat.zero_le _, by intros; omega⟩ ?_
  rintro _ sd w1 hS1 ⟨k, h5, rfl, hk, hpre⟩
  refine W.fix h5 ?_
  clear h5
  by_cases hkl : k < xs.length
  rotate_left
  · have e : xs = ys := List.ext_getElem hl fun j hj _ => hpre j hj (by omega)
    (refine jjB ?_; refine jjB ?_; refine jjC ?_; apply jI; exact eI rfl; apply jI; exact eS rfl; refine jh rfl ?_; refine jja rfl rfl (by omega) ?_; refine jz ?_; refine jjK rfl ?_; refine jjE ?_; refine jjB ?_; refine jjC ?_; apply jJ; exact eB rfl; refine jz ?_; refine jjF ?_; refine jB rfl rfl ⟨inferInstance, ?_⟩)
    rw [decide_eq_true e]; exact rfl
  have hkl2 : k < ys.length := by omega
  obtain ⟨b1, o1, rfl, hA1⟩ := hx.place' (map_get hkl)
  obtain ⟨b2, o2, rfl, hA2⟩ := hy.place' (map_get hkl2)
  rw [Nat.mul_one] at hA1 hA2
  (refine jjB ?_; refine jjB ?_; refine jjC ?_; apply jI; exact eI rfl; apply jI; exact eS rfl; refine jh rfl ?_; refine jjZ rfl rfl (by omega) ?_; refine jz ?_; refine jjJ rfl ?_; refine jjG ?_; refine jjB ?_; refine jjD ?_; refine jjB ?_)
  refine W.draw (fun w' => Ext w w') ?_
  intro w2 hS2
  have hE2 : Ext w w2 := hS1.ext.trans hS2.ext
  (refine jjV [0, 1, 2, 3, 4, 5, 6, 7] ?_ ?_ ?_; (decide +kernel); (exact hE2); (((apply jjT; exact rfl; rintro w' hq; have := hq.toStep; apply jI; exact eS rfl; refine jz ?_; exact ⟨rfl, rfl⟩; apply jjT; exact rfl; rintro w' hq; have := hq.toStep; apply jI; exact eI rfl; refine jz ?_; exact ⟨rfl, rfl⟩; apply jjT; exact rfl; rintro w' hq; have := hq.toStep; refine jG rfl rfl rfl (by omega) ?_; refine jz ?_; exact ⟨rfl, rfl⟩; apply jjT; exact rfl; rintro w' hq; have := hq.toStep; refine jQ rfl rfl ?_; refine jz ?_; exact ⟨rfl, rfl⟩; apply jjT; exact rfl; rintro w' hq; have := hq.toStep; apply jI; exact eS rfl; refine jz ?_; exact ⟨rfl, rfl⟩; apply jjT; exact rfl; rintro w' hq; have := hq.toStep; apply jI; exact eI rfl; refine jz ?_; exact ⟨rfl, rfl⟩; apply jjT; exact rfl; rintro w' hq; have := hq.toStep; refine jG rfl rfl rfl (by omega) ?_; refine jz ?_; exact ⟨rfl, rfl⟩; apply jjT; exact rfl; rintro w' hq; have := hq.toStep; refine jQ rfl rfl ?_; refine jz ?_; exact ⟨rfl, rfl⟩; refine jjU ?_))))
  by_cases hkj : xs[k] = ys[k]
  · refine jjV [8] (by decide +kernel) hE2 (jjT (v := .bool false) rfl (fun w' q1 => ?_) (jjU ?_)); (refine jc (a := xs[k]) (b := ys[k]) rfl rfl ?_; rw [decide_eq_false (by simp [hkj])]; refine jz ?_; exact ⟨rfl, rfl⟩)
    refine jjX (by decide +kernel) hE2 ?_
    (refine jjK rfl ?_; refine jjG ?_; refine jjC ?_; apply jI; exact eI rfl; refine jY rfl rfl (by omega) ?_; apply jJ; exact eI rfl; refine jz ?_)
    refine ⟨rfl, by ((refine Same.upd rfl ?_; refine Same.upd rfl ?_; refine Same.upd rfl ?_; refine Same.upd rfl ?_; refine Same.upd rfl ?_; refine Same.upd rfl ?_; refine Same.upd rfl ?_; refine Same.upd rfl ?_; refine Same.upd rfl ?_; refine Same.upd rfl ?_; refine Same.upd rfl ?_; refine Same.upd rfl ?_; refine Same.upd rfl ?_; refine Same.upd rfl ?_; refine Same.upd rfl ?_; refine Same.upd rfl ?_; refine Same.upd rfl ?_; exact Same.ovN)), xs.length - (k + 1), by omega, inferInstance, k + 1, congrArg (Value.int .i64) (by omega), rfl, by omega, fun j hj hjk => ?_⟩
    by_cases e : j = k
    · subst e; exact hkj
    · exact hpre j hj (by omega)
  · refine jjV [8] (by decide +kernel) hE2 (jjT (v := .bool true) rfl (fun w' q1 => ?_) (jjU ?_)); (refine jc (a := xs[k]) (b := ys[k]) rfl rfl ?_; rw [decide_eq_true hkj]; refine jz ?_; exact ⟨rfl, rfl⟩)
    refine jjX (by decide +kernel) hE2 ?_
    (refine jjJ rfl ?_; refine jjB ?_; refine jjC ?_; apply jJ; exact eB rfl; refine jz ?_; refine jjF ?_; refine jB rfl rfl ⟨inferInstance, ?_⟩)
    rw [decide_eq_false (fun e => hkj (by simp only [e]))]; exact rfl
end Go.Proofs.YtpbkphaceljclaaGreatDoor

/- The reference: copies that are great, their twins, comparisons; a reading. -/
namespace Go.Proofs.YtpbkphaceljclaaGreatDoor
open Go.RowKit

def greatR (rs : List Rd) : Bool := decide (30 < rs.length) || rs.any fun r => decide (40 < r.2.2.size)
theorem small_of_greatR {rs : List Rd} (h : greatR rs = false) (hb : ∀ r ∈ rs, 0 ≤ r.2.1 ∧ r.2.1 ≤ 255) : SmallR rs := by
  simp only [greatR, Bool.or_eq_false_iff, decide_eq_false_iff_not, List.any_eq_false, decide_eq_true_eq] at h
  exact ⟨by omega, fun r hr => by have := h.2 r hr; omega, hb⟩
end Go.Proofs.YtpbkphaceljclaaGreatDoor

/- The statements' examples: alive. -/
namespace Go.Proofs.YtpbkphaceljclaaGreatDoor
open Go.RowKit

theorem sea_small {cs : List Ch} (h : txF cs = seaT) : SmallT cs := small_of_great (by rw [h]; kernel_rfl)
theorem smallS_lit {p : Pl} {a b c : ByteArray} (h : (Nat.ble a.size 1000 && (Nat.ble b.size 1000 && Nat.ble c.size 1000)) = true) : SmallS (p, a, b, c) := by
  simp only [Bool.and_eq_true, Nat.ble_eq] at h
  exact h
theorem small_of_right {x : Slp} (h : slipB x = true) : SmallS x := by
  simp only [slipB, wordsB, wordB, Bool.and_eq_true, Bool.or_eq_true, decide_eq_true_eq] at h
  exact ⟨by omega, by omega, by omega⟩
set_option maxHeartbeats 16000000 in
theorem alive_law3 (w : World) [hgs : At w 0 0 sidesC] [hgk : At w 1 0 kindsC] [hmx : MxI w] : Ct Tryz.prog 13 [] w fun v _ => v = .bool true := by
  refine Ct.ofW (by simp) ?_
  (refine jjB ?_; refine jjC ?_; apply jJ; exact eB rfl; refine jz ?_; refine jjB ?_; refine jjC ?_)
  refine jjQ (sea_law3 _) rfl rfl ?_
  rintro _ w1 hS1 ⟨a1, c1, cs1, rfl, hR1, hT1, hx1⟩
  have i1 := RowI.mk hR1
  skip
  refine jjQ (cut_law3 3 _) rfl rfl ?_
  rintro _ w2 hS2 rfl
  have hal := All_slip a1 c1 cs1 14 3 w2 (sea_small hx1) (by omega)
  rw [hx1, sea_ask3] at hal
  skip
  refine jjQ hal rfl rfl ?_
  rintro _ w3 hS3 ⟨lv, rfl, hOl⟩
  obtain ⟨la, lc, rfl⟩ := hOl.slice
  rw [List.length_map, sea_allR] at hOl ⊢
  (apply jI; exact eU rfl; refine ju rfl rfl ?_; refine ju rfl rfl ?_; apply jJ; exact eS rfl; apply jJ; exact eI rfl; refine jz ?_; refine jjB ?_; refine jjC ?_)
  refine jjQ (sea_law3 _) rfl rfl ?_
  rintro _ w4 hS4 ⟨a4, c4, cs4, rfl, hR4, hT4, hx4⟩
  have i4 := RowI.mk hR4
  skip
  refine jjQ (cut_law3 3 _) rfl rfl ?_
  rintro _ w5 hS5 rfl
  skip
  refine jjQ (at_law3 0 1 2 _) rfl rfl ?_
  rintro _ w6 hS6 rfl
  skip
  refine jjQ (at_law3 1 0 0 _) rfl rfl ?_
  rintro _ w7 hS7 rfl
  have hpt := Part_slip a4 c4 cs4 14 3 w7 (0, 1, 2) (1, 0, 0) (sea_small hx4) (by omega)
  rw [hx4, sea_part] at hpt
  skip
  refine jjQ hpt rfl rfl ?_
  rintro _ w8 hS8 ⟨mv, rfl, hOm⟩
  obtain ⟨ma, mc, rfl⟩ := hOm.slice
  have hml : (((allS seaT 3 14).take 8).drop 6).length = 2 := by rw [List.length_drop, List.length_take, sea_len]; rfl
  rw [List.length_map] at hOm ⊢
  have hmr := sea_right
  have hms := sea_miss
  generalize hM : ((allS seaT 3 14).take 8).drop 6 = M at *
  (apply jI; exact eU rfl; refine ju rfl rfl ?_; refine ju rfl rfl ?_; apply jJ; exact eS rfl; apply jJ; exact eI rfl; refine jz ?_; refine jjB ?_; refine jjC ?_)
  refine jjQ (sea_law3 _) rfl rfl ?_
  rintro _ w9 hS9 ⟨a9, c9, cs9, rfl, hR9, hT9, hx9⟩
  have i9 := RowI.mk hR9
  skip
  (refine jjS (cells := [.int .i64 0, .int .i64 0, .int .i64 0, .string wSea, .string wThe, .string wNo]) ?_ ?_; exact rfl)
  have hwh := Where_slip a9 c9 cs9 w9 ((0, 0, 0), wSea, wThe, wNo) (sea_small hx9) (smallS_lit rfl)
  rw [hx9, sea_where] at hwh
  skip
  refine jjQ hwh rfl rfl ?_
  rintro _ w10 hS10 ⟨pv, rfl, hOp⟩
  obtain ⟨pa, pc, rfl⟩ := hOp.slice
  (apply jI; exact eU rfl; refine ju rfl rfl ?_; refine ju rfl rfl ?_; apply jJ; exact eS rfl; apply jJ; exact eI rfl; refine jz ?_; refine jjB ?_; refine jjC ?_)
  refine jjQ (sea_law3 _) rfl rfl ?_
  rintro _ w11 hS11 ⟨a11, c11, cs11, rfl, hR11, hT11, hx11⟩
  have i11 := RowI.mk hR11
  skip
  refine jjQ (salt_law3 _) rfl rfl ?_
  rintro _ w12 hS12 ⟨ra, rc, rfl, hRr⟩
  have ir := RowI.mk hRr
  skip
  refine jjQ (at_law3 0 1 2 _) rfl rfl ?_
  rintro _ w13 hS13 rfl
  have hmv := Moved_slip a11 c11 cs11 w13 4 ra rc saltR (0, 1, 2) (sea_small hx11) (small_of_greatR (by kernel_rfl) salt_small)
  rw [hx11, salt_moved] at hmv
  skip
  refine jjQ hmv rfl rfl ?_
  rintro _ w14 hS14 rfl
  (apply jI; exact eU rfl; refine ju rfl rfl ?_; refine ju rfl rfl ?_)
  (apply jjR rfl; (intro _; first|exact eI rfl|exact eB rfl|exact eP rfl|exact eS rfl|exact eT rfl|exact eA rfl|exact eU rfl|exact eF rfl|exact eM rfl|exact eN rfl|exact rfl); exact rfl; exact rfl; exact rfl; exact rfl; intro b7 w_b7 hb_b7 hs_b7 hS_b7 hk_b7; have hA_b7 := Bk.of hk_b7)
  (apply jJ; exact eI rfl; refine jz ?_; refine jjB ?_; refine jjC ?_)
  refine jjQ (sea_law3 _) rfl rfl ?_
  rintro _ w15 hS15 ⟨a15, c15, cs15, rfl, hR15, hT15, hx15⟩
  have i15 := RowI.mk hR15
  skip
  refine jjQ (cut_law3 3 _) rfl rfl ?_
  rintro _ w16 hS16 rfl
  have hM1 : SmallSs M := ⟨by omega, fun x hx => small_of_right (hmr x hx)⟩
  have im : RowI w16 (.slice ma M.length mc) true 6 (M.map encSl) := ⟨(((((((((hOm.ext hS9.ext).ext hS10.ext).ext hS11.ext).ext hS12.ext).ext hS13.ext).ext hS14.ext).ext hS_b7.ext).ext hS15.ext).ext hS16.ext).row⟩
  have hmi := Missing_slip a15 c15 cs15 14 3 ma mc M w16 (sea_small hx15) (by omega) hM1
  rw [hx15, hms.2] at hmi
  have hms1 := hms.1
  generalize (missR seaT 14 3 M).1 = MP at *
  (apply jI; exact eS rfl)
  refine jjQ hmi rfl rfl ?_
  rintro _ w17 hS17 ⟨xv, rfl, hOx⟩
  obtain ⟨xa, xc, rfl⟩ := hOx.slice
  have e8 : (MP.map encPl).length = 8 := by rw [List.length_map, hms1]
  rw [e8] at hOx ⊢
  (apply jI; exact eU rfl; refine ju rfl rfl ?_; refine ju rfl rfl ?_; apply jJ; exact eS rfl; apply jJ; exact eI rfl; refine jz ?_; refine jjB ?_; refine jjC ?_)
  (refine jjS (cells := [.int .i64 0, .int .i64 0, .int .i64 0, .string wA, .string wNo, .string wNo]) ?_ ?_; exact rfl)
  skip
  (refine jjS (cells := [.int .i64 0, .int .i64 0, .int .i64 0, .string wB, .string wNo, .string wNo]) ?_ ?_; exact rfl)
  skip
  refine jjQ ((Order_slip _ ((0, 0, 0), wA, wNo, wNo) ((0, 0, 0), wB, wNo, wNo) (smallS_lit rfl) (smallS_lit rfl)).mono (R' := fun v _ => v = .tuple #[.int .i64 (-1), .int .i64 0]) fun v _ _ h => h.trans (by rw [sea_order])) rfl rfl ?_
  rintro _ w18 hS18 rfl
  (apply jI; exact eU rfl; refine ju rfl rfl ?_; refine ju rfl rfl ?_; apply jJ; exact eI rfl; apply jJ; exact eI rfl; refine jz ?_; refine jjB ?_; refine jjC ?_)
  refine jjQ (sea_law3 _) rfl rfl ?_
  rintro _ w19 hS19 ⟨a19, c19, cs19, rfl, hR19, hT19, hx19⟩
  have i19 := RowI.mk hR19
  skip
  refine jjQ (cut_law3 3 _) rfl rfl ?_
  rintro _ w20 hS20 rfl
  skip
  refine jjQ (at_law3 0 0 2 _) rfl rfl ?_
  rintro _ w21 hS21 rfl
  skip
  (refine jjS (cells := [.int .i64 0, .int .i64 0, .int .i64 2, .string wIs, .string wSea, .string wOld]) ?_ ?_; exact rfl)
  have hwr := Wrong_slip a19 c19 cs19 14 3 w21 ((0, 0, 2), wIs, wSea, wOld) (sea_small hx19) (by omega) (smallS_lit rfl)
  rw [hx19, sea_wrong] at hwr
  skip
  refine jjQ (hwr.mono (R' := fun v _ => v = .tuple #[.int .u8 4, .int .i64 0]) fun v _ _ h => h) rfl rfl ?_
  rintro _ w22 hS22 rfl
  (apply jI; exact eU rfl; refine ju rfl rfl ?_; refine ju rfl rfl ?_; apply jJ; exact eI rfl; apply jJ; exact eI rfl; refine jz ?_; refine jjB ?_; refine jjC ?_)
  (refine jjS (cells := [.int .i64 0, .int .i64 0, .int .i64 0, .string wA, .string wNo, .string wNo]) ?_ ?_; exact rfl)
  skip
  (refine jjS (cells := [.int .i64 0, .int .i64 0, .int .i64 0, .string wA, .string wNo, .string wNo]) ?_ ?_; exact rfl)
  skip
  refine Ops.buildSliceF (cells := [.int .i64 0, .int .i64 0, .int .i64 0, .string wA, .string wNo, .string wNo, .int .i64 0, .int .i64 0, .int .i64 0, .string wA, .string wNo, .string wNo]) rfl rfl rfl ?_
  intro b68 w23 hb68 hs68 hS23 hk68
  have i68 : RowI w23 (.slice (some ⟨b68, 0, none⟩) 2 2) true 6 ([((0, 0, 0), wA, wNo, wNo), ((0, 0, 0), wA, wNo, wNo)].map encSl) := ⟨Bk.rows (xs := [((0, 0, 0), wA, wNo, wNo), ((0, 0, 0), wA, wNo, wNo)].map encSl) hk68 (by simp [fitsV]) (by simp)⟩
  skip
  refine jjQ ((Twice_slip (some ⟨b68, 0, none⟩) 2 [((0, 0, 0), wA, wNo, wNo), ((0, 0, 0), wA, wNo, wNo)] _ ⟨by simp, fun x hx => by simp at hx; subst hx; exact smallS_lit rfl⟩).mono (R' := fun v w' => ∃ sv, v = .tuple #[sv, .int .i64 0] ∧ OwnL w' w23.heap.size 3 false 1 sv ([(1 : Int)].map intV)) fun v _ _ h => by rw [sea_twice] at h; exact h) rfl rfl ?_
  rintro _ w24 hS24 ⟨dv, rfl, hOd⟩
  obtain ⟨da, dc, rfl⟩ := hOd.slice
  (apply jI; exact eU rfl; refine ju rfl rfl ?_; refine ju rfl rfl ?_; apply jJ; exact eS rfl; apply jJ; exact eI rfl; refine jz ?_; refine jjB ?_)
  have hA7 : At w24 b7 0 [.int .i64 0, .int .i64 1, .int .i64 1] := inferInstance
  have hg24 : At w24 0 0 sidesC := inferInstance
  have hRp : RowV w24 true 3 (.slice pa 2 pc) ([((0 : Int), (0 : Int), (1 : Int)), (0, 1, 2)].map encPl) := (((((((((((((hOp.ext hS11.ext).ext hS12.ext).ext hS13.ext).ext hS14.ext).ext hS_b7.ext).ext hS15.ext).ext hS16.ext).ext hS17.ext).ext hS18.ext).ext hS19.ext).ext hS20.ext).ext hS21.ext).ext hS22.ext).row.ext (hS23.ext.trans hS24.ext)
  have hE24 : Ext w w24 := inferInstance
  refine W.keep0 [(1, .slice la 10 lc), (2, .int .i64 0), (3, .slice ma 2 mc), (4, .int .i64 0), (5, .slice pa 2 pc), (6, .int .i64 0), (7, .pointer (some ⟨b7, 0, none⟩)), (8, .int .i64 0), (9, .slice xa 8 xc), (10, .int .i64 0), (11, .int .i64 (-1)), (12, .int .i64 0), (13, .int .u8 4), (14, .int .i64 0), (15, .slice da 1 dc), (16, .int .i64 0)] ⟨eS rfl, eI rfl, by rw [← hml]; exact eS rfl, eI rfl, eS rfl, eI rfl, eP rfl, eI rfl, eS rfl, eI rfl, eI rfl, eI rfl, eI rfl, eI rfl, eS rfl, eI rfl, trivial⟩ fun s0 => ?_
  refine W.draw (fun w' => Ext w24 w') ?_
  intro v0 hv0
  (apply jjW 0; (decide +kernel); exact rfl; (exact inferInstance))
  refine jjQ (at_law3 0 0 2 _) rfl rfl ?_
  rintro _ v1 hv1 rfl
  refine jz ?_
  (apply jjW 1; (decide +kernel); exact rfl; (exact inferInstance))
  refine jjQ (made_ok _ (0, 0, 2) 3 (by omega) wIs wSea wOldOld sea_m002) rfl rfl ?_
  rintro _ v2 hv2 rfl
  refine jz ?_
  (refine jjV [2] ?_ ?_ ?_; (decide +kernel); (exact inferInstance); (((apply jjT; exact rfl; rintro w' hq; have := hq.toStep; apply jI; exact eB rfl; refine jz ?_; exact ⟨rfl, rfl⟩; refine jjU ?_))))
  (apply jjW 3; (decide +kernel); exact rfl; (exact inferInstance))
  (refine jT rfl rfl rfl ?_)
  refine jjQ (at_law3 0 1 0 _) rfl rfl ?_
  rintro _ v3 hv3 rfl
  refine jz ?_
  (apply jjW 4; (decide +kernel); exact rfl; (exact inferInstance))
  (refine jT rfl rfl rfl ?_)
  refine jjQ (made_ok _ (0, 1, 0) 1 (by omega) wOld wSeaIsOld wNo sea_m010l) rfl rfl ?_
  rintro _ v4 hv4 rfl
  refine jz ?_
  (refine jjV [5, 6, 7, 8, 9, 10, 11, 12, 13, 14, 15, 16, 17, 18, 19, 20, 21, 22, 23, 24, 25, 26, 27, 28, 29] ?_ ?_ ?_; (decide +kernel); (exact inferInstance); (((apply jjT; exact rfl; rintro w' hq; have := hq.toStep; apply jK rfl; exact eB rfl; refine jz ?_; exact ⟨rfl, rfl⟩; apply jjT; exact rfl; rintro w' hq; have := hq.toStep; apply jI; exact eB rfl; refine jz ?_; exact ⟨rfl, rfl⟩; apply jjT; exact rfl; rintro w' hq; have := hq.toStep; refine jT rfl rfl rfl ?_; apply jI; exact eI rfl; refine jz ?_; exact ⟨rfl, rfl⟩; apply jjT; exact rfl; rintro w' hq; have := hq.toStep; refine jT rfl rfl rfl ?_; refine ja rfl rfl ?_; refine jz ?_; exact ⟨rfl, rfl⟩; apply jjT; exact rfl; rintro w' hq; have := hq.toStep; apply jK rfl; exact eB rfl; refine jz ?_; exact ⟨rfl, rfl⟩; apply jjT; exact rfl; rintro w' hq; have := hq.toStep; apply jI; exact eB rfl; refine jz ?_; exact ⟨rfl, rfl⟩; apply jjT; exact rfl; rintro w' hq; have := hq.toStep; refine jT rfl rfl rfl ?_; apply jI; exact eS rfl; refine jz ?_; exact ⟨rfl, rfl⟩; apply jjT; exact rfl; rintro w' hq; have := hq.toStep; refine jT rfl rfl rfl ?_; refine jh rfl ?_; refine jz ?_; exact ⟨rfl, rfl⟩; apply jjT; exact rfl; rintro w' hq; have := hq.toStep; refine jT rfl rfl rfl ?_; refine ja rfl rfl ?_; refine jz ?_; exact ⟨rfl, rfl⟩; apply jjT; exact rfl; rintro w' hq; have := hq.toStep; apply jK rfl; exact eB rfl; refine jz ?_; exact ⟨rfl, rfl⟩; apply jjT; exact rfl; rintro w' hq; have := hq.toStep; apply jI; exact eB rfl; refine jz ?_; exact ⟨rfl, rfl⟩; apply jjT; exact rfl; rintro w' hq; have := hq.toStep; refine jT rfl rfl rfl ?_; apply jI; exact eI rfl; refine jz ?_; exact ⟨rfl, rfl⟩; apply jjT; exact rfl; rintro w' hq; have := hq.toStep; refine jT rfl rfl rfl ?_; refine ja rfl rfl ?_; refine jz ?_; exact ⟨rfl, rfl⟩; apply jjT; exact rfl; rintro w' hq; have := hq.toStep; apply jK rfl; exact eB rfl; refine jz ?_; exact ⟨rfl, rfl⟩; apply jjT; exact rfl; rintro w' hq; have := hq.toStep; apply jI; exact eB rfl; refine jz ?_; exact ⟨rfl, rfl⟩; apply jjT; exact rfl; rintro w' hq; have := hq.toStep; refine jT rfl rfl rfl ?_; apply jI; exact eS rfl; refine jz ?_; exact ⟨rfl, rfl⟩; apply jjT; exact rfl; rintro w' hq; have := hq.toStep; refine jT rfl rfl rfl ?_; refine jh rfl ?_; refine jz ?_; exact ⟨rfl, rfl⟩; apply jjT; exact rfl; rintro w' hq; have := hq.toStep; refine jT rfl rfl rfl ?_; refine ja rfl rfl ?_; refine jz ?_; exact ⟨rfl, rfl⟩; apply jjT; exact rfl; rintro w' hq; have := hq.toStep; apply jK rfl; exact eB rfl; refine jz ?_; exact ⟨rfl, rfl⟩; apply jjT; exact rfl; rintro w' hq; have := hq.toStep; apply jI; exact eB rfl; refine jz ?_; exact ⟨rfl, rfl⟩; apply jjT; exact rfl; rintro w' hq; have := hq.toStep; refine jT rfl rfl rfl ?_; apply jI; exact eI rfl; refine jz ?_; exact ⟨rfl, rfl⟩; apply jjT; exact rfl; rintro w' hq; have := hq.toStep; refine jT rfl rfl rfl ?_; refine ja rfl rfl ?_; refine jz ?_; exact ⟨rfl, rfl⟩; apply jjT; exact rfl; rintro w' hq; have := hq.toStep; apply jK rfl; exact eB rfl; refine jz ?_; exact ⟨rfl, rfl⟩; apply jjT; exact rfl; rintro w' hq; have := hq.toStep; apply jI; exact eB rfl; refine jz ?_; exact ⟨rfl, rfl⟩; apply jjT; exact rfl; rintro w' hq; have := hq.toStep; refine jT rfl rfl rfl ?_; apply jI; exact eS rfl; refine jz ?_; exact ⟨rfl, rfl⟩; refine jjU ?_))))
  (apply jjW 30; (decide +kernel); exact rfl; (exact inferInstance))
  (refine jT rfl rfl rfl ?_)
  refine jjQ (at_law3 0 0 1 _) rfl rfl ?_
  rintro _ v5 hv5 rfl
  refine jz ?_
  (apply jjW 31; (decide +kernel); exact rfl; (exact inferInstance))
  (refine jT rfl rfl rfl ?_)
  refine jjQ (at_law3 0 1 2 _) rfl rfl ?_
  rintro _ v6 hv6 rfl
  refine jz ?_
  (apply jjW 32; (decide +kernel); exact rfl; (exact inferInstance))
  (refine jT rfl rfl rfl ?_)
  refine Ops.buildSliceF (cells := [.int .i64 0, .int .i64 0, .int .i64 1, .int .i64 0, .int .i64 1, .int .i64 2]) rfl rfl rfl ?_
  intro b32 v7 hb32 hs32 hv7 hk32
  refine jz ?_
  have hR32 : RowV v7 true 3 (.slice (some ⟨b32, 0, none⟩) 2 2) ([((0 : Int), (0 : Int), (1 : Int)), (0, 1, 2)].map encPl) := Bk.rows (xs := [((0 : Int), (0 : Int), (1 : Int)), (0, 1, 2)].map encPl) hk32 (by simp [fitsV]) (by simp)
  have hRp7 : RowV v7 true 3 (.slice pa 2 pc) ([((0 : Int), (0 : Int), (1 : Int)), (0, 1, 2)].map encPl) := hRp.ext inferInstance
  (apply jjW 33; (decide +kernel); exact rfl; (exact inferInstance))
  (refine jT rfl rfl rfl ?_)
  refine jjQ ((same_places1 pa (some ⟨b32, 0, none⟩) pc 2 2 2 [(0, 0, 1), (0, 1, 2)] [(0, 0, 1), (0, 1, 2)] _ rfl rfl hRp7 hR32).mono (R' := fun v _ => v = .bool true) fun v _ _ h => h.trans (by rw [decide_eq_true rfl])) rfl rfl ?_
  rintro _ v8 hv8 rfl
  refine jz ?_
  (refine jjV [34, 35, 36, 37, 38, 39, 40] ?_ ?_ ?_; (decide +kernel); (exact inferInstance); (((apply jjT; exact rfl; rintro w' hq; have := hq.toStep; apply jK rfl; exact eB rfl; refine jz ?_; exact ⟨rfl, rfl⟩; apply jjT; exact rfl; rintro w' hq; have := hq.toStep; apply jI; exact eB rfl; refine jz ?_; exact ⟨rfl, rfl⟩; apply jjT; exact rfl; rintro w' hq; have := hq.toStep; refine jT rfl rfl rfl ?_; apply jI; exact eI rfl; refine jz ?_; exact ⟨rfl, rfl⟩; apply jjT; exact rfl; rintro w' hq; have := hq.toStep; refine jT rfl rfl rfl ?_; refine ja rfl rfl ?_; refine jz ?_; exact ⟨rfl, rfl⟩; apply jjT; exact rfl; rintro w' hq; have := hq.toStep; apply jK rfl; exact eB rfl; refine jz ?_; exact ⟨rfl, rfl⟩; apply jjT; exact rfl; rintro w' hq; have := hq.toStep; apply jI; exact eB rfl; refine jz ?_; exact ⟨rfl, rfl⟩; apply jjT; exact rfl; rintro w' hq; have := hq.toStep; refine jT rfl rfl rfl ?_; refine jO rfl rfl rfl rfl ?_; refine jz ?_; exact ⟨rfl, rfl⟩; refine jjU ?_))))
  (apply jjW 41; (decide +kernel); exact rfl; (exact inferInstance))
  (refine jT rfl rfl rfl ?_)
  refine jjQ (at_law3 0 1 1 _) rfl rfl ?_
  rintro _ v9 hv9 rfl
  refine jz ?_
  refine jjV [42] (by decide +kernel) inferInstance (jjT (v := .bool true) rfl (fun w' q1 => ?_) (jjU ?_)); (refine jT rfl rfl rfl ?_; refine Ops.eqlT (enc := encPl) (0, 1, 1) (0, 1, 1) rfl rfl ?_; rw [decide_eq_true rfl]; refine jz ?_; exact ⟨rfl, rfl⟩)
  (refine jjV [43, 44, 45, 46, 47, 48, 49, 50, 51, 52, 53, 54, 55, 56, 57, 58, 59, 60, 61, 62, 63, 64, 65, 66, 67, 68, 69, 70, 71, 72, 73, 74] ?_ ?_ ?_; (decide +kernel); (exact inferInstance); (((apply jjT; exact rfl; rintro w' hq; have := hq.toStep; apply jK rfl; exact eB rfl; refine jz ?_; exact ⟨rfl, rfl⟩; apply jjT; exact rfl; rintro w' hq; have := hq.toStep; apply jI; exact eB rfl; refine jz ?_; exact ⟨rfl, rfl⟩; apply jjT; exact rfl; rintro w' hq; have := hq.toStep; refine jT rfl rfl rfl ?_; apply jI; exact eI rfl; refine jz ?_; exact ⟨rfl, rfl⟩; apply jjT; exact rfl; rintro w' hq; have := hq.toStep; refine jT rfl rfl rfl ?_; refine ja rfl rfl ?_; refine jz ?_; exact ⟨rfl, rfl⟩; apply jjT; exact rfl; rintro w' hq; have := hq.toStep; apply jK rfl; exact eB rfl; refine jz ?_; exact ⟨rfl, rfl⟩; apply jjT; exact rfl; rintro w' hq; have := hq.toStep; apply jI; exact eB rfl; refine jz ?_; exact ⟨rfl, rfl⟩; apply jjT; exact rfl; rintro w' hq; have := hq.toStep; refine jT rfl rfl rfl ?_; apply jI; exact eS rfl; refine jz ?_; exact ⟨rfl, rfl⟩; apply jjT; exact rfl; rintro w' hq; have := hq.toStep; refine jT rfl rfl rfl ?_; refine jh rfl ?_; refine jz ?_; exact ⟨rfl, rfl⟩; apply jjT; exact rfl; rintro w' hq; have := hq.toStep; refine jT rfl rfl rfl ?_; refine ja rfl rfl ?_; refine jz ?_; exact ⟨rfl, rfl⟩; apply jjT; exact rfl; rintro w' hq; have := hq.toStep; apply jK rfl; exact eB rfl; refine jz ?_; exact ⟨rfl, rfl⟩; apply jjT; exact rfl; rintro w' hq; have := hq.toStep; apply jI; exact eB rfl; refine jz ?_; exact ⟨rfl, rfl⟩; apply jjT; exact rfl; rintro w' hq; have := hq.toStep; refine jT rfl rfl rfl ?_; apply jI; exact eI rfl; refine jz ?_; exact ⟨rfl, rfl⟩; apply jjT; exact rfl; rintro w' hq; have := hq.toStep; refine jT rfl rfl rfl ?_; refine ja rfl rfl ?_; refine jz ?_; exact ⟨rfl, rfl⟩; apply jjT; exact rfl; rintro w' hq; have := hq.toStep; apply jK rfl; exact eB rfl; refine jz ?_; exact ⟨rfl, rfl⟩; apply jjT; exact rfl; rintro w' hq; have := hq.toStep; apply jI; exact eB rfl; refine jz ?_; exact ⟨rfl, rfl⟩; apply jjT; exact rfl; rintro w' hq; have := hq.toStep; refine jT rfl rfl rfl ?_; apply jI; exact eI rfl; refine jz ?_; exact ⟨rfl, rfl⟩; apply jjT; exact rfl; rintro w' hq; have := hq.toStep; refine jT rfl rfl rfl ?_; refine ja rfl rfl ?_; refine jz ?_; exact ⟨rfl, rfl⟩; apply jjT; exact rfl; rintro w' hq; have := hq.toStep; apply jK rfl; exact eB rfl; refine jz ?_; exact ⟨rfl, rfl⟩; apply jjT; exact rfl; rintro w' hq; have := hq.toStep; apply jI; exact eB rfl; refine jz ?_; exact ⟨rfl, rfl⟩; apply jjT; exact rfl; rintro w' hq; have := hq.toStep; refine jT rfl rfl rfl ?_; apply jI; exact eI rfl; refine jz ?_; exact ⟨rfl, rfl⟩; apply jjT; exact rfl; rintro w' hq; have := hq.toStep; refine jT rfl rfl rfl ?_; refine ja rfl rfl ?_; refine jz ?_; exact ⟨rfl, rfl⟩; apply jjT; exact rfl; rintro w' hq; have := hq.toStep; apply jK rfl; exact eB rfl; refine jz ?_; exact ⟨rfl, rfl⟩; apply jjT; exact rfl; rintro w' hq; have := hq.toStep; apply jI; exact eB rfl; refine jz ?_; exact ⟨rfl, rfl⟩; apply jjT; exact rfl; rintro w' hq; have := hq.toStep; refine jT rfl rfl rfl ?_; apply jI; exact eI rfl; refine jz ?_; exact ⟨rfl, rfl⟩; apply jjT; exact rfl; rintro w' hq; have := hq.toStep; refine jT rfl rfl rfl ?_; refine ja rfl rfl ?_; refine jz ?_; exact ⟨rfl, rfl⟩; apply jjT; exact rfl; rintro w' hq; have := hq.toStep; apply jK rfl; exact eB rfl; refine jz ?_; exact ⟨rfl, rfl⟩; apply jjT; exact rfl; rintro w' hq; have := hq.toStep; apply jI; exact eB rfl; refine jz ?_; exact ⟨rfl, rfl⟩; apply jjT; exact rfl; rintro w' hq; have := hq.toStep; refine jT rfl rfl rfl ?_; apply jI; exact eI rfl; refine jz ?_; exact ⟨rfl, rfl⟩; apply jjT; exact rfl; rintro w' hq; have := hq.toStep; refine jT rfl rfl rfl ?_; refine ja rfl rfl ?_; refine jz ?_; exact ⟨rfl, rfl⟩; apply jjT; exact rfl; rintro w' hq; have := hq.toStep; apply jK rfl; exact eB rfl; refine jz ?_; exact ⟨rfl, rfl⟩; apply jjT; exact rfl; rintro w' hq; have := hq.toStep; apply jI; exact eB rfl; refine jz ?_; exact ⟨rfl, rfl⟩; apply jjT; exact rfl; rintro w' hq; have := hq.toStep; refine jT rfl rfl rfl ?_; apply jI; exact eS rfl; refine jz ?_; exact ⟨rfl, rfl⟩; refine jjU ?_))))
  (apply jjW 75; (decide +kernel); exact rfl; (exact inferInstance))
  (refine jT rfl rfl rfl ?_)
  refine Ops.buildSliceF (cells := [.int .i64 1]) rfl rfl rfl ?_
  intro b75 v10 hb75 hs75 hv10 hk75
  refine jz ?_
  have hR75 : RowV v10 false 1 (.slice (some ⟨b75, 0, none⟩) 1 1) ([(1 : Int)].map intV) := hk75.row (fun x hx => by simp at hx; subst hx; rfl) (by simp)
  have hRd : RowV v10 false 1 (.slice da 1 dc) ([(1 : Int)].map intV) := hOd.row.ext inferInstance
  (apply jjW 76; (decide +kernel); exact rfl; (exact inferInstance))
  (refine jT rfl rfl rfl ?_)
  refine jjQ ((same_ints3 da (some ⟨b75, 0, none⟩) dc 1 1 1 [1] [1] _ rfl rfl hRd hR75).mono (R' := fun v _ => v = .bool true) fun v _ _ h => h.trans (by rw [decide_eq_true rfl])) rfl rfl ?_
  rintro _ v11 hv11 rfl
  refine jz ?_
  (refine jjV [77, 78] ?_ ?_ ?_; (decide +kernel); (exact inferInstance); (((apply jjT; exact rfl; rintro w' hq; have := hq.toStep; apply jK rfl; exact eB rfl; refine jz ?_; exact ⟨rfl, rfl⟩; apply jjT; exact rfl; rintro w' hq; have := hq.toStep; apply jJ; exact eB rfl; refine jz ?_; exact ⟨rfl, rfl⟩; refine jjU ?_))))
  refine jjX (by decide +kernel) inferInstance ?_
  (refine jjF ?_; refine jB rfl rfl ⟨inferInstance, ?_⟩)
  exact rfl
end Go.Proofs.YtpbkphaceljclaaGreatDoor

/- Plain law: which places have slips. -/
namespace Go.Proofs.YtpbkphaceljclaaGreatDoor
open Go.RowKit

theorem wsT_at {t : Tx} {k : Nat} (hk : k < t.length) : wsT t k = t[k].2 := by rw [wsT, List.getD_eq_getElem?_getD, List.getElem?_eq_getElem hk, Option.getD_some]
theorem lineT_at {t : Tx} {k n : Nat} {q : Int} (hk : k < t.length) (hn : n < t[k].2.length) : lineT t ((k : Int), (n : Int), q) = some t[k].2[n] := by
  rw [lineT, if_pos ⟨by simp, by simp⟩]
  simp only [Int.toNat_natCast]
  rw [List.getElem?_eq_getElem hk, Option.bind_some, List.getElem?_eq_getElem hn]
theorem placeB_get {t : Tx} {p : Pl} (h : placeB t p = true) : ∃ (k n w : Nat) (hk : k < t.length) (hn : n < t[k].2.length) (hw : w < t[k].2[n].length), p = ((k : Int), (n : Int), (w : Int)) := by
  obtain ⟨l, hl, q, hq, hp⟩ := placeB_line h
  rw [lineT] at hl
  split at hl
  · rename_i hc
    obtain ⟨x, hx, hl⟩ := Option.bind_eq_some_iff.1 hl
    obtain ⟨hk, rfl⟩ := List.getElem?_eq_some_iff.1 hx
    obtain ⟨hn, rfl⟩ := List.getElem?_eq_some_iff.1 hl
    exact ⟨_, _, q, hk, hn, hq, by ext <;> simp <;> omega⟩
  · cases hl
theorem placeB_yes {t : Tx} {k n w : Nat} (hk : k < t.length) (hn : n < t[k].2.length) (hw : w < t[k].2[n].length) : placeB t ((k : Int), (n : Int), (w : Int)) = true := by
  rw [placeB, lineT_at hk hn]
  simp only [inB, Bool.and_eq_true, decide_eq_true_eq]
  omega
theorem placeB_mem {t : Tx} {p : Pl} : placeB t p = true ↔ p ∈ allP t t.length := by
  constructor
  · intro h
    obtain ⟨k, n, w, hk, hn, hw, rfl⟩ := placeB_get h
    refine mem_allP.2 ⟨k, hk, mem_runA.2 ⟨n, w, ?_, ?_, rfl⟩⟩
    · rw [wsT_at hk]; exact hn
    · simp only [wsT_at hk]; exact hw
  · intro h
    obtain ⟨k, hk, hm⟩ := mem_allP.1 h
    obtain ⟨n, w, hn, hw, rfl⟩ := mem_runA.1 hm
    simp only [wsT_at hk] at hn hw
    exact placeB_yes hk hn hw
theorem makeF_no_place {t : Tx} {side W : Int} {p : Pl} (h : makeF t side W p = none) : placeB t p = false := by
  cases hb : placeB t p with
  | false => rfl
  | true =>
    obtain ⟨k, hk, hm⟩ := mem_allP.1 (placeB_mem.1 hb)
    obtain ⟨i, hi, e⟩ := List.mem_iff_getElem.1 hm
    rw [makeF_yes hk (by rw [List.getElem?_eq_getElem hi, e])] at h
    cases h
theorem askE_yes {t : Tx} {wd side : Int} (h1 : textB t = true) (h2 : cutB wd side = true) : askE t wd side = 0 := by rw [askE, h1, h2]; rfl
end Go.Proofs.YtpbkphaceljclaaGreatDoor

/- Plain law: a valid text has a word. -/
namespace Go.Proofs.YtpbkphaceljclaaGreatDoor
open Go.RowKit

theorem allP_pos {t : Tx} (h : textB t = true) : 0 < (allP t t.length).length := by
  simp only [textB, Bool.and_eq_true, List.all_eq_true] at h
  obtain ⟨⟨h1, h2⟩, _⟩ := h
  have ht : 0 < t.length := by simp only [inB, Bool.and_eq_true, decide_eq_true_eq] at h1; omega
  have hc := h2 t[0] (List.getElem_mem ht)
  simp only [chapB, Bool.and_eq_true, List.all_eq_true] at hc
  obtain ⟨⟨_, h3⟩, h4⟩ := hc
  have hl : 0 < t[0].2.length := by simp only [inB, Bool.and_eq_true, decide_eq_true_eq] at h3; omega
  have hy := h4 t[0].2[0] (List.getElem_mem hl)
  simp only [lineB, Bool.and_eq_true] at hy
  have hw : 0 < t[0].2[0].length := by have := hy.1; simp only [inB, Bool.and_eq_true, decide_eq_true_eq] at this; omega
  exact List.length_pos_of_mem (placeB_mem.1 (placeB_yes ht hl hw))
end Go.Proofs.YtpbkphaceljclaaGreatDoor

/- Plain law: the word of a slip is the word of its place; what all slips are. -/
namespace Go.Proofs.YtpbkphaceljclaaGreatDoor
open Go.RowKit

theorem make_yes {t : Tx} {p : Pl} (h : placeB t p = true) (side wd : Int) : ∃ s, makeF t side wd p = some s := by
  cases hm : makeF t side wd p with
  | none => rw [makeF_no_place hm] at h; cases h
  | some s => exact ⟨s, rfl⟩
end Go.Proofs.YtpbkphaceljclaaGreatDoor

/- The proof engine, part 36: ranges over texts. -/
namespace Go.Proofs.YtpbkphaceljclaaGreatDoor
open Go.RowKit Go.Lib

/-- Block k is an iterator over b that stands at p. -/
def ItS (w : World) (k : Nat) (b : ByteArray) (p : Nat) : Prop := w.heap[k]? = some (.stringIter b p)
section rules
variable {P : Program} {ro : Option Nat} {n : Nat} {all rest : List Oper} {K : Sl → World → Prop} {s : Sl} {w : World} {d : Nat} {ty : Nat} {pos : String} {af : Array Edge}
variable {x : Operand} {t k p : Nat} {b : ByteArray}
theorem Ops.rangeS (hx : ev n s x = .string b) [ht : TU P t .string] (h : ∀ k w', k = w.heap.size → Step w w' → ItS w' k b 0 → Ops P ro n all rest K (upd s d (.pointer (some ⟨k, 0, none⟩))) w') :
    Ops P ro n all (⟨some d, .range t x, ty, pos, af, none⟩ :: rest) K s w := by
  refine Ops.ofRun (w' := w.iter b 0) rfl ?_ (h w.heap.size _ rfl ⟨(Below.refl _ w).alloc (Nat.le_refl _) _⟩ (World.iter_heap w b 0))
  have := run_range_string w t b ht.h
  simp [execOp, hx, this]
theorem putO_iter (hk : ItS w k b p) (p' : Nat) : PutO w (w.iterAt k b p') k (.stringIter b p') :=
  ⟨rfl, rfl, rfl, iterAt_size w k b p', iterAt_heap w k b p p' hk, fun j hj => iterAt_other w k j b p' hj⟩
theorem Ops.nextY (hx : ev n s x = .pointer (some ⟨k, 0, none⟩)) (hk : ItS w k b p) (hp : p < b.size) (ha : (b[p]'hp).toNat < 128)
    (h : ∀ w', PutO w w' k (.stringIter b (p + 1)) → ItS w' k b (p + 1) → Ops P ro n all rest K (upd s d (.tuple #[.bool true, .int .i64 (p : Int), .int .i32 ((b[p]'hp).toNat : Int)])) w') :
    Ops P ro n all (⟨some d, .next x true, ty, pos, af, none⟩ :: rest) K s w := by
  have hq := putO_iter hk (p + 1)
  refine Ops.ofRun rfl ?_ (h _ hq hq.new)
  have := run_next_ascii_at (P := P) w k b p ty hk hp ha
  simp [execOp, hx, this]
theorem Ops.nextN (hx : ev n s x = .pointer (some ⟨k, 0, none⟩)) (hk : ItS w k b p) (hp : ¬ p < b.size)
    (h : Ops P ro n all rest K (upd s d (.tuple #[.bool false])) w) :
    Ops P ro n all (⟨some d, .next x true, ty, pos, af, none⟩ :: rest) K s w := by
  refine Ops.ofRun rfl ?_ h
  have := run_next_end_at (P := P) w k b p ty hk hp
  simp [execOp, hx, this]
end rules
end Go.Proofs.YtpbkphaceljclaaGreatDoor

/- The law's helpers: how many words a text has (SlipWider, SlipSides). -/
namespace Go.Proofs.YtpbkphaceljclaaGreatDoor
open Go.RowKit

theorem take_count {s : ByteArray} {p : Nat} (hp : p < s.size) : (s.data.toList.take (p + 1)).count 32 = (s.data.toList.take p).count 32 + if s[p] = 32 then 1 else 0 := by
  have hl : p < s.data.toList.length := by simpa using hp
  have e : s.data.toList[p] = s[p] := by simp [ByteArray.getElem_eq_getElem_data]
  rw [List.take_add_one, List.getElem?_eq_getElem hl, List.count_append, e]
  by_cases h : s[p] = 32 <;> simp [h]
theorem take_all {s : ByteArray} : s.data.toList.take s.size = s.data.toList := List.take_of_length_le (by simp)
/-- A text of bytes below 128. -/
def AscB (s : ByteArray) : Prop := ∀ (i : Nat) (h : i < s.size), (s[i]'h).toNat < 128
theorem nat32 {x : UInt8} (h : x ≠ 32) : ((x.toNat : Nat) : Int) ≠ 32 := fun e => by
  have h1 : x.toNat = 32 := by omega
  exact h (UInt8.toNat_inj.1 (h1.trans rfl))
end Go.Proofs.YtpbkphaceljclaaGreatDoor
