/- Texts of the proof, part 5: Sw3, MpK, KeyP, Eng26, Sw4, Eng27, Sw7, Sw8, Tr3, Tr4, LawSw. -/
import Derived.Test.YtgmgiepdehlinaaGreatDoorPkSL4
/- The reference: listed, Twice. -/
namespace Go.Proofs.YtgmgiepdehlinaaGreatDoor
open Go.RowKit

theorem take_any {α : Type} {l : List α} {f : α → Bool} {k : Nat} (hk : k < l.length) : (l.take (k + 1)).any f = ((l.take k).any f || f l[k]) := by
  rw [take_snoc_get (List.getElem?_eq_getElem hk), List.any_append]; simp
def hasL (l : List Slp) (x : Slp) (k : Nat) : Bool := (l.take k).any fun y => decide (y = x)
theorem hasL_succ {l : List Slp} {x : Slp} {k : Nat} (hk : k < l.length) : hasL l x (k + 1) = (hasL l x k || decide (l[k] = x)) := take_any hk
theorem listE_all {ls : List Slp} (h : ¬ 700 < ls.length) (h2 : ∀ (j : Nat) (hj : j < ls.length), slipB ls[j] = true) : listE ls = 0 := by rw [listE, if_neg h, all_yes h2]; rfl
theorem listE_no {ls : List Slp} (h : ¬ 700 < ls.length) {j : Nat} (hj : j < ls.length) (h2 : slipB ls[j] = false) : listE ls = 31 := by rw [listE, if_neg h, all_no hj h2]; rfl
set_option maxHeartbeats 1000000 in
theorem listed_ref3 (a : Option Addr) (c : Nat) (ls : List Slp) (w : World) [hrow : RowI w (.slice a ls.length c) true 6 (ls.map encSl)] (hs : SmallSs ls) : Ct Tryz.prog 39 [.slice a ls.length c] w fun v _ => v = .int .i64 (listE ls) := by
  have hs1 := hs.1
  refine Ct.ofW (by simp) ?_
  by_cases h7 : 700 < ls.length
  · (refine jjB ?_; refine jjC ?_; apply jJ; exact eI rfl; refine jz ?_; refine jjB ?_; refine jjB ?_; refine jjC ?_; apply jI; exact eS rfl; refine jh rfl ?_; refine jjd rfl rfl (by omega) ?_; refine jz ?_; refine jjJ rfl ?_; refine jjB ?_; refine jjC ?_; apply jJ; exact eI rfl; refine jz ?_; refine jjF ?_; refine jB rfl rfl ⟨inferInstance, ?_⟩)
    rw [listE, if_pos h7]; exact rfl
  (refine jjB ?_; refine jjC ?_; apply jJ; exact eI rfl; refine jz ?_; refine jjB ?_; refine jjB ?_; refine jjC ?_; apply jI; exact eS rfl; refine jh rfl ?_; refine jje rfl rfl (by omega) ?_; refine jz ?_; refine jjK rfl ?_; refine jjG ?_; refine jjB ?_; refine jjB ?_; refine jjC ?_; apply jJ; exact eI rfl; refine jz ?_; refine jjD ?_)
  refine W.keep0 [(0, .slice a ls.length c), (3, .int .i64 ((0 : Nat) : Int))] ⟨eS rfl, eI rfl, trivial⟩ fun s0 => ?_
  refine W.loop (7 :: 8 :: 9 :: 10 :: 13 :: 14 :: 15 :: 16 :: 17 :: 18 :: 2 :: 11 :: 12 :: 3 :: []) (fun g s' V => ∃ i : Nat, s' 3 = .int .i64 ((i : Nat) : Int) ∧ g = ls.length - i ∧ i ≤ ls.length ∧ ∀ (j : Nat) (hj : j < ls.length), j < i → slipB ls[j] = true) ls.length ⟨0, rfl, rfl, Nat.zero_le _, by intros; omega⟩ ?_
  rintro _ sd V hS ⟨i, h3, rfl, hi, hpre⟩
  refine W.fix h3 ?_
  clear h3
  by_cases hil : i < ls.length
  rotate_left
  · (refine jjB ?_; refine jjB ?_; refine jjC ?_; apply jI; exact eI rfl; apply jI; exact eS rfl; refine jh rfl ?_; refine jja rfl rfl (by omega) ?_; refine jz ?_; refine jjK rfl ?_; refine jjE ?_; refine jjB ?_; refine jjC ?_; apply jJ; exact eI rfl; refine jz ?_; refine jjF ?_; refine jB rfl rfl ⟨inferInstance, ?_⟩)
    rw [listE_all h7 fun j hj => hpre j hj (by omega)]; exact rfl
  obtain ⟨B, hB⟩ : ∃ B, slipB ls[i] = B := ⟨_, rfl⟩
  (refine jjB ?_; refine jjB ?_; refine jjC ?_; apply jI; exact eI rfl; apply jI; exact eS rfl; refine jh rfl ?_; refine jjZ rfl rfl (by omega) ?_; refine jz ?_; refine jjJ rfl ?_; refine jjG ?_; refine jjB ?_; refine jjD ?_; refine jjB ?_; refine jjC ?_; apply jI; exact eS rfl; apply jI; exact eI rfl; refine jF rfl rfl rfl (map_get (by omega)) ?_; intro _ _ _; refine jQ rfl rfl ?_)
  refine jjQ ((Slip_ref3 ls[i] _ (hs.2 _ (List.getElem_mem hil))).mono fun v _ _ h => h.trans (by rw [hB])) rfl rfl ?_
  rintro _ w2 hS2 rfl
  cases B
  · (refine jq rfl ?_; refine jz ?_; refine jjJ rfl ?_; refine jjB ?_; refine jjC ?_; apply jJ; exact eI rfl; refine jz ?_; refine jjF ?_; refine jB rfl rfl ⟨inferInstance, ?_⟩)
    rw [listE_no h7 hil hB]; exact rfl
  · (refine jp rfl ?_; refine jz ?_; refine jjK rfl ?_; refine jjG ?_; refine jjC ?_; apply jI; exact eI rfl; refine jY rfl rfl (by omega) ?_; apply jJ; exact eI rfl; refine jz ?_)
    refine ⟨rfl, by ((refine Same.upd rfl ?_; refine Same.upd rfl ?_; refine Same.upd rfl ?_; refine Same.upd rfl ?_; refine Same.upd rfl ?_; refine Same.upd rfl ?_; refine Same.upd rfl ?_; refine Same.upd rfl ?_; refine Same.upd rfl ?_; refine Same.upd rfl ?_; refine Same.upd rfl ?_; refine Same.upd rfl ?_; refine Same.upd rfl ?_; refine Same.upd rfl ?_; exact Same.ovN)), ls.length - (i + 1), by omega, inferInstance, i + 1, congrArg (Value.int .i64) (by omega), rfl, by omega, fun j hj hjk => ?_⟩
    by_cases e : j = i
    · subst e; exact hB
    · exact hpre j hj (by omega)
set_option maxHeartbeats 2000000 in
theorem Twice_ref3 (a : Option Addr) (c : Nat) (ls : List Slp) (w : World) [hrow : RowI w (.slice a ls.length c) true 6 (ls.map encSl)] (hs : SmallSs ls) : Ct Tryz.prog 15 [.slice a ls.length c] w fun v w' => ∃ sv, v = .tuple #[sv, .int .i64 (twiceR ls).2] ∧ OwnL w' w.heap.size 3 false 1 sv ((twiceR ls).1.map intV) := by
  have hs1 := hs.1
  refine Ct.ofW (by simp) ?_
  (refine jjB ?_; refine jjC ?_; apply jJ; exact eS rfl; apply jJ; exact eI rfl; refine jz ?_; refine jjB ?_; refine jjB ?_; refine jjC ?_; apply jI; exact eS rfl)
  obtain ⟨e, he⟩ : ∃ e, listE ls = e := ⟨_, rfl⟩
  have h3 := listE_in ls
  rw [he] at h3
  refine jjQ ((listed_ref3 a c ls _ hs).mono fun v _ _ h => h.trans (by rw [he])) rfl rfl ?_
  rintro _ w2 hS2 rfl
  by_cases h0 : e = 0
  rotate_left
  · (apply jJ; exact eI rfl; refine jz ?_; refine jjB ?_; refine jjC ?_; apply jI; exact eI rfl; refine jjj rfl rfl (by omega) ?_; refine jz ?_; refine jjJ rfl ?_; refine jjB ?_; refine jjC ?_; apply jI; exact eI rfl; apply jJ; exact eS rfl; apply jJ; exact eI rfl; refine jz ?_; refine jjF ?_; refine jC rfl rfl rfl ⟨inferInstance, ?_⟩)
    rw [twiceR, if_pos (by rw [he]; exact h0), he]
    exact ⟨_, rfl, OwnL.nil _ _ _ _ _⟩
  subst h0
  rw [twiceR, if_neg (by rw [he]; simp)]
  have hE2 : Ext w w2 := inferInstance
  (apply jJ; exact eI rfl; refine jz ?_; refine jjB ?_; refine jjC ?_; apply jI; exact eI rfl; refine jjk rfl rfl (by omega) ?_; refine jz ?_; refine jjK rfl ?_; refine jjG ?_; refine jjB ?_; refine jjC ?_; apply jJ; exact eS rfl; refine jz ?_; refine jjB ?_; refine jjB ?_; refine jjC ?_; apply jJ; exact eI rfl; refine jz ?_; refine jjD ?_)
  refine W.keep0 [(0, .slice a ls.length c), (5, .slice none 0 0), (6, .int .i64 ((0 : Nat) : Int))] ⟨eS rfl, eS rfl, eI rfl, trivial⟩ fun s0 => ?_
  refine W.loopG (14 :: 15 :: 16 :: 17 :: 7 :: 8 :: 20 :: 21 :: 22 :: 25 :: 26 :: 27 :: 28 :: 29 :: 30 :: 31 :: 32 :: 33 :: 34 :: 35 :: 36 :: 23 :: 24 :: 37 :: 38 :: 39 :: 40 :: 41 :: 5 :: 18 :: 19 :: 6 :: []) (fun g s' V => ∃ (i : Nat) (sv : Value), s' 6 = .int .i64 ((i : Nat) : Int) ∧ s' 5 = sv ∧ g = ls.length - i ∧ i ≤ ls.length ∧ Ext w V ∧ w2.heap.size ≤ V.heap.size ∧ OwnL V w2.heap.size 3 false 1 sv ((idxI (hasB ls) i).map intV)) ls.length ⟨0, _, rfl, rfl, rfl, Nat.zero_le _, hE2, Nat.le_refl _, OwnL.nil _ _ _ _ _⟩ ?_
  rintro _ sd V ⟨i, sv, h6, h5, rfl, hi, hE, hz, hO⟩
  obtain ⟨va, vl, vc, rfl⟩ := hO.slice3
  refine W.fix h6 (W.fix (d := 5) h5 ?_)
  clear h6 h5
  by_cases hil : i < ls.length
  rotate_left
  · obtain rfl : i = ls.length := by omega
    (refine jjB ?_; refine jjB ?_; refine jjC ?_; apply jI; exact eI rfl; apply jI; exact eS rfl; refine jh rfl ?_; refine jja rfl rfl (by omega) ?_; refine jz ?_; refine jjK rfl ?_; refine jjE ?_; refine jjB ?_; refine jjC ?_; apply jI; exact eS rfl; apply jJ; exact eS rfl; apply jJ; exact eI rfl; refine jz ?_; refine jjF ?_; refine jC rfl rfl rfl ⟨inferInstance, ?_⟩)
    exact ⟨_, rfl, hO.mono hE2.size⟩
  have hgd : ls.getD i noSl = ls[i] := by rw [List.getD_eq_getElem?_getD, List.getElem?_eq_getElem hil, Option.getD_some]
  have hsn := idxI_succ (hasB ls) i
  have hln := idxI_len (hasB ls) i
  obtain ⟨ba, oa, rfl, hAi⟩ := (hrow.h.ext hE).place' (map_get hil)
  (refine jjB ?_; refine jjB ?_; refine jjC ?_; apply jI; exact eI rfl; apply jI; exact eS rfl; refine jh rfl ?_; refine jjZ rfl rfl (by omega) ?_; refine jz ?_; refine jjJ rfl ?_; refine jjG ?_; refine jjB ?_; refine jjD ?_; refine jjB ?_; refine jjC ?_; apply jJ; exact eB rfl; refine jz ?_; refine jjB ?_; refine jjB ?_; refine jjC ?_; apply jJ; exact eI rfl; refine jz ?_; refine jjD ?_)
  refine W.keep [(0, .slice (some ⟨ba, oa, none⟩) ls.length c), (5, .slice va vl vc), (6, .int .i64 ((i : Nat) : Int)), (7, .bool (hasL ls ls[i] 0)), (8, .int .i64 ((0 : Nat) : Int))] (D := (14 :: 15 :: 16 :: 17 :: 7 :: 8 :: 20 :: 21 :: 22 :: 25 :: 26 :: 27 :: 28 :: 29 :: 30 :: 31 :: 32 :: 33 :: 34 :: 35 :: 36 :: 23 :: 24 :: 37 :: 38 :: 39 :: 40 :: 41 :: 5 :: 18 :: 19 :: 6 :: [])) (sO := upds s0 _) (by ((refine Same.upd rfl ?_; refine Same.upd rfl ?_; refine Same.upd rfl ?_; refine Same.upd rfl ?_; refine Same.upd rfl ?_; refine Same.upd rfl ?_; refine Same.upd rfl ?_; refine Same.upd rfl ?_; exact Same.ovN))) ⟨eS rfl, eS rfl, eI rfl, eB rfl, eI rfl, trivial⟩ fun s1 hs1' => ?_
  refine W.loop (20 :: 21 :: 22 :: 25 :: 26 :: 27 :: 28 :: 29 :: 30 :: 31 :: 32 :: 33 :: 34 :: 35 :: 36 :: 7 :: 23 :: 24 :: 8 :: []) (fun g s' V' => ∃ k : Nat, s' 8 = .int .i64 ((k : Nat) : Int) ∧ s' 7 = .bool (hasL ls ls[i] k) ∧ g = i - k ∧ k ≤ i) i ⟨0, rfl, rfl, rfl, Nat.zero_le _⟩ ?_
  rintro _ sd2 V1 hS1 ⟨k, h8, h7, rfl, hk⟩
  refine W.fix h8 (W.fix (d := 7) h7 ?_)
  clear h8 h7
  by_cases hki : k < i
  · have hkl : k < ls.length := by omega
    obtain ⟨bb, ob, hbb, hAk⟩ := (hrow.h.ext hE).place' (map_get hkl)
    obtain ⟨rfl, rfl⟩ : bb = ba ∧ ob = oa := by simpa [eq_comm] using hbb
    have hsc := hasL_succ (x := ls[i]) hkl
    obtain ⟨B, hB⟩ : ∃ B, hasL ls ls[i] k = B := ⟨_, rfl⟩
    rw [hB] at hsc ⊢
    (refine jjB ?_; refine jjB ?_; refine jjC ?_; apply jI; exact eI rfl; apply jI; exact eI rfl; refine jjZ rfl rfl (by omega) ?_; refine jz ?_; refine jjJ rfl ?_; refine jjG ?_; refine jjB ?_; refine jjD ?_)
    refine W.draw (fun w' => Ext V w') ?_
    intro w1 hS3
    have x1 := hS1.ext.trans hS3.ext
    cases B with
    | true =>
      (refine jjV [0, 1, 2, 3, 4, 5, 6, 7, 8, 9, 10, 11, 12] ?_ ?_ ?_; (decide +kernel); (exact x1); (((apply jjT; exact rfl; rintro w' hq; have := hq.toStep; apply jI; exact eB rfl; refine jz ?_; exact ⟨rfl, rfl⟩; apply jjT; exact rfl; rintro w' hq; have := hq.toStep; apply jI; exact eB rfl; refine jz ?_; exact ⟨rfl, rfl⟩; apply jjT; exact rfl; rintro w' hq; have := hq.toStep; refine jU rfl rfl rfl rfl ?_; refine jz ?_; exact ⟨rfl, rfl⟩; apply jjT; exact rfl; rintro w' hq; have := hq.toStep; refine jU rfl rfl rfl rfl ?_; refine jz ?_; exact ⟨rfl, rfl⟩; apply jjT; exact rfl; rintro w' hq; have := hq.toStep; refine jU rfl rfl rfl rfl ?_; refine jz ?_; exact ⟨rfl, rfl⟩; apply jjT; exact rfl; rintro w' hq; have := hq.toStep; refine jU rfl rfl rfl rfl ?_; refine jz ?_; exact ⟨rfl, rfl⟩; apply jjT; exact rfl; rintro w' hq; have := hq.toStep; refine jU rfl rfl rfl rfl ?_; refine jz ?_; exact ⟨rfl, rfl⟩; apply jjT; exact rfl; rintro w' hq; have := hq.toStep; refine jU rfl rfl rfl rfl ?_; refine jz ?_; exact ⟨rfl, rfl⟩; apply jjT; exact rfl; rintro w' hq; have := hq.toStep; refine jU rfl rfl rfl rfl ?_; refine jz ?_; exact ⟨rfl, rfl⟩; apply jjT; exact rfl; rintro w' hq; have := hq.toStep; refine jU rfl rfl rfl rfl ?_; refine jz ?_; exact ⟨rfl, rfl⟩; apply jjT; exact rfl; rintro w' hq; have := hq.toStep; refine jU rfl rfl rfl rfl ?_; refine jz ?_; exact ⟨rfl, rfl⟩; apply jjT; exact rfl; rintro w' hq; have := hq.toStep; apply jK rfl; exact eB rfl; refine jz ?_; exact ⟨rfl, rfl⟩; apply jjT; exact rfl; rintro w' hq; have := hq.toStep; apply jJ; exact eB rfl; refine jz ?_; exact ⟨rfl, rfl⟩; refine jjU ?_))))
      refine jjX (by decide +kernel) x1 ?_
      (refine jjC ?_; apply jI; exact eI rfl; refine jY rfl rfl (by omega) ?_; apply jJ; exact eI rfl; refine jz ?_)
      exact ⟨rfl, by ((refine Same.upd rfl ?_; refine Same.upd rfl ?_; refine Same.upd rfl ?_; refine Same.upd rfl ?_; refine Same.upd rfl ?_; refine Same.upd rfl ?_; refine Same.upd rfl ?_; refine Same.upd rfl ?_; refine Same.upd rfl ?_; refine Same.upd rfl ?_; refine Same.upd rfl ?_; refine Same.upd rfl ?_; refine Same.upd rfl ?_; refine Same.upd rfl ?_; refine Same.upd rfl ?_; refine Same.upd rfl ?_; refine Same.upd rfl ?_; refine Same.upd rfl ?_; refine Same.upd rfl ?_; refine Same.upd rfl ?_; refine Same.upd rfl ?_; exact Same.ovN)), i - (k + 1), by omega, inferInstance, k + 1, congrArg (Value.int .i64) (by omega), congrArg Value.bool hsc.symm, rfl, by omega⟩
    | false =>
      (refine jjV [0, 1, 2, 3, 4, 5, 6, 7, 8, 9] ?_ ?_ ?_; (decide +kernel); (exact x1); (((apply jjT; exact rfl; rintro w' hq; have := hq.toStep; apply jI; exact eB rfl; refine jz ?_; exact ⟨rfl, rfl⟩; apply jjT; exact rfl; rintro w' hq; have := hq.toStep; apply jI; exact eB rfl; refine jz ?_; exact ⟨rfl, rfl⟩; apply jjT; exact rfl; rintro w' hq; have := hq.toStep; refine jT rfl rfl rfl ?_; apply jI; exact eS rfl; refine jz ?_; exact ⟨rfl, rfl⟩; apply jjT; exact rfl; rintro w' hq; have := hq.toStep; refine jT rfl rfl rfl ?_; apply jI; exact eI rfl; refine jz ?_; exact ⟨rfl, rfl⟩; apply jjT; exact rfl; rintro w' hq; have := hq.toStep; refine jT rfl rfl rfl ?_; refine jH _ rfl rfl rfl (by omega) ?_; refine jz ?_; exact ⟨rfl, rfl⟩; apply jjT; exact rfl; rintro w' hq; have := hq.toStep; refine jT rfl rfl rfl ?_; refine jQ rfl rfl ?_; refine jz ?_; exact ⟨rfl, rfl⟩; apply jjT; exact rfl; rintro w' hq; have := hq.toStep; refine jT rfl rfl rfl ?_; apply jI; exact eS rfl; refine jz ?_; exact ⟨rfl, rfl⟩; apply jjT; exact rfl; rintro w' hq; have := hq.toStep; refine jT rfl rfl rfl ?_; apply jI; exact eI rfl; refine jz ?_; exact ⟨rfl, rfl⟩; apply jjT; exact rfl; rintro w' hq; have := hq.toStep; refine jT rfl rfl rfl ?_; refine jH _ rfl rfl rfl (by omega) ?_; refine jz ?_; exact ⟨rfl, rfl⟩; apply jjT; exact rfl; rintro w' hq; have := hq.toStep; refine jT rfl rfl rfl ?_; refine jQ rfl rfl ?_; refine jz ?_; exact ⟨rfl, rfl⟩; refine jjU ?_))))
      refine jjV [10] (by decide +kernel) x1 (jjT (v := .bool (decide (ls[k] = ls[i]))) rfl (fun w' q1 => ?_) (jjU ?_)); (refine jT rfl rfl rfl ?_; refine Ops.eqlT (enc := encSl) ls[k] ls[i] rfl rfl ?_; refine jz ?_; exact ⟨rfl, rfl⟩)
      (refine jjV [11, 12] ?_ ?_ ?_; (decide +kernel); (exact x1); (((apply jjT; exact rfl; rintro w' hq; have := hq.toStep; apply jL rfl; exact eB rfl; refine jz ?_; exact ⟨rfl, rfl⟩; apply jjT; exact rfl; rintro w' hq; have := hq.toStep; apply jJ; exact eB rfl; refine jz ?_; exact ⟨rfl, rfl⟩; refine jjU ?_))))
      refine jjX (by decide +kernel) x1 ?_
      (refine jjC ?_; apply jI; exact eI rfl; refine jY rfl rfl (by omega) ?_; apply jJ; exact eI rfl; refine jz ?_)
      exact ⟨rfl, by ((refine Same.upd rfl ?_; refine Same.upd rfl ?_; refine Same.upd rfl ?_; refine Same.upd rfl ?_; refine Same.upd rfl ?_; refine Same.upd rfl ?_; refine Same.upd rfl ?_; refine Same.upd rfl ?_; refine Same.upd rfl ?_; refine Same.upd rfl ?_; refine Same.upd rfl ?_; refine Same.upd rfl ?_; refine Same.upd rfl ?_; refine Same.upd rfl ?_; refine Same.upd rfl ?_; refine Same.upd rfl ?_; refine Same.upd rfl ?_; refine Same.upd rfl ?_; refine Same.upd rfl ?_; refine Same.upd rfl ?_; refine Same.upd rfl ?_; exact Same.ovN)), i - (k + 1), by omega, inferInstance, k + 1, congrArg (Value.int .i64) (by omega), congrArg Value.bool (hsc.trans (Bool.false_or _)).symm, rfl, by omega⟩
  obtain rfl : k = i := by omega
  obtain ⟨B, hB⟩ : ∃ B, hasL ls ls[k] k = B := ⟨_, rfl⟩
  have hBB : hasB ls k = B := by rw [hasB, hgd]; exact hB
  rw [hBB] at hsn
  rw [hB]
  have e1 := hS1.ext
  cases B with
  | false =>
    (refine jjB ?_; refine jjB ?_; refine jjC ?_; apply jI; exact eI rfl; apply jI; exact eI rfl; refine jja rfl rfl (by omega) ?_; refine jz ?_; refine jjK rfl ?_; refine jjE ?_; refine jjB ?_; refine jjC ?_; apply jI; exact eB rfl; refine jz ?_; refine jjK rfl ?_; refine jjG ?_; refine jjC ?_; apply jI; exact eI rfl; refine jY rfl rfl (by omega) ?_; apply jJ; exact eI rfl; refine jz ?_)
    refine ⟨rfl, by ((refine Same.upd rfl ?_; refine Same.upd rfl ?_; refine Same.upd rfl ?_; refine Same.upd rfl ?_; refine Same.upd rfl ?_; refine Same.upd rfl ?_; refine Same.upd rfl ?_; refine Same.upd rfl ?_; refine Same.upd rfl ?_; refine Same.ovN' rfl ?_; assumption)), ls.length - (k + 1), by omega, k + 1, _, congrArg (Value.int .i64) (by omega), rfl, rfl, by omega, hE.trans e1, by have := e1.size; omega, ?_⟩
    rw [hsn, if_neg (by simp), List.append_nil]; exact hO.ext e1
  | true =>
    (refine jjB ?_; refine jjB ?_; refine jjC ?_; apply jI; exact eI rfl; apply jI; exact eI rfl; refine jja rfl rfl (by omega) ?_; refine jz ?_; refine jjK rfl ?_; refine jjE ?_; refine jjB ?_; refine jjC ?_; apply jI; exact eB rfl; refine jz ?_; refine jjJ rfl ?_; refine jjC ?_; apply jI; exact eS rfl; apply jI; exact eI rfl)
    (refine jjP (v := .int _ _) rfl (by exact rfl) (by exact rfl) (by exact rfl) (by exact rfl) ?_; intro b10 w_b10 hb_b10 hs_b10 hS_b10 hk_b10; have hR_b10 := RowV.one (agg := false) (k := 1) rfl hk_b10)
    have e10 := e1.trans hS_b10.ext
    have y10 := e10.size
    refine Ops.appendL (hO.ext e10) (by omega) hR_b10 rfl rfl rfl rfl (one_int _) ?_ ?_ ?_
    · rw [List.length_map]; simp only [List.length_cons, List.length_nil]; omega
    · rw [List.length_map]; simp only [List.length_cons, List.length_nil]; omega
    intro sv2 u3 hA hO3 _ hown
    obtain ⟨va3, vl3, vc3, rfl⟩ := hO3.slice3
    have zA := hA.g.size
    (apply jJ; exact eS rfl; refine jz ?_; refine jjC ?_; apply jI; exact eI rfl; refine jY rfl rfl (by omega) ?_; apply jJ; exact eI rfl; refine jz ?_)
    refine ⟨rfl, by ((refine Same.upd rfl ?_; refine Same.upd rfl ?_; refine Same.upd rfl ?_; refine Same.upd rfl ?_; refine Same.upd rfl ?_; refine Same.upd rfl ?_; refine Same.upd rfl ?_; refine Same.upd rfl ?_; refine Same.upd rfl ?_; refine Same.upd rfl ?_; refine Same.upd rfl ?_; refine Same.upd rfl ?_; refine Same.upd rfl ?_; refine Same.upd rfl ?_; refine Same.ovN' rfl ?_; assumption)), ls.length - (k + 1), by omega, k + 1, _, congrArg (Value.int .i64) (by omega), rfl, rfl, by omega, hA.ext (hE.trans e10) hE2.size, by omega, ?_⟩
    rw [hsn, if_pos rfl, List.map_append]; exact hO3
end Go.Proofs.YtgmgiepdehlinaaGreatDoor

/- Maps whose keys are there once; maps that are sets. -/
namespace Go.Proofs.YtgmgiepdehlinaaGreatDoor
open Go.RowKit

section
variable {κ : Type} [DecidableEq κ]
abbrev NdG (m : List (κ × Value)) : Prop := (m.map (·.1)).Nodup
theorem mset_keysG (m : List (κ × Value)) (k : κ) (v : Value) : ∀ x, x ∈ (mset m k v).map (·.1) → x = k ∨ x ∈ m.map (·.1) := by
  induction m with
  | nil => intro x hx; simp [mset] at hx; exact .inl hx
  | cons p m ih =>
    obtain ⟨y, u⟩ := p
    intro x hx
    rw [mset] at hx
    split at hx
    · subst_vars; exact .inr hx
    · simp only [List.map_cons, List.mem_cons] at hx ⊢
      rcases hx with hx | hx
      · exact .inr (.inl hx)
      · rcases ih x hx with h | h
        · exact .inl h
        · exact .inr (.inr h)
theorem NdG.set {m : List (κ × Value)} (h : NdG m) (k : κ) (v : Value) : NdG (mset m k v) := by
  induction m with
  | nil => simp [NdG, mset]
  | cons p m ih =>
    obtain ⟨y, u⟩ := p
    simp only [NdG, List.map_cons, List.nodup_cons] at h
    rw [mset]
    split
    · subst_vars; simp only [NdG, List.map_cons, List.nodup_cons]; exact h
    · simp only [NdG, List.map_cons, List.nodup_cons]
      refine ⟨fun hc => ?_, ih h.2⟩
      rcases mset_keysG m k v y hc with e | e
      · rename_i hne; exact hne e.symm
      · exact h.1 e
theorem mget_noG {m : List (κ × Value)} {k : κ} (h : k ∉ m.map (·.1)) : mget m k = none := by
  induction m with
  | nil => rfl
  | cons p m ih =>
    obtain ⟨y, u⟩ := p
    simp only [List.map_cons, List.mem_cons, not_or] at h
    rw [mget, if_neg h.1, ih h.2]
theorem NdG.del {m : List (κ × Value)} (h : NdG m) (k : κ) : NdG (mdel m k) ∧ (∀ x, x ∈ (mdel m k).map (·.1) → x ∈ m.map (·.1)) ∧ ∀ x, mget (mdel m k) x = if x = k then none else mget m x := by
  induction m with
  | nil => simp [NdG, mdel, mget]
  | cons p m ih =>
    obtain ⟨y, u⟩ := p
    simp only [NdG, List.map_cons, List.nodup_cons] at h
    obtain ⟨i1, i2, i3⟩ := ih h.2
    rw [mdel]
    split
    · subst_vars
      refine ⟨h.2, fun x hx => by simp only [List.map_cons, List.mem_cons]; exact .inr hx, fun x => ?_⟩
      rw [mget]
      by_cases e : x = y
      · subst e; rw [if_pos rfl, mget_noG h.1]
      · rw [if_neg e, if_neg e]
    · rename_i hne
      refine ⟨?_, fun x hx => ?_, fun x => ?_⟩
      · simp only [NdG, List.map_cons, List.nodup_cons]
        exact ⟨fun hc => h.1 (i2 y hc), i1⟩
      · simp only [List.map_cons, List.mem_cons] at hx ⊢
        exact hx.imp id (i2 x)
      · rw [mget, mget, i3]
        by_cases e : x = y
        · subst e; rw [if_pos rfl, if_pos rfl, if_neg (fun h => hne h.symm)]
        · rw [if_neg e, if_neg e]
/-- A map that is a set: true for what is in it. -/
structure SetM (S : κ → Bool) (m : List (κ × Value)) : Prop where
  nd : NdG m
  get : ∀ x, mget m x = if S x then some (.bool true) else none
theorem SetM.nil : SetM (fun _ : κ => false) [] := ⟨by simp [NdG], fun x => rfl⟩
theorem SetM.congr {S S' : κ → Bool} {m : List (κ × Value)} (h : SetM S m) (e : ∀ x, S' x = S x) : SetM S' m := ⟨h.nd, fun x => by rw [h.get, e]⟩
theorem SetM.set {S : κ → Bool} {m : List (κ × Value)} (h : SetM S m) (k : κ) : SetM (fun x => decide (x = k) || S x) (mset m k (.bool true)) := ⟨h.nd.set k _, fun x => by
  by_cases e : x = k
  · subst e; rw [mget_set_same]; simp
  · rw [mget_set_other _ _ e, h.get]; simp [e]⟩
theorem SetM.del {S : κ → Bool} {m : List (κ × Value)} (h : SetM S m) (k : κ) : SetM (fun x => !decide (x = k) && S x) (mdel m k) := ⟨(h.nd.del k).1, fun x => by
  rw [(h.nd.del k).2.2]
  by_cases e : x = k
  · simp [e]
  · rw [if_neg e, h.get]; simp [e]⟩
theorem SetM.look {S : κ → Bool} {m : List (κ × Value)} (h : SetM S m) (k : κ) : (mget m k).getD (.bool false) = .bool (S k) := by
  rw [h.get]; cases S k <;> rfl
end
end Go.Proofs.YtgmgiepdehlinaaGreatDoor

/- Places and slips as keys of maps. -/
namespace Go.Proofs.YtgmgiepdehlinaaGreatDoor
open Go.RowKit

section
variable {P : Program} {κ : Type} [DecidableEq κ] {enc : κ → Value} {kt : Nat}
theorem findAsking_of [he : EqT P kt enc] (w : World) (k : κ) : ∀ (es : List MapEntry) (ks : List κ) (i : Nat), es.map (·.key) = ks.map enc →
    (Instr.findAsking kt (enc k) es i).run P w = .ok ((ks.findIdx? (fun x => decide (k = x))).map fun j => (i + j, ((es[j]?).map (·.val)).getD undef)) w
  | [], [], i, _ => rfl
  | [], _ :: _, i, h => by simp at h
  | _ :: _, [], i, h => by simp at h
  | e :: es, x :: ks, i, h => by
    simp only [List.map_cons, List.cons.injEq] at h
    have ih := findAsking_of w k es ks (i + 1) h.2
    have hq := he.eq w k x
    simp only [Instr.findAsking, Sem.run_bind, h.1, hq, Result.andThen]
    by_cases hk : k = x
    · simp [hk, List.findIdx?_cons]
    · simp only [hk, decide_false, ih, List.findIdx?_cons, Bool.false_eq_true, if_false, Option.map_map]
      congr 2
      funext j
      simp; omega
theorem keyL_struct {fs : Array Field} (hu : P.underlying kt = some (.struct fs)) [he : EqT P kt enc] (hag : ∀ k, ∃ cs, enc k = .agg cs) (hc : ∀ (em : Bool) (w : World) (k : κ), (Instr.checkKey em 10000 kt (enc k)).run P w = .ok () w) (hb : ∀ k, Instr.sameBits 10000 (enc k) (enc k) = true) : KeyL P kt enc where
  chk := hc
  find w k es ks hk := by
    have h1 := findAsking_of (P := P) (enc := enc) (kt := kt) w k es ks 0 hk
    simp only [Instr.findKey, Sem.run_bind, run_underlying hu, Result.andThen]
    cases es with
    | nil =>
      cases ks with
      | nil => rfl
      | cons x ks => simp at hk
    | cons e es =>
      have : Instr.findNow (.struct fs) (enc k) (e :: es) 0 = none := by
        obtain ⟨cs, h⟩ := hag k
        simp [Instr.findNow, Instr.sameNow]
      rw [this]
      simpa using h1
  bits := hb
end
theorem chk_place (em : Bool) (w : World) (n : Nat) (p : Pl) : (Instr.checkKey em (n + 2) 28 (encPl p)).run Tryz.prog w = .ok () w := by
  have h := Tryz.underlying28
  have hi := Tryz.underlying3
  simp [Instr.checkKey, run_underlying h, run_underlying hi, part, run_isAgg w tu3, TypeDesc.isAgg]
instance : KeyL Tryz.prog 28 encPl := keyL_struct Tryz.underlying28 (fun k => ⟨_, rfl⟩) (fun em w k => chk_place em w 9998 k) (fun k => by simp [Instr.sameBits])
theorem chk_slip (em : Bool) (w : World) (n : Nat) (x : Slp) : (Instr.checkKey em (n + 3) 30 (encSl x)).run Tryz.prog w = .ok () w := by
  have h := Tryz.underlying30
  have hs := Tryz.underlying9
  have hp := chk_place em w n x.1
  have e1 : (part 28 #[.int .i64 x.1.1, .int .i64 x.1.2.1, .int .i64 x.1.2.2, .string x.2.1, .string x.2.2.1, .string x.2.2.2] 0).run Tryz.prog w = .ok (encPl x.1) w := part_agg tu28 rfl ts28 rfl
  rw [Instr.checkKey]
  simp [run_underlying h, e1, hp, part, run_isAgg w tu9, TypeDesc.isAgg, Instr.checkKey, run_underlying hs]
instance : KeyL Tryz.prog 30 encSl := keyL_struct Tryz.underlying30 (fun k => ⟨_, rfl⟩) (fun em w k => chk_slip em w 9997 k) (fun k => by simp [Instr.sameBits, byteArray_beq])
end Go.Proofs.YtgmgiepdehlinaaGreatDoor

/- The proof engine, part 26: entries of maps, what is read of them. -/
namespace Go.Proofs.YtgmgiepdehlinaaGreatDoor
open Go.RowKit

theorem MapN.app {κ : Type} [DecidableEq κ] {encK : κ → Value} {w w' : World} {b B st : Nat} {m : List (κ × Value)} {k : κ} {v : Value} (h : MapN encK w b m k st) (a : App B w w' v) (hne : v.ownBlock ≠ some b) : MapN encK w' b m k st := by
  obtain ⟨es, cl, i, h1, h2⟩ := h.h
  exact ⟨es, cl, i, a.other h1 hne, h2⟩
section rules
variable {P : Program} {ro : Option Nat} {n : Nat} {all rest : List Oper} {K : Sl → World → Prop} {s : Sl} {w : World} {d : Nat} {ty : Nat} {pos : String} {af : Array Edge}
variable {x y : Operand} {t : Nat}
theorem Ops.lookupV {κ : Type} [DecidableEq κ] {encK : κ → Value} {b kt et : Nat} {m : List (κ × Value)} {k : κ} {z v : Value} {size bytes : Nat} (hv : (mget m k).getD z = v) (hm : MapE encK w b m) (hx : ev n s x = .map (some b)) (hy : ev n s y = encK k) [hk : KeyL P kt encK] [ht : TMap P t kt et] [hz : TS P et z size bytes]
    (h : Ops P ro n all rest K (upd s d v) w) : Ops P ro n all (⟨some d, .lookup t x y false, ty, pos, af, none⟩ :: rest) K s w := by
  subst hv
  exact Ops.lookup hm hx hy h
end rules
/-- A slice of the call's own that is cut: its block is the same. -/
theorem own_cut {a : Option Addr} {n c m : Nat} (h0 : 0 < n) (hm : n ≤ c) : (Value.slice a m c).ownBlock = (Value.slice a n c).ownBlock := by
  cases a <;> rfl
end Go.Proofs.YtgmgiepdehlinaaGreatDoor

/- slip: Missing. -/
namespace Go.Proofs.YtgmgiepdehlinaaGreatDoor
open Go.RowKit

/-- The places whose slip is not in a list. -/
noncomputable def missF (t : Tx) (wd side : Int) (ls : List Slp) : List Pl := ((allS t side wd).filter fun s => !hasL ls s ls.length).map (·.1)
noncomputable def missR (t : Tx) (wd side : Int) (ls : List Slp) : List Pl × Int := if askE t wd side ≠ 0 then ([], askE t wd side) else if listE ls ≠ 0 then ([], listE ls) else (missF t wd side ls, 0)
theorem missR_no {t : Tx} {wd side : Int} {ls : List Slp} (h : askE t wd side ≠ 0) : missR t wd side ls = ([], askE t wd side) := by rw [missR, if_pos h]
theorem missR_bad {t : Tx} {wd side : Int} {ls : List Slp} (h : askE t wd side = 0) (h2 : listE ls ≠ 0) : missR t wd side ls = ([], listE ls) := by rw [missR, if_neg (by simp [h]), if_pos h2]
theorem missR_yes {t : Tx} {wd side : Int} {ls : List Slp} (h : askE t wd side = 0) (h2 : listE ls = 0) : missR t wd side ls = (missF t wd side ls, 0) := by rw [missR, if_neg (by simp [h]), if_neg (by simp [h2])]
theorem hasL_next {l : List Slp} {i : Nat} {x y : Slp} (h : l[i]? = some x) : hasL l y (i + 1) = (decide (y = x) || hasL l y i) := by
  obtain ⟨hi, e⟩ := List.getElem?_eq_some_iff.1 h
  rw [hasL_succ hi, Bool.or_comm, e]
  congr 1
  exact decide_eq_decide.2 ⟨Eq.symm, Eq.symm⟩
section
variable (a : Option Addr) (c : Nat) (cs : List Ch) (wd side : Int) (la : Option Addr) (lc : Nat) (ls : List Slp) (w : World) [hrow : RowI w (.slice a cs.length c) true 2 (cs.map encCh)] [hT : TextI w cs] [hgs : At w 0 0 sidesC] [hmx : MxI w] [hl : RowI w (.slice la ls.length lc) true 6 (ls.map encSl)]
set_option maxHeartbeats 8000000 in
theorem Missing_slip (hs : SmallT cs) (hd : 0 ≤ side ∧ side ≤ 255) (hls : SmallSs ls) : Ct Tryz.prog 12 [.agg #[.slice a cs.length c], encCut wd side, .slice la ls.length lc] w fun v w' => ∃ sv, v = .tuple #[sv, .int .i64 (missR (txF cs) wd side ls).2] ∧ OwnL w' w.heap.size 28 true 3 sv ((missR (txF cs) wd side ls).1.map encPl) := by
  have hls1 := hls.1
  refine Ct.ofWM (by simp) ?_
  (refine jjB ?_; refine jjC ?_)
  (refine jy rfl ?_; intro b3 w_b3 hb_b3 hs_b3 hS_b3 hk_b3; have hA_b3 := At.ofBlock hk_b3)
  skip
  (refine jy rfl ?_; intro b4 w_b4 hb_b4 hs_b4 hS_b4 hk_b4; have hA_b4 := At.ofBlock hk_b4)
  (apply jJ; exact eS rfl; apply jJ; exact eI rfl; refine jz ?_; refine jjB ?_; refine jjB ?_; refine jjC ?_; refine jO rfl rfl rfl rfl ?_; refine jO rfl rfl rfl rfl ?_)
  obtain ⟨e, he⟩ : ∃ e, askE (txF cs) wd side = e := ⟨_, rfl⟩
  have h3 := askE_in (txF cs) wd side
  rw [he] at h3
  refine jjQ ((open_slip a c cs wd side _ hs hd).mono fun v _ _ h => h.trans (by rw [he])) rfl rfl ?_
  rintro _ w8 hS8 rfl
  have hE8 : Ext w w8 := inferInstance
  by_cases h0 : e = 0
  rotate_left
  · (apply jJ; exact eI rfl; refine jz ?_; refine jjB ?_; refine jjC ?_; apply jI; exact eI rfl; refine jjj rfl rfl (by omega) ?_; refine jz ?_; refine jjJ rfl ?_; refine jjB ?_; refine jjC ?_; apply jI; exact eI rfl; apply jJ; exact eS rfl; apply jJ; exact eI rfl; refine jz ?_; refine jjF ?_)
    refine fin2M rfl rfl rfl inferInstance fun w' g => ⟨hE8.ofGrow g (Nat.le_refl _), ?_⟩
    rw [missR_no (by rw [he]; exact h0), he]
    exact ⟨_, rfl, OwnL.nil _ _ _ _ _⟩
  subst h0
  obtain ⟨ht, hc⟩ := askE_zero he
  obtain ⟨e2, he2⟩ : ∃ e, listE ls = e := ⟨_, rfl⟩
  have h32 := listE_in ls
  rw [he2] at h32
  (apply jJ; exact eI rfl; refine jz ?_; refine jjB ?_; refine jjC ?_; apply jI; exact eI rfl; refine jjk rfl rfl (by omega) ?_; refine jz ?_; refine jjK rfl ?_; refine jjG ?_; refine jjB ?_; refine jjB ?_; refine jjC ?_; apply jI; exact eS rfl)
  refine jjQ ((listed_slip la lc ls _ hls).mono fun v _ _ h => h.trans (by rw [he2])) rfl rfl ?_
  rintro _ w9 hS9 rfl
  have hE9 : Ext w w9 := inferInstance
  by_cases h0 : e2 = 0
  rotate_left
  · (apply jJ; exact eI rfl; refine jz ?_; refine jjB ?_; refine jjC ?_; apply jI; exact eI rfl; refine jjj rfl rfl (by omega) ?_; refine jz ?_; refine jjJ rfl ?_; refine jjB ?_; refine jjC ?_; apply jI; exact eI rfl; apply jJ; exact eS rfl; apply jJ; exact eI rfl; refine jz ?_; refine jjF ?_)
    refine fin2M rfl rfl rfl inferInstance fun w' g => ⟨hE9.ofGrow g (Nat.le_refl _), ?_⟩
    rw [missR_bad he (by rw [he2]; exact h0), he2]
    exact ⟨_, rfl, OwnL.nil _ _ _ _ _⟩
  subst h0
  rw [missR_yes he he2]
  (apply jJ; exact eI rfl; refine jz ?_; refine jjB ?_; refine jjC ?_; apply jI; exact eI rfl; refine jjk rfl rfl (by omega) ?_; refine jz ?_; refine jjK rfl ?_; refine jjG ?_; refine jjB ?_; refine jjC ?_)
  refine Ops.makeMap encSl ?_
  intro mb w10 hmb hs10 hS10 hM10
  (apply jjR rfl; (intro _; first|exact eI rfl|exact eB rfl|exact eP rfl|exact eS rfl|exact eT rfl|exact eA rfl|exact eU rfl|exact eF rfl|exact eM rfl|exact eN rfl|exact rfl); exact rfl; exact rfl; exact rfl; exact rfl; intro b10 w_b10 hb_b10 hs_b10 hS_b10 hk_b10; have hA_b10 := Bk.of hk_b10)
  (refine jz ?_; refine jjB ?_; refine jjB ?_; refine jjC ?_; refine jO rfl rfl rfl rfl ?_; refine jO rfl rfl rfl rfl ?_)
  refine jjQ (slips_slip a c cs wd side _) rfl rfl ?_
  rintro _ w16 hS16 ⟨bt, bc, rfl, ⟨hbt, hbc⟩, hA1, hA2⟩
  (refine jz ?_; refine jjD ?_)
  have hE16 : Ext w w16 := inferInstance
  have hsz := hE16.size
  have z10 := hS10.size
  have zb10 := hS_b10.size
  have z16 := hS16.size
  have zE9 := hE9.size
  have hwm : w.heap.size ≤ mb := by omega
  have hmw : mb < w16.heap.size := by omega
  have hbm : b10 ≠ mb := by omega
  have hM16 : MapE encSl w16 mb [] := hM10.ext (hS_b10.ext.trans hS16.ext)
  have hB16 : At w16 b10 0 [.map (some mb)] := inferInstance
  have hB3 : At w16 b3 0 [.slice a cs.length c] := inferInstance
  have hB4 : At w16 b4 0 [.int .i64 wd, .int .u8 side] := inferInstance
  have n3 : b3 < mb := by have := hS8.size; have := hS9.size; have := hS_b4.size; omega
  have n4 : b4 < mb := by have := hS8.size; have := hS9.size; omega
  have hal := allS_len (side := side) (wd := wd) ht
  refine W.range w.heap.size (allS (txF cs) side wd) encSl1 (slips1_slip bt bc a c cs wd side hs ht hc) rfl (fun _ => rfl) trivial inferInstance hsz
    (fun i V => Ext w V ∧ w16.heap.size ≤ V.heap.size ∧ At V b10 0 [.map (some mb)] ∧ (At V b3 0 [.slice a cs.length c] ∧ At V b4 0 [.int .i64 wd, .int .u8 side]) ∧ (At V bt 0 [.slice a cs.length c] ∧ At V bc 0 [.int .i64 wd, .int .u8 side]) ∧ ∃ m, MapE encSl V mb m ∧ SetM (fun x => hasL (allS (txF cs) side wd) x i) m)
    (fun _ _ _ => False) ?hJ (fun _ _ _ _ h _ => h) ?hF ?h0 (fun x s' V => ∃ b, s' 10 = .pointer (some ⟨b10, 0, none⟩) ∧ s' 11 = .pointer (some ⟨b, 0, none⟩) ∧ Bk V b (encSl x).cells.toList 30) (fun x s V V' ⟨b, h1, h2, h3⟩ g => ⟨b, h1, h2, h3.grow g⟩) ?hassign ?hbody ?hdone (fun _ _ _ _ _ _ _ h => h.elim)
  case hJ =>
    rintro i V V' ⟨h1, h2, k10, ⟨k3, k4⟩, ⟨kt, kc⟩, m, hm, hS⟩ g
    exact ⟨h1.ofGrow g hsz, Nat.le_trans h2 g.size, k10.grow g, ⟨k3.grow g, k4.grow g⟩, ⟨kt.grow g, kc.grow g⟩, m, hm.grow g, hS⟩
  case hF =>
    rintro i V ⟨h1, h2, k10, ⟨k3, k4⟩, ⟨kt, kc⟩, m, hm, hS⟩
    exact ⟨h2, kt, kc, hrow.h.ext h1, hT.ext h1, hgs.ext h1⟩
  case h0 => exact ⟨hE16, Nat.le_refl _, hB16, ⟨hB3, hB4⟩, ⟨hA1, hA2⟩, _, hM16, SetM.nil.congr fun x => by simp [hasL]⟩
  case hassign =>
    rintro l i x V hx ⟨h1, h2, k10, ⟨k3, k4⟩, ⟨kt, kc⟩, m, hm, hS⟩ hl hr
    (refine jjC ?_)
    (apply jjR rfl; (intro _; first|exact eI rfl|exact eB rfl|exact eP rfl|exact eS rfl|exact eT rfl|exact eA rfl|exact eU rfl|exact eF rfl|exact eM rfl|exact eN rfl|exact rfl); exact rfl; exact rfl; exact rfl; exact rfl; intro bx w_bx hb_bx hs_bx hS_bx hk_bx; have hA_bx := Bk.of hk_bx)
    (refine jz ?_)
    exact ⟨rfl, hS_bx.ext.tr, Fr.ofExt hS_bx.ext fun k hk => .inl hk, ⟨h1.trans hS_bx.ext, by have := hS_bx.size; omega, k10.ext hS_bx.ext, ⟨k3.ext hS_bx.ext, k4.ext hS_bx.ext⟩, ⟨kt.ext hS_bx.ext, kc.ext hS_bx.ext⟩, m, hm.ext hS_bx.ext, hS⟩, bx, rfl, rfl, inferInstance⟩
  case hbody =>
    rintro l i x s' V hx ⟨h1, h2, k10, ⟨k3, k4⟩, ⟨kt, kc⟩, m, hm, hS⟩ ⟨bx, ha10, ha11, hbx⟩ hl hr
    refine W.fix (d := 10) ha10 (W.fix (d := 11) ha11 ?_)
    clear ha10 ha11
    have hbx' : At V bx 0 [.int .i64 x.1.1, .int .i64 x.1.2.1, .int .i64 x.1.2.2, .string x.2.1, .string x.2.2.1, .string x.2.2.2] := Bk.toAt (h := hbx)
    have ht16 := hA1.lt
    have hc16 := hA2.lt
    (refine jjD ?_; refine jjC ?_; refine jN rfl rfl rfl ?_; refine jO rfl rfl rfl rfl ?_)
    refine Ops.mapUpdate (k := x) hm rfl rfl (eB rfl) ?_
    intro V2 o2 hp2 hM2
    (refine jz ?_)
    exact ⟨hp2.tr hm.loopy, hp2.frS hmw, hp2.ext h1 hwm, by rw [hp2.size]; exact h2, hp2.at_ k10 hbm, ⟨hp2.at_ k3 (by omega), hp2.at_ k4 (by omega)⟩, ⟨hp2.at_ kt (by omega), hp2.at_ kc (by omega)⟩, _, hM2, (hS.set x).congr fun y => hasL_next hx⟩
  case hdone =>
    rintro ds' V hmk htr ⟨h1, h2, k10, ⟨k3, k4⟩, ⟨kt, kc⟩, m, hm, hS⟩
    (refine jjB ?_; refine jjB ?_; refine jjC ?_; apply jI; exact eS rfl; refine jh rfl ?_; apply jI; exact eI rfl; refine jz ?_; refine jjD ?_)
    have hE0 : Ext w V := h1
    have hSL : SetM (fun x => hasL (allS (txF cs) side wd) x (allS (txF cs) side wd).length && !hasL ls x 0) m := hS.congr fun x => by simp [hasL]
    refine W.keep0 [(3, .pointer (some ⟨b3, 0, none⟩)), (4, .pointer (some ⟨b4, 0, none⟩)), (10, .pointer (some ⟨b10, 0, none⟩)), (34, .slice la ls.length lc), (35, .int .i64 (ls.length : Int)), (36, .int .i64 ((0 : Nat) : Int))] ⟨eP rfl, eP rfl, eP rfl, eS rfl, eI rfl, eI rfl, trivial⟩ fun s0 => ?_
    refine W.loopG (37 :: 38 :: 39 :: 13 :: 40 :: 41 :: 42 :: 36 :: []) (fun g s' V' => ∃ j : Nat, s' 36 = .int .i64 ((j : Nat) : Int) ∧ g = ls.length - j ∧ j ≤ ls.length ∧ Ext w V' ∧ w16.heap.size ≤ V'.heap.size ∧ Mks w.heap.size V' ds' ∧ At V' b10 0 [.map (some mb)] ∧ (At V' b3 0 [.slice a cs.length c] ∧ At V' b4 0 [.int .i64 wd, .int .u8 side]) ∧ ∃ m, MapE encSl V' mb m ∧ SetM (fun x => hasL (allS (txF cs) side wd) x (allS (txF cs) side wd).length && !hasL ls x j) m) ls.length ⟨0, rfl, rfl, Nat.zero_le _, h1, h2, hmk, k10, ⟨k3, k4⟩, m, hm, hSL⟩ ?_
    clear hSL hS hm m h1 h2 hmk k10 k3 k4 kt kc htr
    rintro _ sd V1 ⟨j, h36, rfl, hj, h1, h2, hmk, k10, ⟨k3, k4⟩, m, hm, hS⟩
    refine W.fix h36 ?_
    clear h36
    by_cases hjl : j < ls.length
    · have hR1 : RowI V1 (.slice la ls.length lc) true 6 (ls.map encSl) := ⟨hl.h.ext h1⟩
      (refine jjB ?_; refine jjC ?_; refine jjZ rfl rfl (by omega) ?_; refine jz ?_; refine jjB ?_; refine jjJ rfl ?_; refine jjG ?_; refine jjB ?_; refine jjD ?_; refine jjB ?_; refine jjC ?_; refine jF rfl rfl rfl (map_get (by omega)) ?_; intro _ _ _; refine jQ rfl rfl ?_)
      (apply jjR rfl; (intro _; first|exact eI rfl|exact eB rfl|exact eP rfl|exact eS rfl|exact eT rfl|exact eA rfl|exact eU rfl|exact eF rfl|exact eM rfl|exact eN rfl|exact rfl); exact rfl; exact rfl; exact rfl; exact rfl; intro b13 w_b13 hb_b13 hs_b13 hS_b13 hk_b13; have hA_b13 := Bk.of hk_b13)
      have e13 := hS_b13.ext
      have hx' : At w_b13 b13 0 [.int .i64 ls[j].1.1, .int .i64 ls[j].1.2.1, .int .i64 ls[j].1.2.2, .string ls[j].2.1, .string ls[j].2.2.1, .string ls[j].2.2.2] := Bk.toAt (h := hA_b13)
      (refine jz ?_; refine jjC ?_; refine jN rfl rfl rfl ?_; refine jO rfl rfl rfl rfl ?_)
      refine Ops.deleteN (k := ls[j]) (hm.ext e13) rfl rfl ?_
      intro V2 o2 hp2 hM2
      have z13 := e13.size
      (refine jz ?_; refine jjC ?_; refine jY rfl rfl (by omega) ?_; apply jI; exact eI rfl; refine jz ?_)
      refine ⟨rfl, by ((refine Same.upd rfl ?_; refine Same.upd rfl ?_; refine Same.upd rfl ?_; refine Same.upd rfl ?_; refine Same.upd rfl ?_; refine Same.upd rfl ?_; refine Same.upd rfl ?_; refine Same.upd rfl ?_; refine Same.upd rfl ?_; exact Same.ovN)), ls.length - (j + 1), by omega, j + 1, congrArg (Value.int .i64) (by omega), rfl, by omega, hp2.ext (h1.trans e13) hwm, by rw [hp2.size]; omega, hmk.tr (e13.tr.trans (hp2.tr (hm.ext e13).loopy)), hp2.at_ (k10.ext e13) hbm, ⟨hp2.at_ (k3.ext e13) (by omega), hp2.at_ (k4.ext e13) (by omega)⟩, _, hM2, (hS.del ls[j]).congr fun y => ?_⟩
      rw [hasL_next (List.getElem?_eq_getElem hjl), Bool.not_or, ← Bool.and_assoc, ← Bool.and_assoc, Bool.and_comm (!decide _)]
    obtain rfl : j = ls.length := by omega
    (refine jjB ?_; refine jjC ?_; refine jja rfl rfl (by omega) ?_; refine jz ?_; refine jjB ?_; refine jjK rfl ?_; refine jjE ?_; refine jjB ?_; refine jjC ?_)
    ((skip); refine jjY ?_; intro b14 w_b14 hb_b14 hs_b14 hS_b14 hk_b14; have hA_b14 := Bk.of hk_b14)
    (refine jz ?_; refine jjB ?_; refine jjB ?_; refine jjC ?_; refine jO rfl rfl rfl rfl ?_; refine jO rfl rfl rfl rfl ?_)
    have e14 := hS_b14.ext
    have hE14 : Ext w w_b14 := h1.trans e14
    have i1 : RowI w_b14 (.slice a cs.length c) true 2 (cs.map encCh) := ⟨hrow.h.ext hE14⟩
    refine jjQ (slips_slip a c cs wd side _) rfl rfl ?_
    rintro _ w17 hS17 ⟨bt', bc', rfl, ⟨hbt', hbc'⟩, hA1', hA2'⟩
    have e17 := e14.trans hS17.ext
    have hE17 := h1.trans e17
    have hm17 := hm.ext e17
    have hmk17 := hmk.tr e17.tr
    have hB14 : Bk w17 b14 [.slice none 0 0] 41 := hA_b14.ext hS17.ext
    have z14 := e14.size
    have z17 := hS17.size
    have hsz17 := hE17.size
    have hm14 : mb < b14 := by omega
    have hb1014 : b10 < b14 := by have := hB16.lt; omega
    (refine jz ?_; refine jjD ?_)
    refine W.rangeM w.heap.size (allS (txF cs) side wd) encSl1 (slips1_slip bt' bc' a c cs wd side hs ht hc) rfl (fun _ => rfl) trivial hmk17 hsz17
      (fun i V => Ext w V ∧ w17.heap.size ≤ V.heap.size ∧ At V b10 0 [.map (some mb)] ∧ MapE encSl V mb m ∧ (At V bt' 0 [.slice a cs.length c] ∧ At V bc' 0 [.int .i64 wd, .int .u8 side]) ∧ ∃ v, Bk V b14 [v] 41 ∧ OwnL V w17.heap.size 28 true 3 v (((((allS (txF cs) side wd).take i).filter (fun s => !hasL ls s ls.length)).map (·.1)).map encPl))
      (fun _ _ _ => False) ?hJ2 (fun _ _ _ _ h _ => h) ?hF2 ?h02 (MB w17.heap.size b14) ?hW1 ?hW2 ?hW3 (fun x s' V => ∃ b, s' 10 = .pointer (some ⟨b10, 0, none⟩) ∧ s' 14 = .pointer (some ⟨b14, 0, none⟩) ∧ s' 15 = .pointer (some ⟨b, 0, none⟩) ∧ Bk V b (encSl x).cells.toList 30) (fun x s V V' ⟨b5, h1, h2, h2', h3⟩ g => ⟨b5, h1, h2, h2', h3.grow g⟩) ?hassign2 ?hbody2 ?hdone2 (fun _ _ _ _ _ _ _ h => h.elim)
    case hJ2 =>
      rintro i V V' ⟨h1, h2, k10, hm, ⟨kt, kc⟩, v, h3, h4⟩ g
      exact ⟨h1.ofGrow g hsz17, Nat.le_trans h2 g.size, k10.grow g, hm.grow g, ⟨kt.grow g, kc.grow g⟩, v, h3.grow g, h4.grow g⟩
    case hF2 =>
      rintro i V ⟨h1, h2, k10, hm, ⟨kt, kc⟩, v, h3, h4⟩
      exact ⟨kt, kc, hrow.h.ext h1, hT.ext h1, hgs.ext h1⟩
    case h02 => exact ⟨hE17, Nat.le_refl _, k10.ext e17, hm17, ⟨hA1', hA2'⟩, _, hB14, OwnL.nil _ _ _ _ _⟩
    case hW1 => exact fun i V k ⟨h1, h2, _, _, _, v, h3, h4⟩ h => MB.lt h2 h3 h4 h
    case hW2 => exact fun i V V' k ⟨h1, h2, _, _, _, v, h3, h4⟩ g h => MB.back h3 g h
    case hW3 => exact fun V V' k g h => .inl (MB.grow (by omega) g h)
    case hassign2 =>
      rintro l i x V hx ⟨h1, h2, k10, hm, ⟨kt, kc⟩, v, h3, h4⟩ hl hr
      (refine jjC ?_)
      (apply jjR rfl; (intro _; first|exact eI rfl|exact eB rfl|exact eP rfl|exact eS rfl|exact eT rfl|exact eA rfl|exact eU rfl|exact eF rfl|exact eM rfl|exact eN rfl|exact rfl); exact rfl; exact rfl; exact rfl; exact rfl; intro bx w_bx hb_bx hs_bx hS_bx hk_bx; have hA_bx := Bk.of hk_bx)
      (refine jz ?_)
      exact ⟨rfl, hS_bx.ext.tr, Fr.ofExt hS_bx.ext fun k hk => .inl (MB.same h3 (h3.ext hS_bx.ext) hk), ⟨h1.trans hS_bx.ext, by have := hS_bx.size; omega, k10.ext hS_bx.ext, hm.ext hS_bx.ext, ⟨kt.ext hS_bx.ext, kc.ext hS_bx.ext⟩, v, h3.ext hS_bx.ext, h4.ext hS_bx.ext⟩, bx, rfl, rfl, rfl, inferInstance⟩
    case hbody2 =>
      rintro l i x s' V hx ⟨h1, h2, k10, hm, ⟨kt, kc⟩, v, h3, h4⟩ ⟨bx, ha10, ha14, ha15, hbx⟩ hl hr
      have hlt := (List.getElem?_eq_some_iff.1 hx).1
      have hfl := List.length_filter_le (fun s => !hasL ls s ls.length) ((allS (txF cs) side wd).take i)
      rw [List.length_take] at hfl
      have hsn := filter_snoc (f := fun s => !hasL ls s ls.length) hx
      refine W.fix (d := 10) ha10 (W.fix (d := 14) ha14 (W.fix (d := 15) ha15 ?_))
      clear ha10 ha14 ha15
      have hbx' : At V bx 0 [.int .i64 x.1.1, .int .i64 x.1.2.1, .int .i64 x.1.2.2, .string x.2.1, .string x.2.2.1, .string x.2.2.2] := Bk.toAt (h := hbx)
      have hin : hasL (allS (txF cs) side wd) x (allS (txF cs) side wd).length = true := by
        rw [hasL, List.take_length, List.any_eq_true]; exact ⟨x, List.mem_of_getElem? hx, by simp⟩
      obtain ⟨B, hB⟩ : ∃ B, hasL ls x ls.length = B := ⟨_, rfl⟩
      rw [hB] at hsn
      have hlk := hS.look x
      simp only [hin, hB, Bool.true_and] at hlk
      (refine jjD ?_; refine jjB ?_; refine jjC ?_; refine jN rfl rfl rfl ?_; refine jO rfl rfl rfl rfl ?_)
      refine Ops.lookupV hlk hm rfl rfl ?_
      cases B with
      | true =>
        rw [show (!true) = false from rfl]
        (refine jz ?_; refine jjK rfl ?_; refine jjG ?_)
        refine ⟨.refl _, Fr.refl _ _, h1, h2, k10, hm, ⟨kt, kc⟩, v, h3, ?_⟩
        rw [hsn, if_neg (by simp), List.append_nil]; exact h4
      | false =>
        rw [show (!false) = true from rfl]
        (refine jz ?_; refine jjJ rfl ?_; refine jjC ?_; refine jN rfl rfl rfl ?_; refine jm ?_; refine jn rfl ?_; refine jO rfl rfl rfl rfl ?_)
        (refine jjP (v := .agg _) rfl (by exact rfl) (by exact rfl) (by exact rfl) (by exact rfl) ?_; intro b20 w_b20 hb_b20 hs_b20 hS_b20 hk_b20; have hR_b20 := RowV.one (agg := true) (k := 3) rfl hk_b20)
        have hR1 : RowV w_b20 true 3 (.slice (some ⟨b20, 0, none⟩) 1 1) [encPl x.1] := hR_b20
        have hz10 := hS_b20.size
        have h33 := h3
        refine Ops.appendL (h4.ext hS_b20.ext) (by omega) hR1 rfl rfl rfl rfl (one_pl x.1) ?_ ?_ ?_
        · rw [List.length_map, List.length_map]; simp only [List.length_cons, List.length_nil]; omega
        · rw [List.length_map, List.length_map]; simp only [List.length_cons, List.length_nil]; omega
        intro v2 V4 hA hO _ hown2
        obtain ⟨a2, c2', rfl⟩ := hO.slice
        have hbl : ∀ g, v.ownBlock = some g → w17.heap.size ≤ g := fun g hg => (h4.block g hg).1
        have hne : v.ownBlock ≠ some b14 := fun e => by have := hbl b14 e; omega
        have hB2 : Bk V4 b14 [v] 41 := hA.bk (h3.ext hS_b20.ext) hne
        skip
        refine Ops.store rfl rfl rfl rfl rfl ?_
        intro V5 hp5
        (refine jz ?_)
        have hl2 : (Value.slice a2 (((((allS (txF cs) side wd).take i).filter (fun s => !hasL ls s ls.length)).map (·.1)).map encPl ++ [encPl x.1]).length c2').ownBlock ≠ some b14 := fun e => by rcases hown2 with h | h <;> rw [h] at e; exact hne e; cases e; omega
        have hB3 : Bk V5 b14 [.slice a2 (((((allS (txF cs) side wd).take i).filter (fun s => !hasL ls s ls.length)).map (·.1)).map encPl ++ [encPl x.1]).length c2'] 41 := ⟨hp5.new⟩
        have e10 := hS_b20.ext
        have hnb : ∀ b, b < w17.heap.size → v.ownBlock ≠ some b := fun b h e => by have := hbl b e; omega
        have ht16 := hA1'.lt
        have hc16 := hA2'.lt
        have hmS := hm.lt
        have hm4 : MapE encSl V4 mb m := (hm.ext e10).app hA (hnb _ (by omega))
        refine ⟨(e10.tr.trans hA.tr).trans (hp5.tr ⟨_, hB2.h, rfl⟩), ?_, hp5.ext (hA.ext (h1.trans e10) hsz17) (by omega), ?_, hp5.at_ (hA.at_ (k10.ext e10) (hnb _ (by omega))) (by omega), hm4.put hp5 (by omega), ⟨hp5.at_ (hA.at_ (kt.ext e10) (hnb _ ht16)) (by omega), hp5.at_ (hA.at_ (kc.ext e10) (hnb _ hc16)) (by omega)⟩, _, hB3, ?_⟩
        · exact (Fr.ofExt e10 fun k hk => .inl (MB.same h3 (h3.ext e10) hk)).trans (MB.append (by omega) (h3.ext e10) hA hp5 hB3 hown2)
        · have := hA.g.size; rw [hp5.size]; omega
        · simp only [Bool.not_false, if_true] at hsn
          rw [hsn, List.map_append, List.map_append]
          exact hO.put hp5 hl2
    case hdone2 =>
      rintro ds' V hmk htr ⟨h1, h2, k10, hm, ⟨kt, kc⟩, v, h3, h4⟩
      obtain ⟨va, vl, vc, rfl⟩ := h4.slice3
      have := h3
      (refine jjB ?_; refine jjC ?_; refine jN rfl rfl rfl ?_; apply jJ; exact eS rfl; apply jJ; exact eI rfl; refine jz ?_; refine jjF ?_)
      refine fin2M rfl rfl rfl hmk fun w' g => ⟨h1.ofGrow g (Nat.le_refl _), ?_⟩
      rw [List.take_length] at h4
      exact ⟨_, rfl, (h4.grow g).mono hsz17⟩
end
end Go.Proofs.YtgmgiepdehlinaaGreatDoor

/- The proof engine, part 27: a struct that lies within a struct of a known place. -/
namespace Go.Proofs.YtgmgiepdehlinaaGreatDoor
open Go.RowKit
section rules
variable {P : Program} {ro : Option Nat} {n : Nat} {all rest : List Oper} {K : Sl → World → Prop} {s : Sl} {w : World} {d : Nat} {ty : Nat} {pos : String} {af : Array Edge}
variable {x : Operand} {t : Nat}
theorem Ops.loadOA {b o off : Nat} {cs cs' : List Value} {dd : TypeDesc} {z : Value} {size bytes : Nat} (hc : At w b o cs) (hx : ev n s x = .pointer (some ⟨b, o + off, none⟩)) [ht : TU P t dd] (hs : TypeDesc.isAgg dd = true) [hz : TS P t z size bytes]
    (hl : (cs.drop off).take size = cs') (hn : cs'.length = size) (h : Ops P ro n all rest K (upd s d (.agg cs'.toArray)) w) : Ops P ro n all (⟨some d, .load t x, ty, pos, af, none⟩ :: rest) K s w :=
  Ops.loadA (cs := cs') ⟨fun i v hv => by
    refine (hc.drop off).h i v ?_
    rw [← hl, List.getElem?_take] at hv
    split at hv
    · exact hv
    · cases hv⟩ hx hs hn h
end rules
end Go.Proofs.YtgmgiepdehlinaaGreatDoor

/- The reference: Missing. -/
namespace Go.Proofs.YtgmgiepdehlinaaGreatDoor
open Go.RowKit

theorem missN_succ {l : List Slp} {f : Slp → Bool} {i : Nat} (hi : i < l.length) : ((l.take (i + 1)).filter f).map (·.1) = ((l.take i).filter f).map (·.1) ++ (if f l[i] then [l[i].1] else []) := by
  rw [filter_snoc (List.getElem?_eq_getElem hi), List.map_append]
  congr 1
  cases f l[i] <;> rfl
section
variable (a : Option Addr) (c : Nat) (cs : List Ch) (wd side : Int) (la : Option Addr) (lc : Nat) (ls : List Slp) (w : World) [hrow : RowI w (.slice a cs.length c) true 2 (cs.map encCh)] [hT : TextI w cs] [hl : RowI w (.slice la ls.length lc) true 6 (ls.map encSl)]
set_option maxHeartbeats 8000000 in
theorem Missing_ref3 (hs : SmallT cs) (hd : 0 ≤ side ∧ side ≤ 255) (hls : SmallSs ls) : Ct Tryz.prog 13 [.agg #[.slice a cs.length c], encCut wd side, .slice la ls.length lc] w fun v w' => ∃ sv, v = .tuple #[sv, .int .i64 (missR (txF cs) wd side ls).2] ∧ OwnL w' w.heap.size 28 true 3 sv ((missR (txF cs) wd side ls).1.map encPl) := by
  have hls1 := hls.1
  refine Ct.ofW (by simp) ?_
  (refine jjB ?_; refine jjC ?_)
  (refine jy rfl ?_; intro b3 w_b3 hb_b3 hs_b3 hS_b3 hk_b3; have hA_b3 := At.ofBlock hk_b3)
  skip
  (refine jy rfl ?_; intro b4 w_b4 hb_b4 hs_b4 hS_b4 hk_b4; have hA_b4 := At.ofBlock hk_b4)
  (apply jJ; exact eS rfl; apply jJ; exact eI rfl; refine jz ?_; refine jjB ?_; refine jjC ?_; refine jO rfl rfl rfl rfl ?_; refine jO rfl rfl rfl rfl ?_)
  obtain ⟨e, he⟩ : ∃ e, askE (txF cs) wd side = e := ⟨_, rfl⟩
  have h3 := askE_in (txF cs) wd side
  rw [he] at h3
  refine jjQ ((All_ref3 a c cs wd side _ hs hd).mono fun v _ _ h => by rw [he] at h; exact h) rfl rfl ?_
  rintro _ w8 hS8 ⟨sv, rfl, hOs⟩
  by_cases h0 : e = 0
  rotate_left
  · (apply jI; exact eU rfl; refine ju rfl rfl ?_; refine ju rfl rfl ?_; apply jJ; exact rfl; apply jJ; exact eI rfl; refine jz ?_; refine jjB ?_; refine jjB ?_; refine jjC ?_; apply jI; exact eI rfl; refine jjj rfl rfl (by omega) ?_; refine jz ?_; refine jjJ rfl ?_; refine jjB ?_; refine jjC ?_; apply jI; exact eI rfl; apply jJ; exact eS rfl; apply jJ; exact eI rfl; refine jz ?_; refine jjF ?_; refine jC rfl rfl rfl ⟨inferInstance, ?_⟩)
    rw [missR_no (by rw [he]; exact h0), he]
    exact ⟨_, rfl, OwnL.nil _ _ _ _ _⟩
  subst h0
  obtain ⟨ht, hc⟩ := askE_zero he
  obtain ⟨e2, he2⟩ : ∃ e, listE ls = e := ⟨_, rfl⟩
  have h32 := listE_in ls
  rw [he2] at h32
  have hal := allS_len (side := side) (wd := wd) ht
  rw [allR, if_pos he] at hOs
  (apply jI; exact eU rfl; refine ju rfl rfl ?_; refine ju rfl rfl ?_; apply jJ; exact rfl; apply jJ; exact eI rfl; refine jz ?_; refine jjB ?_; refine jjB ?_; refine jjC ?_; apply jI; exact eI rfl; refine jjk rfl rfl (by omega) ?_; refine jz ?_; refine jjK rfl ?_; refine jjG ?_; refine jjB ?_; refine jjB ?_; refine jjC ?_; apply jI; exact eS rfl)
  refine jjQ ((listed_ref3 la lc ls _ hls).mono fun v _ _ h => h.trans (by rw [he2])) rfl rfl ?_
  rintro _ w9 hS9 rfl
  have hE9 : Ext w w9 := inferInstance
  by_cases h0 : e2 = 0
  rotate_left
  · (apply jJ; exact eI rfl; refine jz ?_; refine jjB ?_; refine jjC ?_; apply jI; exact eI rfl; refine jjj rfl rfl (by omega) ?_; refine jz ?_; refine jjJ rfl ?_; refine jjB ?_; refine jjC ?_; apply jI; exact eI rfl; apply jJ; exact eS rfl; apply jJ; exact eI rfl; refine jz ?_; refine jjF ?_; refine jC rfl rfl rfl ⟨inferInstance, ?_⟩)
    rw [missR_bad he (by rw [he2]; exact h0), he2]
    exact ⟨_, rfl, OwnL.nil _ _ _ _ _⟩
  subst h0
  rw [missR_yes he he2, missF]
  replace hOs := hOs.ext hS9.ext
  generalize allS (txF cs) side wd = zs at *
  obtain ⟨aa, ac, rfl⟩ := hOs.slice
  rw [List.length_map] at hOs ⊢
  have hRs := hOs.row
  (apply jJ; exact eI rfl; refine jz ?_; refine jjB ?_; refine jjC ?_; apply jI; exact eI rfl; refine jjk rfl rfl (by omega) ?_; refine jz ?_; refine jjK rfl ?_; refine jjG ?_; refine jjB ?_; refine jjC ?_; apply jJ; exact eS rfl; refine jz ?_; refine jjB ?_; refine jjB ?_; refine jjC ?_; apply jJ; exact eI rfl; refine jz ?_; refine jjD ?_)
  refine W.keep0 [(2, .slice la ls.length lc), (8, .slice aa zs.length ac), (11, .slice none 0 0), (12, .int .i64 ((0 : Nat) : Int))] ⟨eS rfl, eS rfl, eS rfl, eI rfl, trivial⟩ fun s0 => ?_
  refine W.loopG (29 :: 30 :: 31 :: 32 :: 13 :: 14 :: 35 :: 36 :: 37 :: 38 :: 41 :: 42 :: 43 :: 44 :: 45 :: 46 :: 47 :: 48 :: 49 :: 50 :: 51 :: 52 :: 39 :: 40 :: 53 :: 54 :: 55 :: 56 :: 57 :: 58 :: 59 :: 60 :: 61 :: 62 :: 11 :: 33 :: 34 :: 12 :: []) (fun g s' V => ∃ (i : Nat) (lv : Value), s' 12 = .int .i64 ((i : Nat) : Int) ∧ s' 11 = lv ∧ g = zs.length - i ∧ i ≤ zs.length ∧ Ext w9 V ∧ OwnL V w9.heap.size 28 true 3 lv ((((zs.take i).filter fun s => !hasL ls s ls.length).map (·.1)).map encPl)) zs.length ⟨0, _, rfl, rfl, rfl, Nat.zero_le _, .refl _, OwnL.nil _ _ _ _ _⟩ ?_
  rintro _ sd V ⟨i, lv, h12, h11, rfl, hi, hE, hO⟩
  obtain ⟨va, vl, vc, rfl⟩ := hO.slice3
  refine W.fix h12 (W.fix (d := 11) h11 ?_)
  clear h12 h11
  have zE := hE.size
  by_cases hil : i < zs.length
  rotate_left
  · obtain rfl : i = zs.length := by omega
    have hEV := hE9.trans hE
    rw [List.take_length] at hO
    (refine jjB ?_; refine jjB ?_; refine jjC ?_; apply jI; exact eI rfl; apply jI; exact eS rfl; refine jh rfl ?_; refine jja rfl rfl (by omega) ?_; refine jz ?_; refine jjK rfl ?_; refine jjE ?_; refine jjB ?_; refine jjC ?_; apply jI; exact eS rfl; apply jJ; exact eS rfl; apply jJ; exact eI rfl; refine jz ?_; refine jjF ?_; refine jC rfl rfl rfl ⟨inferInstance, ?_⟩)
    exact ⟨_, rfl, hO.mono hE9.size⟩
  have hsn := missN_succ (f := fun s => !hasL ls s ls.length) hil
  have hfl := List.length_filter_le (fun s => !hasL ls s ls.length) (zs.take i)
  rw [List.length_take] at hfl
  obtain ⟨ba, oa, rfl, hAi⟩ := (hRs.ext hE).place' (map_get hil)
  (refine jjB ?_; refine jjB ?_; refine jjC ?_; apply jI; exact eI rfl; apply jI; exact eS rfl; refine jh rfl ?_; refine jjZ rfl rfl (by omega) ?_; refine jz ?_; refine jjJ rfl ?_; refine jjG ?_; refine jjB ?_; refine jjD ?_; refine jjB ?_; refine jjC ?_; apply jJ; exact eB rfl; refine jz ?_; refine jjB ?_; refine jjB ?_; refine jjC ?_; apply jJ; exact eI rfl; refine jz ?_; refine jjD ?_)
  refine W.keep [(2, .slice la ls.length lc), (8, .slice (some ⟨ba, oa, none⟩) zs.length ac), (11, .slice va vl vc), (12, .int .i64 ((i : Nat) : Int)), (13, .bool (hasL ls zs[i] 0)), (14, .int .i64 ((0 : Nat) : Int))] (D := (29 :: 30 :: 31 :: 32 :: 13 :: 14 :: 35 :: 36 :: 37 :: 38 :: 41 :: 42 :: 43 :: 44 :: 45 :: 46 :: 47 :: 48 :: 49 :: 50 :: 51 :: 52 :: 39 :: 40 :: 53 :: 54 :: 55 :: 56 :: 57 :: 58 :: 59 :: 60 :: 61 :: 62 :: 11 :: 33 :: 34 :: 12 :: [])) (sO := upds s0 _) (by ((refine Same.upd rfl ?_; refine Same.upd rfl ?_; refine Same.upd rfl ?_; refine Same.upd rfl ?_; refine Same.upd rfl ?_; refine Same.upd rfl ?_; refine Same.upd rfl ?_; refine Same.upd rfl ?_; exact Same.ovN))) ⟨eS rfl, eS rfl, eS rfl, eI rfl, eB rfl, eI rfl, trivial⟩ fun s1 hs1' => ?_
  refine W.loop (35 :: 36 :: 37 :: 38 :: 41 :: 42 :: 43 :: 44 :: 45 :: 46 :: 47 :: 48 :: 49 :: 50 :: 51 :: 52 :: 13 :: 39 :: 40 :: 14 :: []) (fun g s' V' => ∃ k : Nat, s' 14 = .int .i64 ((k : Nat) : Int) ∧ s' 13 = .bool (hasL ls zs[i] k) ∧ g = ls.length - k ∧ k ≤ ls.length) ls.length ⟨0, rfl, rfl, rfl, Nat.zero_le _⟩ ?_
  rintro _ sd2 V1 hS1 ⟨k, h14, h13, rfl, hk⟩
  refine W.fix h14 (W.fix (d := 13) h13 ?_)
  clear h14 h13
  by_cases hkl : k < ls.length
  · obtain ⟨bb, ob, rfl, hAk⟩ := (hl.h.ext (hE9.trans hE)).place' (map_get hkl)
    have hsc := hasL_succ (x := zs[i]) hkl
    obtain ⟨B, hB⟩ : ∃ B, hasL ls zs[i] k = B := ⟨_, rfl⟩
    rw [hB] at hsc ⊢
    (refine jjB ?_; refine jjB ?_; refine jjC ?_; apply jI; exact eI rfl; apply jI; exact eS rfl; refine jh rfl ?_; refine jjZ rfl rfl (by omega) ?_; refine jz ?_; refine jjJ rfl ?_; refine jjG ?_; refine jjB ?_; refine jjD ?_)
    refine W.draw (fun w' => Ext V w') ?_
    intro w1 hS3
    have x1 := hS1.ext.trans hS3.ext
    cases B with
    | true =>
      (refine jjV [0, 1, 2, 3, 4, 5, 6, 7, 8, 9, 10, 11, 12] ?_ ?_ ?_; (decide +kernel); (exact x1); (((apply jjT; exact rfl; rintro w' hq; have := hq.toStep; apply jI; exact eB rfl; refine jz ?_; exact ⟨rfl, rfl⟩; apply jjT; exact rfl; rintro w' hq; have := hq.toStep; apply jI; exact eB rfl; refine jz ?_; exact ⟨rfl, rfl⟩; apply jjT; exact rfl; rintro w' hq; have := hq.toStep; refine jU rfl rfl rfl rfl ?_; refine jz ?_; exact ⟨rfl, rfl⟩; apply jjT; exact rfl; rintro w' hq; have := hq.toStep; refine jU rfl rfl rfl rfl ?_; refine jz ?_; exact ⟨rfl, rfl⟩; apply jjT; exact rfl; rintro w' hq; have := hq.toStep; refine jU rfl rfl rfl rfl ?_; refine jz ?_; exact ⟨rfl, rfl⟩; apply jjT; exact rfl; rintro w' hq; have := hq.toStep; refine jU rfl rfl rfl rfl ?_; refine jz ?_; exact ⟨rfl, rfl⟩; apply jjT; exact rfl; rintro w' hq; have := hq.toStep; refine jU rfl rfl rfl rfl ?_; refine jz ?_; exact ⟨rfl, rfl⟩; apply jjT; exact rfl; rintro w' hq; have := hq.toStep; refine jU rfl rfl rfl rfl ?_; refine jz ?_; exact ⟨rfl, rfl⟩; apply jjT; exact rfl; rintro w' hq; have := hq.toStep; refine jU rfl rfl rfl rfl ?_; refine jz ?_; exact ⟨rfl, rfl⟩; apply jjT; exact rfl; rintro w' hq; have := hq.toStep; refine jU rfl rfl rfl rfl ?_; refine jz ?_; exact ⟨rfl, rfl⟩; apply jjT; exact rfl; rintro w' hq; have := hq.toStep; refine jU rfl rfl rfl rfl ?_; refine jz ?_; exact ⟨rfl, rfl⟩; apply jjT; exact rfl; rintro w' hq; have := hq.toStep; apply jK rfl; exact eB rfl; refine jz ?_; exact ⟨rfl, rfl⟩; apply jjT; exact rfl; rintro w' hq; have := hq.toStep; apply jJ; exact eB rfl; refine jz ?_; exact ⟨rfl, rfl⟩; refine jjU ?_))))
      refine jjX (by decide +kernel) x1 ?_
      (refine jjC ?_; apply jI; exact eI rfl; refine jY rfl rfl (by omega) ?_; apply jJ; exact eI rfl; refine jz ?_)
      exact ⟨rfl, by ((refine Same.upd rfl ?_; refine Same.upd rfl ?_; refine Same.upd rfl ?_; refine Same.upd rfl ?_; refine Same.upd rfl ?_; refine Same.upd rfl ?_; refine Same.upd rfl ?_; refine Same.upd rfl ?_; refine Same.upd rfl ?_; refine Same.upd rfl ?_; refine Same.upd rfl ?_; refine Same.upd rfl ?_; refine Same.upd rfl ?_; refine Same.upd rfl ?_; refine Same.upd rfl ?_; refine Same.upd rfl ?_; refine Same.upd rfl ?_; refine Same.upd rfl ?_; refine Same.upd rfl ?_; refine Same.upd rfl ?_; refine Same.upd rfl ?_; refine Same.upd rfl ?_; exact Same.ovN)), ls.length - (k + 1), by omega, inferInstance, k + 1, congrArg (Value.int .i64) (by omega), congrArg Value.bool hsc.symm, rfl, by omega⟩
    | false =>
      (refine jjV [0, 1, 2, 3, 4, 5, 6, 7, 8, 9] ?_ ?_ ?_; (decide +kernel); (exact x1); (((apply jjT; exact rfl; rintro w' hq; have := hq.toStep; apply jI; exact eB rfl; refine jz ?_; exact ⟨rfl, rfl⟩; apply jjT; exact rfl; rintro w' hq; have := hq.toStep; apply jI; exact eB rfl; refine jz ?_; exact ⟨rfl, rfl⟩; apply jjT; exact rfl; rintro w' hq; have := hq.toStep; refine jT rfl rfl rfl ?_; apply jI; exact eS rfl; refine jz ?_; exact ⟨rfl, rfl⟩; apply jjT; exact rfl; rintro w' hq; have := hq.toStep; refine jT rfl rfl rfl ?_; apply jI; exact eI rfl; refine jz ?_; exact ⟨rfl, rfl⟩; apply jjT; exact rfl; rintro w' hq; have := hq.toStep; refine jT rfl rfl rfl ?_; refine jH _ rfl rfl rfl (by omega) ?_; refine jz ?_; exact ⟨rfl, rfl⟩; apply jjT; exact rfl; rintro w' hq; have := hq.toStep; refine jT rfl rfl rfl ?_; refine jQ rfl rfl ?_; refine jz ?_; exact ⟨rfl, rfl⟩; apply jjT; exact rfl; rintro w' hq; have := hq.toStep; refine jT rfl rfl rfl ?_; apply jI; exact eS rfl; refine jz ?_; exact ⟨rfl, rfl⟩; apply jjT; exact rfl; rintro w' hq; have := hq.toStep; refine jT rfl rfl rfl ?_; apply jI; exact eI rfl; refine jz ?_; exact ⟨rfl, rfl⟩; apply jjT; exact rfl; rintro w' hq; have := hq.toStep; refine jT rfl rfl rfl ?_; refine jH _ rfl rfl rfl (by omega) ?_; refine jz ?_; exact ⟨rfl, rfl⟩; apply jjT; exact rfl; rintro w' hq; have := hq.toStep; refine jT rfl rfl rfl ?_; refine jQ rfl rfl ?_; refine jz ?_; exact ⟨rfl, rfl⟩; refine jjU ?_))))
      refine jjV [10] (by decide +kernel) x1 (jjT (v := .bool (decide (ls[k] = zs[i]))) rfl (fun w' q1 => ?_) (jjU ?_)); (refine jT rfl rfl rfl ?_; refine Ops.eqlT (enc := encSl) ls[k] zs[i] rfl rfl ?_; refine jz ?_; exact ⟨rfl, rfl⟩)
      (refine jjV [11, 12] ?_ ?_ ?_; (decide +kernel); (exact x1); (((apply jjT; exact rfl; rintro w' hq; have := hq.toStep; apply jL rfl; exact eB rfl; refine jz ?_; exact ⟨rfl, rfl⟩; apply jjT; exact rfl; rintro w' hq; have := hq.toStep; apply jJ; exact eB rfl; refine jz ?_; exact ⟨rfl, rfl⟩; refine jjU ?_))))
      refine jjX (by decide +kernel) x1 ?_
      (refine jjC ?_; apply jI; exact eI rfl; refine jY rfl rfl (by omega) ?_; apply jJ; exact eI rfl; refine jz ?_)
      exact ⟨rfl, by ((refine Same.upd rfl ?_; refine Same.upd rfl ?_; refine Same.upd rfl ?_; refine Same.upd rfl ?_; refine Same.upd rfl ?_; refine Same.upd rfl ?_; refine Same.upd rfl ?_; refine Same.upd rfl ?_; refine Same.upd rfl ?_; refine Same.upd rfl ?_; refine Same.upd rfl ?_; refine Same.upd rfl ?_; refine Same.upd rfl ?_; refine Same.upd rfl ?_; refine Same.upd rfl ?_; refine Same.upd rfl ?_; refine Same.upd rfl ?_; refine Same.upd rfl ?_; refine Same.upd rfl ?_; refine Same.upd rfl ?_; refine Same.upd rfl ?_; refine Same.upd rfl ?_; exact Same.ovN)), ls.length - (k + 1), by omega, inferInstance, k + 1, congrArg (Value.int .i64) (by omega), congrArg Value.bool (hsc.trans (Bool.false_or _)).symm, rfl, by omega⟩
  obtain rfl : k = ls.length := by omega
  obtain ⟨B, hB⟩ : ∃ B, hasL ls zs[i] ls.length = B := ⟨_, rfl⟩
  rw [hB] at hsn ⊢
  have e1 := hS1.ext
  cases B with
  | true =>
    simp only [Bool.not_true, Bool.false_eq_true, if_false, List.append_nil] at hsn
    (refine jjB ?_; refine jjB ?_; refine jjC ?_; apply jI; exact eI rfl; apply jI; exact eS rfl; refine jh rfl ?_; refine jja rfl rfl (by omega) ?_; refine jz ?_; refine jjK rfl ?_; refine jjE ?_; refine jjB ?_; refine jjC ?_; apply jI; exact eB rfl; refine jp rfl ?_; refine jz ?_; refine jjK rfl ?_; refine jjG ?_; refine jjC ?_; apply jI; exact eI rfl; refine jY rfl rfl (by omega) ?_; apply jJ; exact eI rfl; refine jz ?_)
    refine ⟨rfl, by ((refine Same.upd rfl ?_; refine Same.upd rfl ?_; refine Same.upd rfl ?_; refine Same.upd rfl ?_; refine Same.upd rfl ?_; refine Same.upd rfl ?_; refine Same.upd rfl ?_; refine Same.upd rfl ?_; refine Same.upd rfl ?_; refine Same.upd rfl ?_; refine Same.upd rfl ?_; refine Same.ovN' rfl ?_; assumption)), zs.length - (i + 1), by omega, i + 1, _, congrArg (Value.int .i64) (by omega), rfl, rfl, by omega, hE.trans e1, ?_⟩
    rw [hsn]; exact hO.ext e1
  | false =>
    simp only [Bool.not_false, if_true] at hsn
    (refine jjB ?_; refine jjB ?_; refine jjC ?_; apply jI; exact eI rfl; apply jI; exact eS rfl; refine jh rfl ?_; refine jja rfl rfl (by omega) ?_; refine jz ?_; refine jjK rfl ?_; refine jjE ?_; refine jjB ?_; refine jjC ?_; apply jI; exact eB rfl; refine jq rfl ?_; refine jz ?_; refine jjJ rfl ?_; refine jjC ?_; apply jI; exact eS rfl; apply jI; exact eS rfl; apply jI; exact eI rfl)
    refine jH i rfl rfl rfl hil ?_
    (refine jm ?_; refine jn rfl ?_)
    refine Ops.loadOA (hAi.ext e1) rfl rfl rfl rfl ?_
    skip
    (refine jjP (v := .agg _) rfl (by exact rfl) (by exact rfl) (by exact rfl) (by exact rfl) ?_; intro b10 w_b10 hb_b10 hs_b10 hS_b10 hk_b10; have hR_b10 := RowV.one (agg := true) (k := 3) rfl hk_b10)
    have hR1 : RowV w_b10 true 3 (.slice (some ⟨b10, 0, none⟩) 1 1) [encPl zs[i].1] := hR_b10
    have e10 := e1.trans hS_b10.ext
    have y10 := e10.size
    refine Ops.appendL (hO.ext e10) (by omega) hR1 rfl rfl rfl rfl (one_pl _) ?_ ?_ ?_
    · rw [List.length_map, List.length_map]; simp only [List.length_cons, List.length_nil]; omega
    · rw [List.length_map, List.length_map]; simp only [List.length_cons, List.length_nil]; omega
    intro sv2 u3 hA hO3 _ hown
    obtain ⟨va3, vl3, vc3, rfl⟩ := hO3.slice3
    (apply jJ; exact eS rfl; refine jz ?_; refine jjC ?_; apply jI; exact eI rfl; refine jY rfl rfl (by omega) ?_; apply jJ; exact eI rfl; refine jz ?_)
    refine ⟨rfl, by ((refine Same.upd rfl ?_; refine Same.upd rfl ?_; refine Same.upd rfl ?_; refine Same.upd rfl ?_; refine Same.upd rfl ?_; refine Same.upd rfl ?_; refine Same.upd rfl ?_; refine Same.upd rfl ?_; refine Same.upd rfl ?_; refine Same.upd rfl ?_; refine Same.upd rfl ?_; refine Same.upd rfl ?_; refine Same.upd rfl ?_; refine Same.upd rfl ?_; refine Same.upd rfl ?_; refine Same.upd rfl ?_; refine Same.upd rfl ?_; refine Same.upd rfl ?_; refine Same.upd rfl ?_; refine Same.upd rfl ?_; refine Same.ovN' rfl ?_; assumption)), zs.length - (i + 1), by omega, i + 1, _, congrArg (Value.int .i64) (by omega), rfl, rfl, by omega, hA.ext (hE.trans e10) (Nat.le_refl _), ?_⟩
    rw [hsn, List.map_append]; exact hO3
end
end Go.Proofs.YtgmgiepdehlinaaGreatDoor

/- The reference: Great, GreatList (of slips). -/
namespace Go.Proofs.YtgmgiepdehlinaaGreatDoor
open Go.RowKit

def greatSl (x : Slp) : Bool := decide (40 < x.2.1.size) || (decide (120 < x.2.2.1.size) || decide (120 < x.2.2.2.size))
def greatLs (ls : List Slp) : Bool := decide (800 < ls.length) || ls.any greatSl
theorem small_of_greatSl {x : Slp} (h : greatSl x = false) : SmallS x := by
  simp only [greatSl, Bool.or_eq_false_iff, decide_eq_false_iff_not] at h
  exact ⟨by omega, by omega, by omega⟩
theorem small_of_greatLs {ls : List Slp} (h : greatLs ls = false) : SmallSs ls := by
  simp only [greatLs, Bool.or_eq_false_iff, decide_eq_false_iff_not, List.any_eq_false] at h
  exact ⟨by omega, fun x hx => small_of_greatSl (by have := h.2 x hx; simpa using this)⟩
theorem GreatSl_ref3 (x : Slp) (w : World) : Ct Tryz.prog 5 [encSl x] w fun v _ => v = .bool (greatSl x) := by
  refine Ct.ofW (by simp) ?_
  (refine jjB ?_; refine jjC ?_)
  (refine jy rfl ?_; intro b1 w_b1 hb_b1 hs_b1 hS_b1 hk_b1; have hA_b1 := At.ofBlock hk_b1)
  by_cases h1 : 40 < x.2.1.size
  · (apply jJ; exact eB rfl; refine jz ?_; refine jjB ?_; refine jjC ?_; refine jm ?_; refine jn rfl ?_; refine jN rfl rfl rfl ?_; refine ji rfl ?_; refine jjd rfl rfl (by omega) ?_; apply jI; exact eB rfl; refine jU rfl rfl rfl rfl ?_; refine jU rfl rfl rfl rfl ?_; refine jU rfl rfl rfl rfl ?_; refine jU rfl rfl rfl rfl ?_; apply jK rfl; exact eB rfl; apply jI; exact eB rfl; refine jU rfl rfl rfl rfl ?_; refine jU rfl rfl rfl rfl ?_; refine jU rfl rfl rfl rfl ?_; refine jU rfl rfl rfl rfl ?_; apply jK rfl; exact eB rfl; apply jJ; exact eB rfl; refine jz ?_; refine jjF ?_; refine jB rfl rfl ⟨inferInstance, ?_⟩)
    rw [greatSl, decide_eq_true h1]; exact rfl
  by_cases h2 : 120 < x.2.2.1.size
  · (apply jJ; exact eB rfl; refine jz ?_; refine jjB ?_; refine jjC ?_; refine jm ?_; refine jn rfl ?_; refine jN rfl rfl rfl ?_; refine ji rfl ?_; refine jje rfl rfl (by omega) ?_; apply jI; exact eB rfl; refine jT rfl rfl rfl ?_; refine jm ?_; refine jn rfl ?_; refine jT rfl rfl rfl ?_; refine jN rfl rfl rfl ?_; refine jT rfl rfl rfl ?_; refine ji rfl ?_; refine jT rfl rfl rfl ?_; refine jjd rfl rfl (by omega) ?_; apply jL rfl; exact eB rfl; apply jI; exact eB rfl; refine jU rfl rfl rfl rfl ?_; refine jU rfl rfl rfl rfl ?_; refine jU rfl rfl rfl rfl ?_; refine jU rfl rfl rfl rfl ?_; apply jK rfl; exact eB rfl; apply jJ; exact eB rfl; refine jz ?_; refine jjF ?_; refine jB rfl rfl ⟨inferInstance, ?_⟩)
    rw [greatSl, decide_eq_false h1, decide_eq_true h2]; exact rfl
  by_cases h3 : 120 < x.2.2.2.size
  · (apply jJ; exact eB rfl; refine jz ?_; refine jjB ?_; refine jjC ?_; refine jm ?_; refine jn rfl ?_; refine jN rfl rfl rfl ?_; refine ji rfl ?_; refine jje rfl rfl (by omega) ?_; apply jI; exact eB rfl; refine jT rfl rfl rfl ?_; refine jm ?_; refine jn rfl ?_; refine jT rfl rfl rfl ?_; refine jN rfl rfl rfl ?_; refine jT rfl rfl rfl ?_; refine ji rfl ?_; refine jT rfl rfl rfl ?_; refine jje rfl rfl (by omega) ?_; apply jL rfl; exact eB rfl; apply jI; exact eB rfl; refine jT rfl rfl rfl ?_; refine jm ?_; refine jn rfl ?_; refine jT rfl rfl rfl ?_; refine jN rfl rfl rfl ?_; refine jT rfl rfl rfl ?_; refine ji rfl ?_; refine jT rfl rfl rfl ?_; refine jjd rfl rfl (by omega) ?_; apply jL rfl; exact eB rfl; apply jJ; exact eB rfl; refine jz ?_; refine jjF ?_; refine jB rfl rfl ⟨inferInstance, ?_⟩)
    rw [greatSl, decide_eq_false h1, decide_eq_false h2, decide_eq_true h3]; exact rfl
  · (apply jJ; exact eB rfl; refine jz ?_; refine jjB ?_; refine jjC ?_; refine jm ?_; refine jn rfl ?_; refine jN rfl rfl rfl ?_; refine ji rfl ?_; refine jje rfl rfl (by omega) ?_; apply jI; exact eB rfl; refine jT rfl rfl rfl ?_; refine jm ?_; refine jn rfl ?_; refine jT rfl rfl rfl ?_; refine jN rfl rfl rfl ?_; refine jT rfl rfl rfl ?_; refine ji rfl ?_; refine jT rfl rfl rfl ?_; refine jje rfl rfl (by omega) ?_; apply jL rfl; exact eB rfl; apply jI; exact eB rfl; refine jT rfl rfl rfl ?_; refine jm ?_; refine jn rfl ?_; refine jT rfl rfl rfl ?_; refine jN rfl rfl rfl ?_; refine jT rfl rfl rfl ?_; refine ji rfl ?_; refine jT rfl rfl rfl ?_; refine jje rfl rfl (by omega) ?_; apply jL rfl; exact eB rfl; apply jJ; exact eB rfl; refine jz ?_; refine jjF ?_; refine jB rfl rfl ⟨inferInstance, ?_⟩)
    rw [greatSl, decide_eq_false h1, decide_eq_false h2, decide_eq_false h3]; exact rfl
set_option maxHeartbeats 1000000 in
theorem GreatList_ref3 (a : Option Addr) (c : Nat) (ls : List Slp) (w : World) [hrow : RowI w (.slice a ls.length c) true 6 (ls.map encSl)] : Ct Tryz.prog 6 [.slice a ls.length c] w fun v _ => v = .bool (greatLs ls) := by
  have hlen := hrow.h.len
  rw [List.length_map] at hlen
  refine Ct.ofW (by simp) ?_
  by_cases h8 : 800 < ls.length
  · (refine jjB ?_; refine jjC ?_; apply jJ; exact eB rfl; refine jz ?_; refine jjB ?_; refine jjB ?_; refine jjC ?_; apply jI; exact eS rfl; refine jh rfl ?_; refine jjd rfl rfl (by omega) ?_; refine jz ?_; refine jjJ rfl ?_; refine jjB ?_; refine jjC ?_; apply jJ; exact eB rfl; refine jz ?_; refine jjF ?_; refine jB rfl rfl ⟨inferInstance, ?_⟩)
    rw [greatLs, decide_eq_true h8]; exact rfl
  (refine jjB ?_; refine jjC ?_; apply jJ; exact eB rfl; refine jz ?_; refine jjB ?_; refine jjB ?_; refine jjC ?_; apply jI; exact eS rfl; refine jh rfl ?_; refine jje rfl rfl (by omega) ?_; refine jz ?_; refine jjK rfl ?_; refine jjG ?_; refine jjB ?_; refine jjB ?_; refine jjC ?_; apply jJ; exact eI rfl; refine jz ?_; refine jjD ?_)
  refine W.keep0 [(0, .slice a ls.length c), (3, .int .i64 ((0 : Nat) : Int))] ⟨eS rfl, eI rfl, trivial⟩ fun s0 => ?_
  refine W.loop (7 :: 8 :: 9 :: 10 :: 13 :: 14 :: 15 :: 16 :: 17 :: 2 :: 11 :: 12 :: 3 :: []) (fun g s' V => ∃ i : Nat, s' 3 = .int .i64 ((i : Nat) : Int) ∧ g = ls.length - i ∧ i ≤ ls.length ∧ ∀ (j : Nat) (hj : j < ls.length), j < i → greatSl ls[j] = false) ls.length ⟨0, rfl, rfl, Nat.zero_le _, by intros; omega⟩ ?_
  rintro _ sd V hS ⟨i, h3, rfl, hi, hpre⟩
  refine W.fix h3 ?_
  clear h3
  by_cases hil : i < ls.length
  rotate_left
  · (refine jjB ?_; refine jjB ?_; refine jjC ?_; apply jI; exact eI rfl; apply jI; exact eS rfl; refine jh rfl ?_; refine jja rfl rfl (by omega) ?_; refine jz ?_; refine jjK rfl ?_; refine jjE ?_; refine jjB ?_; refine jjC ?_; apply jJ; exact eB rfl; refine jz ?_; refine jjF ?_; refine jB rfl rfl ⟨inferInstance, ?_⟩)
    rw [greatLs, decide_eq_false h8, any_miss fun j hj => hpre j hj (by omega)]; exact rfl
  obtain ⟨B, hB⟩ : ∃ B, greatSl ls[i] = B := ⟨_, rfl⟩
  (refine jjB ?_; refine jjB ?_; refine jjC ?_; apply jI; exact eI rfl; apply jI; exact eS rfl; refine jh rfl ?_; refine jjZ rfl rfl (by omega) ?_; refine jz ?_; refine jjJ rfl ?_; refine jjG ?_; refine jjB ?_; refine jjD ?_; refine jjB ?_; refine jjC ?_; apply jI; exact eS rfl; apply jI; exact eI rfl; refine jF rfl rfl rfl (map_get (by omega)) ?_; intro _ _ _; refine jQ rfl rfl ?_)
  refine jjQ ((GreatSl_ref3 ls[i] _).mono fun v _ _ h => h.trans (by rw [hB])) rfl rfl ?_
  rintro _ w2 hS2 rfl
  cases B
  · (refine jz ?_; refine jjK rfl ?_; refine jjG ?_; refine jjC ?_; apply jI; exact eI rfl; refine jY rfl rfl (by omega) ?_; apply jJ; exact eI rfl; refine jz ?_)
    refine ⟨rfl, by ((refine Same.upd rfl ?_; refine Same.upd rfl ?_; refine Same.upd rfl ?_; refine Same.upd rfl ?_; refine Same.upd rfl ?_; refine Same.upd rfl ?_; refine Same.upd rfl ?_; refine Same.upd rfl ?_; refine Same.upd rfl ?_; refine Same.upd rfl ?_; refine Same.upd rfl ?_; refine Same.upd rfl ?_; refine Same.upd rfl ?_; exact Same.ovN)), ls.length - (i + 1), by omega, inferInstance, i + 1, congrArg (Value.int .i64) (by omega), rfl, by omega, fun j hj hjk => ?_⟩
    by_cases e : j = i
    · subst e; exact hB
    · exact hpre j hj (by omega)
  · (refine jz ?_; refine jjJ rfl ?_; refine jjB ?_; refine jjC ?_; apply jJ; exact eB rfl; refine jz ?_; refine jjF ?_; refine jB rfl rfl ⟨inferInstance, ?_⟩)
    rw [greatLs, any_hit hil hB, Bool.or_true]; exact rfl
end Go.Proofs.YtgmgiepdehlinaaGreatDoor

/- The reference: Twin. -/
namespace Go.Proofs.YtgmgiepdehlinaaGreatDoor
open Go.RowKit

/-- Lines of the call's own. -/
structure OwnLn (w : World) (B : Nat) (v : Value) (ys : List Ln) : Prop where
  out : OwnL w B 61 false 1 v (ys.map encLn)
  ins : ∀ y ∈ ys, OwnL w B 9 false 1 (encLn y) (y.2.2.map strV)
theorem OwnLn.ext {w w' : World} {B : Nat} {v : Value} {ys : List Ln} (h : OwnLn w B v ys) (hs : Ext w w') : OwnLn w' B v ys := ⟨h.out.ext hs, fun y hy => (h.ins y hy).ext hs⟩
theorem OwnLn.put {w w' : World} {B b : Nat} {o : Obj} {v : Value} {ys : List Ln} (h : OwnLn w B v ys) (p : PutO w w' b o) (hb : b < B) : OwnLn w' B v ys :=
  ⟨h.out.put p fun e => by have := (h.out.block _ e).1; omega, fun y hy => (h.ins y hy).put p fun e => by have := ((h.ins y hy).block _ e).1; omega⟩
theorem OwnLn.mono {w : World} {B B' : Nat} {v : Value} {ys : List Ln} (h : OwnLn w B v ys) (hB : B' ≤ B) : OwnLn w B' v ys := ⟨h.out.mono hB, fun y hy => (h.ins y hy).mono hB⟩
/-- Chapters of the call's own. -/
structure OwnCh (w : World) (B : Nat) (v : Value) (cs : List Ch) : Prop where
  out : OwnL w B 60 true 2 v (cs.map encCh)
  ins : ∀ x ∈ cs, OwnLn w B (.slice x.2.1 x.2.2.2.length x.2.2.1) x.2.2.2
theorem OwnCh.ext {w w' : World} {B : Nat} {v : Value} {cs : List Ch} (h : OwnCh w B v cs) (hs : Ext w w') : OwnCh w' B v cs := ⟨h.out.ext hs, fun y hy => (h.ins y hy).ext hs⟩
theorem OwnCh.put {w w' : World} {B b : Nat} {o : Obj} {v : Value} {cs : List Ch} (h : OwnCh w B v cs) (p : PutO w w' b o) (hb : b < B) : OwnCh w' B v cs :=
  ⟨h.out.put p fun e => by have := (h.out.block _ e).1; omega, fun y hy => (h.ins y hy).put p hb⟩
theorem OwnCh.mono {w : World} {B B' : Nat} {v : Value} {cs : List Ch} (h : OwnCh w B v cs) (hB : B' ≤ B) : OwnCh w B' v cs := ⟨h.out.mono hB, fun y hy => (h.ins y hy).mono hB⟩
theorem OwnCh.text {w : World} {B : Nat} {v : Value} {cs : List Ch} (h : OwnCh w B v cs) : TextI w cs := ⟨fun x hx => (h.ins x hx).out.row, fun x hx y hy => ((h.ins x hx).ins y hy).row⟩
theorem OwnLn.only {kb : Nat} {w w' : World} {B : Nat} {v : Value} {ys : List Ln} (h : OwnLn w B v ys) (o : Only kb w w') (hB : kb < B) : OwnLn w' B v ys := ⟨o.own h.out hB, fun y hy => o.own (h.ins y hy) hB⟩
/-- A row lies in no block of another type. -/
theorem OwnL.neB {w : World} {B e e' k b : Nat} {agg : Bool} {v : Value} {xs : List Value} {cs : List Value} (h : OwnL w B e agg k v xs) (hb : Bk w b cs e') (he : e ≠ e') : v.ownBlock ≠ some b := fun hv => by
  rcases h.own.2 with ⟨rfl, _⟩ | ⟨g, cap, cur, rfl, _, hg, _⟩
  · simp [Value.ownBlock] at hv
  · simp only [Value.ownBlock, Option.some.injEq] at hv
    subst hv
    rw [hb.h] at hg
    cases hg
    exact he rfl
/-- Chapters of the call's own, none of which lies in the block b, nor behind it. -/
theorem OwnCh.only {kb : Nat} {w w' : World} {B : Nat} {v : Value} {cs : List Ch} (h : OwnCh w B v cs) (o : Only kb w w') (hout : v.ownBlock ≠ some kb) (hb : ∃ vs, Bk w kb vs 60) : OwnCh w' B v cs := by
  obtain ⟨vs, hb⟩ := hb
  exact ⟨o.own' h.out hout, fun x hx => ⟨o.own' (h.ins x hx).out ((h.ins x hx).out.neB hb (by decide)), fun y hy => o.own' ((h.ins x hx).ins y hy) (((h.ins x hx).ins y hy).neB hb (by decide))⟩⟩
theorem OwnLn.appC {w w' : World} {B B' B'' : Nat} {v u : Value} {ys : List Ln} {us : List Value} (h : OwnLn w B v ys) (ho : OwnL w B' 60 true 2 u us) (a : App B'' w w' u) : OwnLn w' B v ys :=
  ⟨h.out.app a (OwnL.ne h.out ho (by decide)), fun y hy => (h.ins y hy).app a (OwnL.ne (h.ins y hy) ho (by decide))⟩
theorem one_ln (y : Ln) : [encLn y].all (fun v => v.cells.toList.all (·.oneCell')) = true := rfl
theorem one_ch (y : Ch) : [encCh y].all (fun v => v.cells.toList.all (·.oneCell')) = true := rfl
theorem all_strs (ws : List ByteArray) : (ws.map strV).all (fun v => v.cells.toList.all (·.oneCell')) = true := by
  rw [List.all_eq_true]
  intro x hx
  obtain ⟨s, _, rfl⟩ := List.mem_map.1 hx
  rfl

section
variable (a : Option Addr) (c : Nat) (cs : List Ch) (w : World) [hrow : RowI w (.slice a cs.length c) true 2 (cs.map encCh)] [hT : TextI w cs]
set_option maxHeartbeats 4000000 in
theorem Twin_ref1 (hs : SmallT cs) : Ct Tryz.prog 7 [.agg #[.slice a cs.length c]] w fun v w' => ∃ a' c' ds, v = .agg #[.slice a' (ds.map encCh).length c'] ∧ txF ds = txF cs ∧ OwnCh w' w.heap.size (.slice a' (ds.map encCh).length c') ds := by
  have hs1 := hs.1
  refine Ct.ofW (by simp) ?_
  (refine jjB ?_; refine jjC ?_)
  (refine jy rfl ?_; intro b1 w_b1 hb_b1 hs_b1 hS_b1 hk_b1; have hA_b1 := At.ofBlock hk_b1)
  ((skip); refine jjY ?_; intro b2 w_b2 hb_b2 hs_b2 hS_b2 hk_b2; have hA_b2 := Bk.of hk_b2)
  (((refine jz ?_; refine jjB ?_; refine jjC ?_)); refine jjY ?_; intro b3 w_b3 hb_b3 hs_b3 hS_b3 hk_b3; have hA_b3 := Bk.of hk_b3)
  (refine jz ?_; refine jjB ?_; refine jjB ?_; refine jjC ?_; apply jJ; exact eI rfl; refine jz ?_; refine jjD ?_)
  have hE3 : Ext w w_b3 := inferInstance
  have hz3 := hE3.size
  have hB2 : Bk w_b3 b2 [.slice none 0 0] 24 := inferInstance
  have hB1 : At w_b3 b1 0 [.slice a cs.length c] := inferInstance
  refine W.keep0 [(1, .pointer (some ⟨b1, 0, none⟩)), (2, .pointer (some ⟨b2, 0, none⟩)), (3, .pointer (some ⟨b3, 0, none⟩)), (4, .int .i64 ((0 : Nat) : Int))] ⟨eP rfl, eP rfl, eP rfl, eI rfl, trivial⟩ fun s0 => ?_
  refine W.loopG (7 :: 8 :: 9 :: 10 :: 11 :: 14 :: 15 :: 16 :: 17 :: 18 :: 19 :: 20 :: 5 :: 6 :: 21 :: 22 :: 23 :: 24 :: 25 :: 26 :: 27 :: 28 :: 29 :: 32 :: 33 :: 34 :: 35 :: 36 :: 37 :: 38 :: 39 :: 40 :: 41 :: 42 :: 43 :: 44 :: 45 :: 46 :: 47 :: 30 :: 31 :: 48 :: 49 :: 50 :: 51 :: 52 :: 53 :: 12 :: 13 :: 4 :: []) (fun g s' V => ∃ (k : Nat) (cv : Value) (ds : List Ch), s' 4 = .int .i64 ((k : Nat) : Int) ∧ g = cs.length - k ∧ k ≤ cs.length ∧ Only b3 w_b3 V ∧ Bk V b3 [cv] 24 ∧ OwnCh V w_b3.heap.size cv ds ∧ txF ds = (txF cs).take k) cs.length ⟨0, _, [], rfl, rfl, Nat.zero_le _, .ofExt (.refl _), hA_b3, ⟨OwnL.nil _ _ _ _ _, by simp⟩, rfl⟩ ?_
  rintro _ sd V ⟨k, cv, ds, h4, rfl, hk, hOn, hV3, hOd, htx⟩
  refine W.fix h4 ?_
  clear h4
  have zOn := hOn.size
  have hEV : Ext w V := hOn.ext hE3 (by omega)
  have hb1V : At V b1 0 [.slice a cs.length c] := hOn.at_ hB1 (by omega)
  have hTV : TextI V cs := hT.ext hEV
  have hrV : RowI V (.slice a cs.length c) true 2 (cs.map encCh) := ⟨hrow.h.ext hEV⟩
  have hB2V : Bk V b2 [.slice none 0 0] 24 := hOn.bk hB2 (by omega)
  have hdl : ds.length ≤ 1000 := by have := congrArg List.length htx; rw [txF_len, List.length_take] at this; omega
  by_cases hkc : k < cs.length
  rotate_left
  · have hke : k = cs.length := by omega
    rw [hke, ← txF_len cs, List.take_length] at htx
    obtain ⟨ca, cc, rfl⟩ := hOd.out.slice
    have := Bk.toAt (h := hV3)
    (refine jjB ?_; refine jjB ?_; refine jjC ?_; apply jI; exact eI rfl; refine jm ?_; refine jn rfl ?_; refine jN rfl rfl rfl ?_; refine jh rfl ?_; refine jja rfl rfl (by omega) ?_; refine jz ?_; refine jjK rfl ?_; refine jjE ?_; refine jjB ?_; refine jjC ?_; refine jO rfl rfl rfl rfl ?_)
    refine Ops.store rfl rfl rfl rfl rfl ?_
    intro V2 hp2
    have hA2 : At V2 b2 0 [.slice ca (ds.map encCh).length cc] := Bk.toAt (h := ⟨hp2.new⟩)
    (refine jz ?_; refine jjF ?_)
    exact fin1C rfl rfl rfl rfl rfl ⟨hp2.ext hEV (by omega), ca, cc, ds, rfl, htx, (hOd.put hp2 (by omega)).mono (by omega)⟩
  have hgk := List.getElem?_eq_getElem hkc
  have hsk := hs.2 _ (List.getElem_mem hkc)
  obtain ⟨ba, oa, rfl, hAc⟩ := hrow.h.place' (map_get hkc)
  have hAc1 : At w ba (oa + k * 2) [.int .i64 cs[k].1, .slice cs[k].2.1 cs[k].2.2.2.length cs[k].2.2.1] := hAc
  clear hAc
  (refine jjB ?_; refine jjB ?_; refine jjC ?_; apply jI; exact eI rfl; refine jm ?_; refine jn rfl ?_; refine jN rfl rfl rfl ?_; refine jh rfl ?_; refine jjZ rfl rfl (by omega) ?_; refine jz ?_; refine jjJ rfl ?_; refine jjG ?_; refine jjB ?_; refine jjD ?_; refine jjB ?_; refine jjC ?_; refine jm ?_; refine jn rfl ?_; refine jN rfl rfl rfl ?_; apply jI; exact eI rfl; refine jF rfl rfl rfl (map_get (by omega)) ?_; intro _ _ _; refine jm ?_; refine jn rfl ?_; refine jP rfl rfl rfl ?_)
  (refine jjS (cells := [.int .i64 cs[k].1, .slice none 0 0]) ?_ ?_; exact rfl)
  (apply jjR rfl; (intro _; first|exact eI rfl|exact eB rfl|exact eP rfl|exact eS rfl|exact eT rfl|exact eA rfl|exact eU rfl|exact eF rfl|exact eM rfl|exact eN rfl|exact rfl); exact rfl; exact rfl; exact rfl; exact rfl; intro b5 w_b5 hb_b5 hs_b5 hS_b5 hk_b5; have hA_b5 := Bk.of hk_b5)
  (refine jz ?_; refine jjB ?_; refine jjB ?_; refine jjC ?_; apply jJ; exact eI rfl; refine jz ?_; refine jjD ?_)
  have hE5 := hS_b5.ext
  have z5 := hE5.size
  have hw5 : Ext w w_b5 := hEV.trans hE5
  refine W.keep [(1, .pointer (some ⟨b1, 0, none⟩)), (2, .pointer (some ⟨b2, 0, none⟩)), (3, .pointer (some ⟨b3, 0, none⟩)), (4, .int .i64 ((k : Nat) : Int)), (5, .pointer (some ⟨b5, 0, none⟩)), (6, .int .i64 ((0 : Nat) : Int))] (D := (7 :: 8 :: 9 :: 10 :: 11 :: 14 :: 15 :: 16 :: 17 :: 18 :: 19 :: 20 :: 5 :: 6 :: 21 :: 22 :: 23 :: 24 :: 25 :: 26 :: 27 :: 28 :: 29 :: 32 :: 33 :: 34 :: 35 :: 36 :: 37 :: 38 :: 39 :: 40 :: 41 :: 42 :: 43 :: 44 :: 45 :: 46 :: 47 :: 30 :: 31 :: 48 :: 49 :: 50 :: 51 :: 52 :: 53 :: 12 :: 13 :: 4 :: [])) (sO := upds s0 _) (by ((refine Same.upd rfl ?_; refine Same.upd rfl ?_; refine Same.upd rfl ?_; refine Same.upd rfl ?_; refine Same.upd rfl ?_; refine Same.upd rfl ?_; refine Same.upd rfl ?_; refine Same.upd rfl ?_; refine Same.upd rfl ?_; refine Same.upd rfl ?_; refine Same.upd rfl ?_; refine Same.upd rfl ?_; refine Same.upd rfl ?_; refine Same.upd rfl ?_; refine Same.upd rfl ?_; exact Same.ovN))) ⟨eP rfl, eP rfl, eP rfl, eI rfl, eP rfl, eI rfl, trivial⟩ fun s1 hs1' => ?_
  refine W.loopG (21 :: 22 :: 23 :: 24 :: 25 :: 26 :: 27 :: 28 :: 29 :: 32 :: 33 :: 34 :: 35 :: 36 :: 37 :: 38 :: 39 :: 40 :: 41 :: 42 :: 43 :: 44 :: 45 :: 46 :: 47 :: 30 :: 31 :: 6 :: []) (fun g s' V2 => ∃ (n : Nat) (lv : Value) (ys : List Ln), s' 6 = .int .i64 ((n : Nat) : Int) ∧ g = cs[k].2.2.2.length - n ∧ n ≤ cs[k].2.2.2.length ∧ Only b5 w_b5 V2 ∧ Bk V2 b5 [.int .i64 cs[k].1, lv] 60 ∧ OwnLn V2 w_b5.heap.size lv ys ∧ ys.map (·.2.2) = (cs[k].2.2.2.map (·.2.2)).take n) cs[k].2.2.2.length ⟨0, _, [], rfl, rfl, Nat.zero_le _, .ofExt (.refl _), hA_b5, ⟨OwnL.nil _ _ _ _ _, by simp⟩, rfl⟩ ?_
  rintro _ sd2 V2 ⟨n, lv, ys, h6, rfl, hn, hOn2, hV5, hOy, hyw⟩
  refine W.fix h6 ?_
  clear h6
  have zOn2 := hOn2.size
  have hE2 : Ext w V2 := hOn2.ext hw5 (by omega)
  have hb12 : At V2 b1 0 [.slice (some ⟨ba, oa, none⟩) cs.length c] := hOn2.at_ (hb1V.ext hE5) (by have := hb1V.lt; omega)
  have hT2 : TextI V2 cs := hT.ext hE2
  have hr2 : RowI V2 (.slice (some ⟨ba, oa, none⟩) cs.length c) true 2 (cs.map encCh) := ⟨hrow.h.ext hE2⟩
  have hyl : ys.length ≤ 1000 := by have := congrArg List.length hyw; rw [List.length_map, List.length_take, List.length_map] at this; omega
  obtain ⟨la, lc, hlv⟩ := hOy.out.slice
  rw [List.length_map] at hlv
  subst hlv
  have := Bk.toAt (h := hV5)
  by_cases hnl : n < cs[k].2.2.2.length
  rotate_left
  · have hne : n = (cs[k].2.2.2.map (·.2.2)).length := by rw [List.length_map]; omega
    rw [hne, List.take_length] at hyw
    have hcvb : cv.ownBlock ≠ some b5 := fun e => by have := (hOd.out.block _ e).2; omega
    have hOd2 : OwnCh V2 w_b3.heap.size cv ds := (hOd.ext hE5).only hOn2 hcvb ⟨_, hA_b5⟩
    have hV32 : Bk V2 b3 [cv] 24 := hOn2.bk (hV3.ext hE5) (by have := hV3.lt; omega)
    obtain ⟨ca, cc, hcv⟩ := hOd2.out.slice
    rw [List.length_map] at hcv
    subst hcv
    have := Bk.toAt (h := hV32)
    (refine jjB ?_; refine jjB ?_; refine jjC ?_; apply jI; exact eI rfl; refine jm ?_; refine jn rfl ?_; refine jN rfl rfl rfl ?_; apply jI; exact eI rfl; refine jF rfl rfl rfl (map_get (by omega)) ?_; intro _ _ _; refine jm ?_; refine jn rfl ?_; refine jP rfl rfl rfl ?_; refine jh rfl ?_; refine jja rfl rfl (by omega) ?_; refine jz ?_; refine jjK rfl ?_; refine jjE ?_; refine jjC ?_; refine jm ?_; refine jn rfl ?_; refine jN rfl rfl rfl ?_; refine jO rfl rfl rfl rfl ?_)
    (refine jjP (v := .agg _) rfl (by exact rfl) (by exact rfl) (by exact rfl) (by exact rfl) ?_; intro b51 w_b51 hb_b51 hs_b51 hS_b51 hk_b51; have hR_b51 := RowV.one (agg := true) (k := 2) rfl hk_b51)
    have hR1 : RowV w_b51 true 2 (.slice (some ⟨b51, 0, none⟩) 1 1) [encCh (cs[k].1, la, lc, ys)] := hR_b51
    have e51 := hS_b51.ext
    have z51 := e51.size
    refine Ops.appendL (hOd2.out.ext e51) (by omega) hR1 rfl rfl rfl rfl (one_ch _) ?_ ?_ ?_
    · rw [List.length_map]; simp only [List.length_cons, List.length_nil]; omega
    · rw [List.length_map]; simp only [List.length_cons, List.length_nil]; omega
    intro cv2 V4 hA hO _ hown2
    have zA := hA.g.size
    have hV34 : Bk V4 b3 [.slice ca ds.length cc] 24 := hA.bk (hV32.ext e51) (hOd2.out.neB hV32 (by decide))
    rw [← List.map_singleton, ← List.map_append] at hO
    obtain ⟨ca2, cl2, cc2, rfl⟩ := hO.slice3
    (refine jm ?_; refine jn rfl ?_)
    refine Ops.store rfl rfl rfl rfl rfl ?_
    intro V6 hp6
    (refine jz ?_; refine jjC ?_; apply jI; exact eI rfl; refine jY rfl rfl (by omega) ?_; apply jJ; exact eI rfl; refine jz ?_)
    have hOnF : Only b3 w_b3 V6 := (((hOn.trans (.ofExt (hOn2.ext hE5 (by omega)))).trans (.ofExt e51)).app hA (Nat.le_refl _)).trans (.ofPut hp6)
    have hOdF : OwnCh V4 w_b3.heap.size (.slice ca2 cl2 cc2) (ds ++ [(cs[k].1, la, lc, ys)]) := ⟨hO, fun x hx => by
      rcases List.mem_append.1 hx with hx | hx
      · exact ((hOd2.ins x hx).ext e51).appC (hOd2.out.ext e51) hA
      · obtain rfl := List.mem_singleton.1 hx
        exact ((hOy.ext e51).appC (hOd2.out.ext e51) hA).mono (by omega)⟩
    refine ⟨rfl, by ((refine Same.upd rfl ?_; refine Same.upd rfl ?_; refine Same.upd rfl ?_; refine Same.upd rfl ?_; refine Same.upd rfl ?_; refine Same.upd rfl ?_; refine Same.upd rfl ?_; refine Same.upd rfl ?_; refine Same.upd rfl ?_; refine Same.upd rfl ?_; refine Same.upd rfl ?_; refine Same.upd rfl ?_; refine Same.upd rfl ?_; refine Same.upd rfl ?_; refine Same.upd rfl ?_; refine Same.upd rfl ?_; refine Same.upd rfl ?_; refine Same.upd rfl ?_; refine Same.upd rfl ?_; refine Same.ovN' rfl ?_; assumption)), cs.length - (k + 1), by omega, k + 1, _, ds ++ [(cs[k].1, la, lc, ys)], congrArg (Value.int .i64) (by omega), rfl, by omega, hOnF, ⟨hp6.new⟩, hOdF.put hp6 (by omega), ?_⟩
    have hg : (txF cs)[k]? = some (txC cs[k]) := by simp [txF, hkc]
    rw [take_snoc_get hg, ← htx, txF, List.map_append]
    show _ ++ [(cs[k].1, ys.map (·.2.2))] = _
    rw [hyw]; rfl
  have hsn := hsk.2 _ (List.getElem_mem hnl)
  obtain ⟨bl, ol, el, hAl⟩ := (hT.line hkc).h.place' (map_get hnl)
  rw [Nat.mul_one] at hAl
  have hAc2 := hAc1
  rw [el] at hAc2
  have hW := (hT.word hkc hnl).h
  (refine jjB ?_; refine jjB ?_; refine jjC ?_; apply jI; exact eI rfl; refine jm ?_; refine jn rfl ?_; refine jN rfl rfl rfl ?_; apply jI; exact eI rfl; refine jF rfl rfl rfl (map_get (by omega)) ?_; intro _ _ _; refine jm ?_; refine jn rfl ?_; refine jP rfl rfl rfl ?_; refine jh rfl ?_; refine jjZ rfl rfl (by omega) ?_; refine jz ?_; refine jjJ rfl ?_; refine jjG ?_; refine jjB ?_; refine jjD ?_)
  refine W.drawX 16 (fun w' => At w' b1 0 [.slice (some ⟨ba, oa, none⟩) cs.length c] ∧ At w' ba (oa + k * 2) [.int .i64 cs[k].1, .slice (some ⟨bl, ol, none⟩) cs[k].2.2.2.length cs[k].2.2.1] ∧ At w' bl (ol + n) (encLn cs[k].2.2.2[n]).cells.toList ∧ At w' b5 0 [.int .i64 cs[k].1, .slice la ys.length lc]) ?_
  intro w1 hS1
  have x1 := hS1.ext
  have s1 := And.intro (hb12.ext x1) (And.intro (hAc2.ext (hE2.trans x1)) (And.intro (hAl.ext (hE2.trans x1)) ((Bk.toAt (h := hV5)).ext x1)))
  (refine AnyX.take [0, 1, 3, 4, 5, 6, 7, 8, 9, 10, 11] ?_ ?_ ?_; (decide +kernel); (exact s1); (((apply jjT; exact rfl; rintro w' ⟨q0, q1, q2, q3⟩; refine jm ?_; refine jn rfl ?_; refine jz ?_; exact ⟨rfl, rfl⟩; apply jjT; exact rfl; rintro w' ⟨q0, q1, q2, q3⟩; refine jN rfl rfl rfl ?_; refine jz ?_; exact ⟨rfl, rfl⟩; apply jjT; exact rfl; rintro w' ⟨q0, q1, q2, q3⟩; refine jm ?_; refine jn rfl ?_; refine jz ?_; exact ⟨rfl, rfl⟩; apply jjT; exact rfl; rintro w' ⟨q0, q1, q2, q3⟩; refine jN rfl rfl rfl ?_; refine jz ?_; exact ⟨rfl, rfl⟩; apply jjT; exact rfl; rintro w' ⟨q0, q1, q2, q3⟩; apply jI; exact eI rfl; refine jz ?_; exact ⟨rfl, rfl⟩; apply jjT; exact rfl; rintro w' ⟨q0, q1, q2, q3⟩; refine jH _ rfl rfl rfl (by omega) ?_; refine jz ?_; exact ⟨rfl, rfl⟩; apply jjT; exact rfl; rintro w' ⟨q0, q1, q2, q3⟩; refine jm ?_; refine jn rfl ?_; refine jz ?_; exact ⟨rfl, rfl⟩; apply jjT; exact rfl; rintro w' ⟨q0, q1, q2, q3⟩; refine jP rfl rfl rfl ?_; refine jz ?_; exact ⟨rfl, rfl⟩; apply jjT; exact rfl; rintro w' ⟨q0, q1, q2, q3⟩; apply jI; exact eI rfl; refine jz ?_; exact ⟨rfl, rfl⟩; apply jjT; exact rfl; rintro w' ⟨q0, q1, q2, q3⟩; refine jG rfl rfl rfl (by omega) ?_; refine jz ?_; exact ⟨rfl, rfl⟩; apply jjT; exact rfl; rintro w' ⟨q0, q1, q2, q3⟩; refine jQ rfl rfl ?_; refine jz ?_; exact ⟨rfl, rfl⟩; refine jjU ?_))))
  (apply AnyX.one 2; (decide +kernel); exact rfl; (exact s1))
  refine Ops.buildSlice0 ?_
  intro b34 w3 hb34 hs34 hS34 hk34
  refine jz ?_
  have x3 := x1.trans hS34.ext
  have z1 := x1.size
  have hO34 : OwnL w3 w1.heap.size 9 false 1 (.slice (some ⟨b34, 0, none⟩) 0 0) [] := OwnL.empty (by omega) hk34
  have s3 := And.intro (hb12.ext x3) (And.intro (hAc2.ext (hE2.trans x3)) (And.intro (hAl.ext (hE2.trans x3)) ((Bk.toAt (h := hV5)).ext x3)))
  (apply AnyX.one 12; (decide +kernel); exact rfl; (exact s3))
  refine Ops.appendL hO34 (by omega) (hW.ext (hE2.trans x3)) rfl rfl rfl rfl (all_strs _) ?_ ?_ ?_
  · simp only [List.length_map, List.length_nil]; omega
  · simp only [List.length_map, List.length_nil]; omega
  intro v6 w6 hA6 hO6 _ _
  rw [List.nil_append] at hO6
  obtain ⟨a6, c6, hv6⟩ := hO6.slice
  rw [List.length_map] at hv6
  subst hv6
  refine jz ?_
  have x6 : Ext V2 w6 := hA6.ext x3 z1
  have s6 := And.intro (hb12.ext x6) (And.intro (hAc2.ext (hE2.trans x6)) (And.intro (hAl.ext (hE2.trans x6)) ((Bk.toAt (h := hV5)).ext x6)))
  (apply AnyX.one 13; (decide +kernel); exact rfl; (exact s6))
  (refine jjP (v := .slice _ _ _) rfl (by exact rfl) (by exact rfl) (by exact rfl) (by exact rfl) ?_; intro b45 w_b45 hb_b45 hs_b45 hS_b45 hk_b45; have hR_b45 := RowV.one (agg := false) (k := 1) rfl hk_b45)
  refine jz ?_
  have hR45 : RowV w_b45 false 1 (.slice (some ⟨b45, 0, none⟩) 1 1) [encLn (a6, c6, cs[k].2.2.2[n].2.2)] := hR_b45
  have x45 := x6.trans hS_b45.ext
  have z45 := x45.size
  have s45 := And.intro (hb12.ext x45) (And.intro (hAc2.ext (hE2.trans x45)) (And.intro (hAl.ext (hE2.trans x45)) ((Bk.toAt (h := hV5)).ext x45)))
  (apply AnyX.one 14; (decide +kernel); exact rfl; (exact s45))
  refine Ops.appendL (hOy.out.ext x45) (by omega) hR45 rfl rfl rfl rfl (one_ln _) ?_ ?_ ?_
  · rw [List.length_map]; simp only [List.length_cons, List.length_nil]; omega
  · rw [List.length_map]; simp only [List.length_cons, List.length_nil]; omega
  intro lv2 w9 hA9 hO9 _ hown9
  refine jz ?_
  have hnb : ∀ b, b < w_b5.heap.size → (Value.slice la ys.length lc).ownBlock ≠ some b := fun b h e => by have := (hOy.out.block _ e).1; omega
  have lta := hAc1.lt
  have ltl := hAl.lt
  have lt1 := hb1V.lt
  have zw := hEV.size
  have s9 := And.intro (hA9.at_ (hb12.ext x45) (hnb _ (by omega))) (And.intro (hA9.at_ (hAc2.ext (hE2.trans x45)) (hnb _ (by omega))) (And.intro (hA9.at_ (hAl.ext (hE2.trans x45)) (hnb _ (by omega))) (hA9.at_ ((Bk.toAt (h := hV5)).ext x45) (hnb _ (by omega)))))
  (refine AnyX.take [15] ?_ ?_ ?_; (decide +kernel); (exact s9); (((apply jjT; exact rfl; rintro w' ⟨q0, q1, q2, q3⟩; refine jm ?_; refine jn rfl ?_; refine jz ?_; exact ⟨rfl, rfl⟩; refine jjU ?_))))
  (apply AnyX.one 16; (decide +kernel); exact rfl; (exact s9))
  have hB5 : Bk w9 b5 [.int .i64 cs[k].1, .slice la ys.length lc] 60 := hA9.bk (hV5.ext x45) (hnb _ (by omega))
  rw [← List.map_singleton, ← List.map_append] at hO9
  obtain ⟨la2, ll2, lc2, rfl⟩ := hO9.slice3
  refine Ops.storeC (cs := [.int .i64 cs[k].1, .slice la ys.length lc]) (j := 1) (v := .slice la2 ll2 lc2) rfl rfl rfl rfl (show 1 < 2 by omega) ?_
  intro wF hpF
  refine jz ?_
  refine AnyX.done (by decide +kernel) ?_
  have hOnF : Only b5 w_b5 wF := ((hOn2.trans (.ofExt x45)).app hA9 (Nat.le_refl _)).trans (.ofPut hpF)
  have hOyF : OwnLn w9 w_b5.heap.size (.slice la2 ll2 lc2) (ys ++ [(a6, c6, cs[k].2.2.2[n].2.2)]) := ⟨hO9, fun y hy => by
    rcases List.mem_append.1 hy with hy | hy
    · exact ((hOy.ins y hy).ext x45).app hA9 (OwnL.ne ((hOy.ins y hy).ext x45) (hOy.out.ext x45) (by decide))
    · obtain rfl := List.mem_singleton.1 hy
      exact ((hO6.ext hS_b45.ext).app hA9 (OwnL.ne (hO6.ext hS_b45.ext) (hOy.out.ext x45) (by decide))).mono (by omega)⟩
  (refine jjC ?_; apply jI; exact eI rfl; refine jY rfl rfl (by omega) ?_; apply jJ; exact eI rfl; refine jz ?_)
  refine ⟨rfl, by ((refine Same.upd rfl ?_; refine Same.upd rfl ?_; refine Same.upd rfl ?_; refine Same.upd rfl ?_; refine Same.upd rfl ?_; refine Same.upd rfl ?_; refine Same.upd rfl ?_; refine Same.upd rfl ?_; refine Same.upd rfl ?_; refine Same.upd rfl ?_; refine Same.upd rfl ?_; refine Same.upd rfl ?_; refine Same.upd rfl ?_; refine Same.upd rfl ?_; refine Same.upd rfl ?_; refine Same.upd rfl ?_; refine Same.upd rfl ?_; refine Same.upd rfl ?_; refine Same.upd rfl ?_; refine Same.upd rfl ?_; refine Same.upd rfl ?_; refine Same.upd rfl ?_; refine Same.upd rfl ?_; refine Same.upd rfl ?_; refine Same.upd rfl ?_; refine Same.upd rfl ?_; refine Same.upd rfl ?_; refine Same.upd rfl ?_; refine Same.upd rfl ?_; exact Same.ovN)), cs[k].2.2.2.length - (n + 1), by omega, n + 1, _, ys ++ [(a6, c6, cs[k].2.2.2[n].2.2)], congrArg (Value.int .i64) (by omega), rfl, by omega, hOnF, ⟨hpF.new⟩, hOyF.put hpF (by omega), ?_⟩
  have hg : (cs[k].2.2.2.map (·.2.2))[n]? = some cs[k].2.2.2[n].2.2 := by simp [hnl]
  rw [take_snoc_get hg, ← hyw, List.map_append]; rfl
end
end Go.Proofs.YtgmgiepdehlinaaGreatDoor

/- The reference: Same (texts). -/
namespace Go.Proofs.YtgmgiepdehlinaaGreatDoor
open Go.RowKit

section
variable (a a' : Option Addr) (c c' : Nat) (cs ds : List Ch) (w : World) [hrow : RowI w (.slice a cs.length c) true 2 (cs.map encCh)] [hT : TextI w cs] [hrow' : RowI w (.slice a' ds.length c') true 2 (ds.map encCh)] [hT' : TextI w ds]
set_option maxHeartbeats 4000000 in
theorem Same_ref1 (hs : SmallT cs) : Ct Tryz.prog 18 [.agg #[.slice a cs.length c], .agg #[.slice a' ds.length c']] w fun v _ => v = .bool (decide (txF cs = txF ds)) := by
  have hs1 := hs.1
  refine Ct.ofW (by simp) ?_
  (refine jjB ?_; refine jjC ?_)
  (refine jy rfl ?_; intro b2 w_b2 hb_b2 hs_b2 hS_b2 hk_b2; have hA_b2 := At.ofBlock hk_b2)
  skip
  (refine jy rfl ?_; intro b3 w_b3 hb_b3 hs_b3 hS_b3 hk_b3; have hA_b3 := At.ofBlock hk_b3)
  by_cases hl : cs.length = ds.length
  rotate_left
  · (apply jJ; exact eB rfl; refine jz ?_; refine jjB ?_; refine jjB ?_; refine jjC ?_; refine jm ?_; refine jn rfl ?_; refine jN rfl rfl rfl ?_; refine jh rfl ?_; refine jm ?_; refine jn rfl ?_; refine jN rfl rfl rfl ?_; refine jh rfl ?_; refine jjj rfl rfl (by omega) ?_; refine jz ?_; refine jjJ rfl ?_; refine jjB ?_; refine jjC ?_; apply jJ; exact eB rfl; refine jz ?_; refine jjF ?_; refine jB rfl rfl ⟨inferInstance, ?_⟩)
    rw [decide_eq_false (fun e => hl (by have := congrArg List.length e; rwa [txF_len, txF_len] at this))]; exact rfl
  (apply jJ; exact eB rfl; refine jz ?_; refine jjB ?_; refine jjB ?_; refine jjC ?_; refine jm ?_; refine jn rfl ?_; refine jN rfl rfl rfl ?_; refine jh rfl ?_; refine jm ?_; refine jn rfl ?_; refine jN rfl rfl rfl ?_; refine jh rfl ?_; refine jjk rfl rfl (by omega) ?_; refine jz ?_; refine jjK rfl ?_; refine jjG ?_; refine jjB ?_; refine jjB ?_; refine jjC ?_; apply jJ; exact eI rfl; refine jz ?_; refine jjD ?_)
  refine W.keep0 [(2, .pointer (some ⟨b2, 0, none⟩)), (3, .pointer (some ⟨b3, 0, none⟩)), (5, .int .i64 ((0 : Nat) : Int))] ⟨eP rfl, eP rfl, eI rfl, trivial⟩ fun s0 => ?_
  refine W.loop (16 :: 17 :: 18 :: 19 :: 20 :: 23 :: 24 :: 25 :: 26 :: 27 :: 28 :: 29 :: 30 :: 31 :: 32 :: 6 :: 7 :: 33 :: 34 :: 35 :: 36 :: 37 :: 38 :: 39 :: 40 :: 41 :: 42 :: 43 :: 44 :: 45 :: 46 :: 4 :: 8 :: 47 :: 48 :: 49 :: 50 :: 51 :: 54 :: 55 :: 56 :: 57 :: 58 :: 59 :: 60 :: 61 :: 62 :: 63 :: 64 :: 65 :: 52 :: 53 :: 21 :: 22 :: 5 :: []) (fun g s' V => ∃ k : Nat, s' 5 = .int .i64 ((k : Nat) : Int) ∧ g = cs.length - k ∧ k ≤ cs.length ∧ ∀ (j : Nat) (hj : j < cs.length), j < k → txC cs[j] = txC (ds[j]'(by omega))) cs.length ⟨0, rfl, rfl, Nat.zero_le _, by intros; omega⟩ ?_
  rintro _ sd w1 hS1 ⟨k, h5, rfl, hk, hpre⟩
  refine W.fix h5 ?_
  clear h5
  by_cases hkc : k < cs.length
  rotate_left
  · have e : txF cs = txF ds := by
      refine List.ext_getElem (by rw [txF_len, txF_len]; exact hl) fun j hj _ => ?_
      rw [txF_len] at hj
      simpa [txF] using hpre j hj (by omega)
    (refine jjB ?_; refine jjB ?_; refine jjC ?_; apply jI; exact eI rfl; refine jm ?_; refine jn rfl ?_; refine jN rfl rfl rfl ?_; refine jh rfl ?_; refine jja rfl rfl (by omega) ?_; refine jz ?_; refine jjK rfl ?_; refine jjE ?_; refine jjB ?_; refine jjC ?_; apply jJ; exact eB rfl; refine jz ?_; refine jjF ?_; refine jB rfl rfl ⟨inferInstance, ?_⟩)
    rw [decide_eq_true e]; exact rfl
  have hkd : k < ds.length := by omega
  obtain ⟨ba, oa, rfl, hA⟩ := hrow.h.place' (map_get hkc)
  obtain ⟨bd, od, rfl, hD⟩ := hrow'.h.place' (map_get hkd)
  (refine jjB ?_; refine jjB ?_; refine jjC ?_; apply jI; exact eI rfl; refine jm ?_; refine jn rfl ?_; refine jN rfl rfl rfl ?_; refine jh rfl ?_; refine jjZ rfl rfl (by omega) ?_; refine jz ?_; refine jjJ rfl ?_; refine jjG ?_; refine jjB ?_; refine jjD ?_; refine jjB ?_)
  refine W.draw (fun w' => Ext w_b3 w') ?_
  intro w2 hS2
  have hE2 : Ext w_b3 w2 := hS1.ext.trans hS2.ext
  (refine jjV [0, 1, 2, 3, 4, 5, 6, 7, 8, 9] ?_ ?_ ?_; (decide +kernel); (exact hE2); (((apply jjT; exact rfl; rintro w' hq; have := hq.toStep; refine jm ?_; refine jn rfl ?_; refine jz ?_; exact ⟨rfl, rfl⟩; apply jjT; exact rfl; rintro w' hq; have := hq.toStep; refine jN rfl rfl rfl ?_; refine jz ?_; exact ⟨rfl, rfl⟩; apply jjT; exact rfl; rintro w' hq; have := hq.toStep; apply jI; exact eI rfl; refine jz ?_; exact ⟨rfl, rfl⟩; apply jjT; exact rfl; rintro w' hq; have := hq.toStep; refine jH _ rfl rfl rfl (by omega) ?_; refine jz ?_; exact ⟨rfl, rfl⟩; apply jjT; exact rfl; rintro w' hq; have := hq.toStep; refine jQ rfl rfl ?_; refine jz ?_; exact ⟨rfl, rfl⟩; apply jjT; exact rfl; rintro w' hq; have := hq.toStep; refine jm ?_; refine jn rfl ?_; refine jz ?_; exact ⟨rfl, rfl⟩; apply jjT; exact rfl; rintro w' hq; have := hq.toStep; refine jN rfl rfl rfl ?_; refine jz ?_; exact ⟨rfl, rfl⟩; apply jjT; exact rfl; rintro w' hq; have := hq.toStep; apply jI; exact eI rfl; refine jz ?_; exact ⟨rfl, rfl⟩; apply jjT; exact rfl; rintro w' hq; have := hq.toStep; refine jH _ rfl rfl rfl (by omega) ?_; refine jz ?_; exact ⟨rfl, rfl⟩; apply jjT; exact rfl; rintro w' hq; have := hq.toStep; refine jQ rfl rfl ?_; refine jz ?_; exact ⟨rfl, rfl⟩; refine jjU ?_))))
  have hl6 := hE2.size
  refine AnyS.mono (K' := fun s w' => s 2 = .pointer (some ⟨b2, 0, none⟩) ∧ s 3 = .pointer (some ⟨b3, 0, none⟩) ∧ s 5 = .int .i64 ((k : Nat) : Int) ∧ (∃ b6 b7, s 6 = .pointer (some ⟨b6, 0, none⟩) ∧ s 7 = .pointer (some ⟨b7, 0, none⟩) ∧ At w' b6 0 [.int .i64 cs[k].1, .slice cs[k].2.1 cs[k].2.2.2.length cs[k].2.2.1] ∧ At w' b7 0 [.int .i64 ds[k].1, .slice ds[k].2.1 ds[k].2.2.2.length ds[k].2.2.1]) ∧ Ext w_b3 w' ∧ Same (16 :: 17 :: 18 :: 19 :: 20 :: 23 :: 24 :: 25 :: 26 :: 27 :: 28 :: 29 :: 30 :: 31 :: 32 :: 6 :: 7 :: 33 :: 34 :: 35 :: 36 :: 37 :: 38 :: 39 :: 40 :: 41 :: 42 :: 43 :: 44 :: 45 :: 46 :: 4 :: 8 :: 47 :: 48 :: 49 :: 50 :: 51 :: 54 :: 55 :: 56 :: 57 :: 58 :: 59 :: 60 :: 61 :: 62 :: 63 :: 64 :: 65 :: 52 :: 53 :: 21 :: 22 :: 5 :: []) (upds s0 [(2, .pointer (some ⟨b2, 0, none⟩)), (3, .pointer (some ⟨b3, 0, none⟩)), (5, .int .i64 ((0 : Nat) : Int))]) s) ?_ ?_
  rotate_left
  · refine jjl 10 11 (by decide +kernel) rfl rfl hE2 ?_ ?_
    · refine jjY ?_
      intro b6 wa hb6 hs6 hS6 hk6
      have k6 := Bk.of hk6
      refine jz ?_
      (apply jjW 11; (decide +kernel); exact rfl; (exact hE2.trans hS6.ext))
      refine jjY ?_
      intro b7 wb hb7 hs7 hS7 hk7
      have k7 := Bk.of hk7
      have m6 := k6.ext hS7.ext
      refine jz ?_
      have eb := (hE2.trans hS6.ext).trans hS7.ext
      have zb := hE2.size
      (apply jjW 12; (decide +kernel); exact rfl; (exact eb))
      refine Ops.store rfl rfl rfl rfl rfl ?_
      intro wc hpc
      have m7 := hpc.bk (k7) (by omega)
      have m6 : Bk wc b6 [.int .i64 cs[k].1, .slice cs[k].2.1 cs[k].2.2.2.length cs[k].2.2.1] 60 := ⟨hpc.new⟩
      refine jz ?_
      have ec := hpc.ext eb (by omega)
      (apply jjW 13; (decide +kernel); exact rfl; (exact ec))
      refine Ops.store rfl rfl rfl rfl rfl ?_
      intro wd hpd
      have n6 := hpd.bk m6 (by omega)
      have n7 : Bk wd b7 [.int .i64 ds[k].1, .slice ds[k].2.1 ds[k].2.2.2.length ds[k].2.2.1] 60 := ⟨hpd.new⟩
      have ed := hpd.ext ec (by omega)
      refine jz ?_
      refine jjX (by decide +kernel) ed ?_
      exact ⟨rfl, rfl, rfl, ⟨b6, b7, rfl, rfl, Bk.toAt (h := n6), Bk.toAt (h := n7)⟩, ed, by ((refine Same.upd rfl ?_; refine Same.upd rfl ?_; refine Same.upd rfl ?_; refine Same.upd rfl ?_; refine Same.upd rfl ?_; refine Same.upd rfl ?_; refine Same.upd rfl ?_; refine Same.upd rfl ?_; refine Same.upd rfl ?_; refine Same.upd rfl ?_; refine Same.upd rfl ?_; refine Same.upd rfl ?_; refine Same.upd rfl ?_; refine Same.upd rfl ?_; refine Same.upd rfl ?_; refine Same.upd rfl ?_; refine Same.upd rfl ?_; refine Same.upd rfl ?_; exact Same.ovN))⟩
    · refine jjY ?_
      intro b7 wa hb7 hs7 hS7 hk7
      have k7 := Bk.of hk7
      refine jz ?_
      (apply jjW 10; (decide +kernel); exact rfl; (exact hE2.trans hS7.ext))
      refine jjY ?_
      intro b6 wb hb6 hs6 hS6 hk6
      have k6 := Bk.of hk6
      have m7 := k7.ext hS6.ext
      refine jz ?_
      have eb := (hE2.trans hS7.ext).trans hS6.ext
      have zb := hE2.size
      (apply jjW 12; (decide +kernel); exact rfl; (exact eb))
      refine Ops.store rfl rfl rfl rfl rfl ?_
      intro wc hpc
      have m7 := hpc.bk (m7) (by omega)
      have m6 : Bk wc b6 [.int .i64 cs[k].1, .slice cs[k].2.1 cs[k].2.2.2.length cs[k].2.2.1] 60 := ⟨hpc.new⟩
      refine jz ?_
      have ec := hpc.ext eb (by omega)
      (apply jjW 13; (decide +kernel); exact rfl; (exact ec))
      refine Ops.store rfl rfl rfl rfl rfl ?_
      intro wd hpd
      have n6 := hpd.bk m6 (by omega)
      have n7 : Bk wd b7 [.int .i64 ds[k].1, .slice ds[k].2.1 ds[k].2.2.2.length ds[k].2.2.1] 60 := ⟨hpd.new⟩
      have ed := hpd.ext ec (by omega)
      refine jz ?_
      refine jjX (by decide +kernel) ed ?_
      exact ⟨rfl, rfl, rfl, ⟨b6, b7, rfl, rfl, Bk.toAt (h := n6), Bk.toAt (h := n7)⟩, ed, by ((refine Same.upd rfl ?_; refine Same.upd rfl ?_; refine Same.upd rfl ?_; refine Same.upd rfl ?_; refine Same.upd rfl ?_; refine Same.upd rfl ?_; refine Same.upd rfl ?_; refine Same.upd rfl ?_; refine Same.upd rfl ?_; refine Same.upd rfl ?_; refine Same.upd rfl ?_; refine Same.upd rfl ?_; refine Same.upd rfl ?_; refine Same.upd rfl ?_; refine Same.upd rfl ?_; refine Same.upd rfl ?_; refine Same.upd rfl ?_; refine Same.upd rfl ?_; exact Same.ovN))⟩
  rintro s w3 ⟨h2, h3, h5, ⟨b6, b7, h6, h7, hA6, hA7⟩, hE3, hsm⟩
  clear hl6 hE2 hS2 w2
  have hS3 : Step w_b3 w3 := hE3.toStep
  have hsk := hs.2 _ (List.getElem_mem hkc)
  refine W.keep [(2, .pointer (some ⟨b2, 0, none⟩)), (3, .pointer (some ⟨b3, 0, none⟩)), (5, .int .i64 ((k : Nat) : Int)), (6, .pointer (some ⟨b6, 0, none⟩)), (7, .pointer (some ⟨b7, 0, none⟩))] (D := (16 :: 17 :: 18 :: 19 :: 20 :: 23 :: 24 :: 25 :: 26 :: 27 :: 28 :: 29 :: 30 :: 31 :: 32 :: 6 :: 7 :: 33 :: 34 :: 35 :: 36 :: 37 :: 38 :: 39 :: 40 :: 41 :: 42 :: 43 :: 44 :: 45 :: 46 :: 4 :: 8 :: 47 :: 48 :: 49 :: 50 :: 51 :: 54 :: 55 :: 56 :: 57 :: 58 :: 59 :: 60 :: 61 :: 62 :: 63 :: 64 :: 65 :: 52 :: 53 :: 21 :: 22 :: 5 :: [])) (sO := upds s0 _) hsm ⟨h2, h3, h5, h6, h7, trivial⟩ fun s1 hs1' => ?_
  clear h2 h3 h5 h6 h7 hsm
  have hno : txC cs[k] ≠ txC ds[k] → ¬ txF cs = txF ds := fun h e => h (by
    have h1 : (txF cs)[k]? = some (txC cs[k]) := by simp [txF, hkc]
    have h2 : (txF ds)[k]? = some (txC ds[k]) := by simp [txF, hkd]
    rw [e, h2] at h1
    exact (Option.some.inj h1).symm)
  by_cases hid : cs[k].1 = ds[k].1
  rotate_left
  · (refine jjB ?_; refine jjB ?_; refine jjC ?_; refine jm ?_; refine jn rfl ?_; refine jN rfl rfl rfl ?_; refine jm ?_; refine jn rfl ?_; refine jN rfl rfl rfl ?_; refine jjj rfl rfl (by omega) ?_; apply jI; exact eB rfl; refine jU rfl rfl rfl rfl ?_; refine jU rfl rfl rfl rfl ?_; refine jU rfl rfl rfl rfl ?_; refine jU rfl rfl rfl rfl ?_; refine jU rfl rfl rfl rfl ?_; refine jU rfl rfl rfl rfl ?_; refine jU rfl rfl rfl rfl ?_; apply jK rfl; exact eB rfl; refine jz ?_; refine jjJ rfl ?_; refine jjB ?_; refine jjC ?_; apply jJ; exact eB rfl; refine jz ?_; refine jjF ?_; refine jB rfl rfl ⟨inferInstance, ?_⟩)
    rw [decide_eq_false (hno fun e => hid (congrArg (fun x : Int × List (List ByteArray) => x.1) e))]; exact rfl
  by_cases hll : cs[k].2.2.2.length = ds[k].2.2.2.length
  rotate_left
  · (refine jjB ?_; refine jjB ?_; refine jjC ?_; refine jm ?_; refine jn rfl ?_; refine jN rfl rfl rfl ?_; refine jm ?_; refine jn rfl ?_; refine jN rfl rfl rfl ?_; refine jjk rfl rfl (by omega) ?_; apply jI; exact eB rfl; refine jT rfl rfl rfl ?_; refine jm ?_; refine jn rfl ?_; refine jT rfl rfl rfl ?_; refine jN rfl rfl rfl ?_; refine jT rfl rfl rfl ?_; refine jh rfl ?_; refine jT rfl rfl rfl ?_; refine jm ?_; refine jn rfl ?_; refine jT rfl rfl rfl ?_; refine jN rfl rfl rfl ?_; refine jT rfl rfl rfl ?_; refine jh rfl ?_; refine jT rfl rfl rfl ?_; refine jjj rfl rfl (by omega) ?_; apply jL rfl; exact eB rfl; refine jz ?_; refine jjJ rfl ?_; refine jjB ?_; refine jjC ?_; apply jJ; exact eB rfl; refine jz ?_; refine jjF ?_; refine jB rfl rfl ⟨inferInstance, ?_⟩)
    rw [decide_eq_false (hno fun e => hll (by have := congrArg (fun x : Int × List (List ByteArray) => x.2.length) e; simpa using this))]; exact rfl
  (refine jjB ?_; refine jjB ?_; refine jjC ?_; refine jm ?_; refine jn rfl ?_; refine jN rfl rfl rfl ?_; refine jm ?_; refine jn rfl ?_; refine jN rfl rfl rfl ?_; refine jjk rfl rfl (by omega) ?_; apply jI; exact eB rfl; refine jT rfl rfl rfl ?_; refine jm ?_; refine jn rfl ?_; refine jT rfl rfl rfl ?_; refine jN rfl rfl rfl ?_; refine jT rfl rfl rfl ?_; refine jh rfl ?_; refine jT rfl rfl rfl ?_; refine jm ?_; refine jn rfl ?_; refine jT rfl rfl rfl ?_; refine jN rfl rfl rfl ?_; refine jT rfl rfl rfl ?_; refine jh rfl ?_; refine jT rfl rfl rfl ?_; refine jjk rfl rfl (by omega) ?_; apply jL rfl; exact eB rfl; refine jz ?_; refine jjK rfl ?_; refine jjG ?_; refine jjB ?_; refine jjC ?_; apply jJ; exact eI rfl; refine jz ?_; refine jjD ?_)
  refine W.keep [(2, .pointer (some ⟨b2, 0, none⟩)), (3, .pointer (some ⟨b3, 0, none⟩)), (5, .int .i64 ((k : Nat) : Int)), (6, .pointer (some ⟨b6, 0, none⟩)), (7, .pointer (some ⟨b7, 0, none⟩)), (8, .int .i64 ((0 : Nat) : Int))] (D := (16 :: 17 :: 18 :: 19 :: 20 :: 23 :: 24 :: 25 :: 26 :: 27 :: 28 :: 29 :: 30 :: 31 :: 32 :: 6 :: 7 :: 33 :: 34 :: 35 :: 36 :: 37 :: 38 :: 39 :: 40 :: 41 :: 42 :: 43 :: 44 :: 45 :: 46 :: 4 :: 8 :: 47 :: 48 :: 49 :: 50 :: 51 :: 54 :: 55 :: 56 :: 57 :: 58 :: 59 :: 60 :: 61 :: 62 :: 63 :: 64 :: 65 :: 52 :: 53 :: 21 :: 22 :: 5 :: [])) (sO := upds s0 _) (by ((refine Same.upd rfl ?_; refine Same.upd rfl ?_; refine Same.upd rfl ?_; refine Same.upd rfl ?_; refine Same.upd rfl ?_; refine Same.upd rfl ?_; refine Same.upd rfl ?_; refine Same.upd rfl ?_; refine Same.upd rfl ?_; refine Same.upd rfl ?_; refine Same.upd rfl ?_; refine Same.upd rfl ?_; refine Same.upd rfl ?_; refine Same.upd rfl ?_; refine Same.upd rfl ?_; assumption))) ⟨eP rfl, eP rfl, eI rfl, eP rfl, eP rfl, eI rfl, trivial⟩ fun s2 hs2' => ?_
  refine W.loop (47 :: 48 :: 49 :: 50 :: 51 :: 54 :: 55 :: 56 :: 57 :: 58 :: 59 :: 60 :: 61 :: 62 :: 63 :: 64 :: 65 :: 4 :: 52 :: 53 :: 8 :: []) (fun g s' V => ∃ n : Nat, s' 8 = .int .i64 ((n : Nat) : Int) ∧ g = cs[k].2.2.2.length - n ∧ n ≤ cs[k].2.2.2.length ∧ ∀ (j : Nat) (hj : j < cs[k].2.2.2.length), j < n → cs[k].2.2.2[j].2.2 = (ds[k].2.2.2[j]'(by omega)).2.2) cs[k].2.2.2.length ⟨0, rfl, rfl, Nat.zero_le _, by intros; omega⟩ ?_
  rintro _ sd2 w4 hS4 ⟨n, h8, rfl, hn, hpre2⟩
  refine W.fix h8 ?_
  clear h8
  by_cases hnl : n < cs[k].2.2.2.length
  rotate_left
  · have e : txC cs[k] = txC ds[k] := by
      refine Prod.ext hid (List.ext_getElem (by simpa using hll) fun j hj _ => ?_)
      rw [List.length_map] at hj
      simpa using hpre2 j hj (by omega)
    (refine jjB ?_; refine jjB ?_; refine jjC ?_; apply jI; exact eI rfl; refine jm ?_; refine jn rfl ?_; refine jN rfl rfl rfl ?_; refine jh rfl ?_; refine jja rfl rfl (by omega) ?_; refine jz ?_; refine jjK rfl ?_; refine jjE ?_; refine jjC ?_; apply jI; exact eI rfl; refine jY rfl rfl (by omega) ?_; apply jJ; exact eI rfl; refine jz ?_)
    refine ⟨rfl, by ((refine Same.upd rfl ?_; refine Same.upd rfl ?_; refine Same.upd rfl ?_; refine Same.upd rfl ?_; refine Same.upd rfl ?_; refine Same.upd rfl ?_; refine Same.upd rfl ?_; refine Same.upd rfl ?_; refine Same.upd rfl ?_; refine Same.ovN' rfl ?_; assumption)), cs.length - (k + 1), by omega, inferInstance, k + 1, congrArg (Value.int .i64) (by omega), rfl, by omega, fun j hj hjk => ?_⟩
    by_cases ej : j = k
    · subst ej; exact e
    · exact hpre j hj (by omega)
  have hnl2 : n < ds[k].2.2.2.length := by omega
  obtain ⟨bl, ol, el, hAl⟩ := (hT.line hkc).h.place' (map_get hnl)
  obtain ⟨bm, om, em, hAm⟩ := (hT'.line hkd).h.place' (map_get hnl2)
  rw [Nat.mul_one] at hAl hAm
  have hE4 : Ext w w4 := inferInstance
  have k6 := hA6.ext hS4.ext
  have k7 := hA7.ext hS4.ext
  (refine jjB ?_; refine jjB ?_; refine jjC ?_; apply jI; exact eI rfl; refine jm ?_; refine jn rfl ?_; refine jN rfl rfl rfl ?_; refine jh rfl ?_; refine jjZ rfl rfl (by omega) ?_; refine jz ?_; refine jjJ rfl ?_; refine jjG ?_; refine jjB ?_; refine jjD ?_; refine jjB ?_)
  rw [el] at k6
  rw [em] at k7
  have hW1 := (hT.word hkc hnl).h
  have hW2 := (hT'.word hkd hnl2).h
  refine W.draw (fun w' => Ext w4 w') ?_
  intro w5 hS5
  (refine jjV [0, 1, 2, 3, 4, 5, 6, 7, 8, 9] ?_ ?_ ?_; (decide +kernel); (exact hS5.ext); (((apply jjT; exact rfl; rintro w' hq; have := hq.toStep; refine jm ?_; refine jn rfl ?_; refine jz ?_; exact ⟨rfl, rfl⟩; apply jjT; exact rfl; rintro w' hq; have := hq.toStep; refine jN rfl rfl rfl ?_; refine jz ?_; exact ⟨rfl, rfl⟩; apply jjT; exact rfl; rintro w' hq; have := hq.toStep; apply jI; exact eI rfl; refine jz ?_; exact ⟨rfl, rfl⟩; apply jjT; exact rfl; rintro w' hq; have := hq.toStep; refine jG rfl rfl rfl (by omega) ?_; refine jz ?_; exact ⟨rfl, rfl⟩; apply jjT; exact rfl; rintro w' hq; have := hq.toStep; refine jQ rfl rfl ?_; refine jz ?_; exact ⟨rfl, rfl⟩; apply jjT; exact rfl; rintro w' hq; have := hq.toStep; refine jm ?_; refine jn rfl ?_; refine jz ?_; exact ⟨rfl, rfl⟩; apply jjT; exact rfl; rintro w' hq; have := hq.toStep; refine jN rfl rfl rfl ?_; refine jz ?_; exact ⟨rfl, rfl⟩; apply jjT; exact rfl; rintro w' hq; have := hq.toStep; apply jI; exact eI rfl; refine jz ?_; exact ⟨rfl, rfl⟩; apply jjT; exact rfl; rintro w' hq; have := hq.toStep; refine jG rfl rfl rfl (by omega) ?_; refine jz ?_; exact ⟨rfl, rfl⟩; apply jjT; exact rfl; rintro w' hq; have := hq.toStep; refine jQ rfl rfl ?_; refine jz ?_; exact ⟨rfl, rfl⟩; refine jjU ?_))))
  (apply jjW 10; (decide +kernel); exact rfl; (exact hS5.ext))
  obtain ⟨B, hB⟩ : ∃ B, decide (cs[k].2.2.2[n].2.2 = ds[k].2.2.2[n].2.2) = B := ⟨_, rfl⟩
  refine jjQ ((same_words1 _ _ _ _ _ _ cs[k].2.2.2[n].2.2 ds[k].2.2.2[n].2.2 _ rfl rfl (hW1.ext (hE4.trans hS5.ext)) (hW2.ext (hE4.trans hS5.ext))).mono fun v _ _ h => h.trans (by rw [hB])) rfl rfl ?_
  rintro _ w6 hS6 rfl
  refine jz ?_
  have e6 := hS5.ext.trans hS6.ext
  cases B with
  | true =>
    have hBe := of_decide_eq_true hB
    (refine jjV [11] ?_ ?_ ?_; (decide +kernel); (exact e6); (((apply jjT; exact rfl; rintro w' hq; have := hq.toStep; refine jp rfl ?_; refine jz ?_; exact ⟨rfl, rfl⟩; refine jjU ?_))))
    refine jjX (by decide +kernel) e6 ?_
    (refine jjK rfl ?_; refine jjG ?_; refine jjC ?_; apply jI; exact eI rfl; refine jY rfl rfl (by omega) ?_; apply jJ; exact eI rfl; refine jz ?_)
    refine ⟨rfl, by ((refine Same.upd rfl ?_; refine Same.upd rfl ?_; refine Same.upd rfl ?_; refine Same.upd rfl ?_; refine Same.upd rfl ?_; refine Same.upd rfl ?_; refine Same.upd rfl ?_; refine Same.upd rfl ?_; refine Same.upd rfl ?_; refine Same.upd rfl ?_; refine Same.upd rfl ?_; refine Same.upd rfl ?_; refine Same.upd rfl ?_; refine Same.upd rfl ?_; refine Same.upd rfl ?_; refine Same.upd rfl ?_; refine Same.upd rfl ?_; refine Same.upd rfl ?_; refine Same.upd rfl ?_; refine Same.upd rfl ?_; refine Same.upd rfl ?_; exact Same.ovN)), cs[k].2.2.2.length - (n + 1), by omega, inferInstance, n + 1, congrArg (Value.int .i64) (by omega), rfl, by omega, fun j hj hjn => ?_⟩
    by_cases ej : j = n
    · subst ej; exact hBe
    · exact hpre2 j hj (by omega)
  | false =>
    have hBe := of_decide_eq_false hB
    (refine jjV [11] ?_ ?_ ?_; (decide +kernel); (exact e6); (((apply jjT; exact rfl; rintro w' hq; have := hq.toStep; refine jq rfl ?_; refine jz ?_; exact ⟨rfl, rfl⟩; refine jjU ?_))))
    refine jjX (by decide +kernel) e6 ?_
    (refine jjJ rfl ?_; refine jjB ?_; refine jjC ?_; apply jJ; exact eB rfl; refine jz ?_; refine jjF ?_; refine jB rfl rfl ⟨inferInstance, ?_⟩)
    rw [decide_eq_false (hno fun e => hBe (by
      have h1 : (txC cs[k]).2[n]? = some cs[k].2.2.2[n].2.2 := by simp [hnl]
      have h2 : (txC ds[k]).2[n]? = some ds[k].2.2.2[n].2.2 := by simp [hnl2]
      rw [e, h2] at h1
      exact (Option.some.inj h1).symm))]; exact rfl
end
end Go.Proofs.YtgmgiepdehlinaaGreatDoor

/- The law: what is wrong with slips, where they may be from, which are missing, or there twice. -/
namespace Go.Proofs.YtgmgiepdehlinaaGreatDoor
open Go.RowKit

theorem all_slC (l : List Slp) : (l.map encSl).all (fun v => v.cells.toList.all (·.oneCell')) = true := by
  rw [List.all_eq_true]; intro x hx; obtain ⟨y, _, rfl⟩ := List.mem_map.1 hx; rfl
section
variable (a : Option Addr) (c : Nat) (cs : List Ch) (wd side : Int) (s : Slp) (la : Option Addr) (lc : Nat) (ls : List Slp) (w : World) [hrow : RowI w (.slice a cs.length c) true 2 (cs.map encCh)] [hT : TextI w cs] [hl : RowI w (.slice la ls.length lc) true 6 (ls.map encSl)] [hgs : At w 0 0 sidesC] [hmx : MxI w]
set_option maxHeartbeats 16000000 in
theorem SlipLists_law (hd : 0 ≤ side ∧ side ≤ 255) : Ct Tryz.prog 3 [.agg #[.slice a cs.length c], encCut wd side, encSl s, .slice la ls.length lc] w fun v _ => v = .bool true := by
  refine Ct.ofW (by simp) ?_
  (refine jjB ?_; refine jjC ?_)
  (refine jy rfl ?_; intro b4 w_b4 hb_b4 hs_b4 hS_b4 hk_b4; have hA_b4 := At.ofBlock hk_b4)
  skip
  (refine jy rfl ?_; intro b5 w_b5 hb_b5 hs_b5 hS_b5 hk_b5; have hA_b5 := At.ofBlock hk_b5)
  skip
  (refine jy rfl ?_; intro b6 w_b6 hb_b6 hs_b6 hS_b6 hk_b6; have hA_b6 := At.ofBlock hk_b6)
  (apply jJ; exact eB rfl; refine jz ?_; refine jjB ?_; refine jjB ?_; refine jjC ?_; refine jO rfl rfl rfl rfl ?_)
  obtain ⟨G, hG⟩ : ∃ G, greatT (txF cs) = G := ⟨_, rfl⟩
  refine jjQ ((Great_ref1 a c cs _).mono fun v _ _ h => h.trans (by rw [hG])) rfl rfl ?_
  rintro _ w2 hS2 rfl
  cases G with
  | true =>
    (apply jI; exact eB rfl; refine jU rfl rfl rfl rfl ?_; refine jU rfl rfl rfl rfl ?_; apply jK rfl; exact eB rfl; apply jI; exact eB rfl; refine jU rfl rfl rfl rfl ?_; refine jU rfl rfl rfl rfl ?_; apply jK rfl; exact eB rfl; refine jz ?_; refine jjJ rfl ?_; refine jjB ?_; refine jjC ?_; apply jJ; exact eB rfl; refine jz ?_; refine jjF ?_; refine jB rfl rfl ⟨inferInstance, ?_⟩)
    exact rfl
  | false =>
  have hs := small_of_great hG
  obtain ⟨G2, hG2⟩ : ∃ G, greatSl s = G := ⟨_, rfl⟩
  (apply jI; exact eB rfl; refine jT rfl rfl rfl ?_; refine jO rfl rfl rfl rfl ?_; refine jT rfl rfl rfl ?_)
  refine jjQ ((GreatSl_ref3 s _).mono fun v _ _ h => h.trans (by rw [hG2])) rfl rfl ?_
  rintro _ w3 hS3 rfl
  cases G2 with
  | true =>
    (apply jL rfl; exact eB rfl; apply jI; exact eB rfl; refine jU rfl rfl rfl rfl ?_; refine jU rfl rfl rfl rfl ?_; apply jK rfl; exact eB rfl; refine jz ?_; refine jjJ rfl ?_; refine jjB ?_; refine jjC ?_; apply jJ; exact eB rfl; refine jz ?_; refine jjF ?_; refine jB rfl rfl ⟨inferInstance, ?_⟩)
    exact rfl
  | false =>
  have hss := small_of_greatSl hG2
  obtain ⟨G3, hG3⟩ : ∃ G, greatLs ls = G := ⟨_, rfl⟩
  (apply jL rfl; exact eB rfl; apply jI; exact eB rfl; refine jT rfl rfl rfl ?_; apply jI; exact eS rfl; refine jT rfl rfl rfl ?_)
  refine jjQ ((GreatList_ref3 la lc ls _).mono fun v _ _ h => h.trans (by rw [hG3])) rfl rfl ?_
  rintro _ w4 hS4 rfl
  cases G3 with
  | true =>
    (apply jL rfl; exact eB rfl; refine jz ?_; refine jjJ rfl ?_; refine jjB ?_; refine jjC ?_; apply jJ; exact eB rfl; refine jz ?_; refine jjF ?_; refine jB rfl rfl ⟨inferInstance, ?_⟩)
    exact rfl
  | false =>
  have hls := small_of_greatLs hG3
  have hls1 := hls.1
  (apply jL rfl; exact eB rfl; refine jz ?_; refine jjK rfl ?_; refine jjG ?_; refine jjB ?_; refine jjC ?_; refine jO rfl rfl rfl rfl ?_)
  refine jjQ (Twin_ref1 a c cs _ hs) rfl rfl ?_
  rintro _ w5 hS5 ⟨a', c', ds, rfl, htx, hO⟩
  rw [List.length_map] at hO
  rw [List.length_map]
  have hsd := small_of_great (cs := ds) (by rw [htx]; exact hG)
  skip
  refine Ops.buildSlice0 ?_
  intro b39 w6 hb39 hs39 hS39 hk39
  have hO6 := OwnL.empty (agg := true) (k := 6) (B := w5.heap.size) (by omega) hk39
  (apply jI; exact eS rfl)
  refine Ops.appendL hO6 (by omega) (hl.h.ext inferInstance) rfl rfl rfl rfl (all_slC ls) ?_ ?_ ?_
  · simp only [List.length_map, List.length_nil]; omega
  · simp only [List.length_map, List.length_nil]; omega
  intro v7 w7 hA hOm _ _
  rw [List.nil_append] at hOm
  obtain ⟨ma, mc, rfl⟩ := hOm.slice
  rw [List.length_map] at hOm ⊢
  have hE7 : Ext w5 w7 := hA.ext hS39.ext (Nat.le_refl _)
  have hS7 := hE7.toStep
  have i0 : RowI w5 (.slice a' ds.length c') true 2 (ds.map encCh) := ⟨hO.out.row⟩
  have i1 : TextI w5 ds := hO.text
  have i2 : RowI w7 (.slice ma ls.length mc) true 6 (ls.map encSl) := ⟨hOm.row⟩
  (apply jjR rfl; (intro _; first|exact eI rfl|exact eB rfl|exact eP rfl|exact eS rfl|exact eT rfl|exact eA rfl|exact eU rfl|exact eF rfl|exact eM rfl|exact eN rfl|exact rfl); exact rfl; exact rfl; exact rfl; exact rfl; intro b9 w_b9 hb_b9 hs_b9 hS_b9 hk_b9; have hA_b9 := Bk.of hk_b9)
  have hwr := Wrong_slip a' c' ds wd side w_b9 s hsd hd hss
  rw [htx] at hwr
  (apply jJ; exact eS rfl; refine jz ?_; refine jjB ?_; refine jjC ?_; refine jO rfl rfl rfl rfl ?_; refine jO rfl rfl rfl rfl ?_; refine jO rfl rfl rfl rfl ?_)
  refine jjQ hwr rfl rfl ?_
  rintro _ w10 hS10 rfl
  (apply jI; exact eU rfl; refine ju rfl rfl ?_; refine ju rfl rfl ?_; apply jJ; exact eI rfl; apply jJ; exact eI rfl; refine jz ?_; refine jjB ?_; refine jjC ?_; refine jO rfl rfl rfl rfl ?_; refine jO rfl rfl rfl rfl ?_; refine jO rfl rfl rfl rfl ?_)
  refine jjQ (Wrong_ref3 a c cs wd side _ s hs hd hss) rfl rfl ?_
  rintro _ w11 hS11 rfl
  generalize wrongR (txF cs) wd side s = R at *
  have hwh := Where_slip a' c' ds w11 s hsd hss
  rw [htx] at hwh
  (apply jI; exact eU rfl; refine ju rfl rfl ?_; refine ju rfl rfl ?_; apply jJ; exact eI rfl; apply jJ; exact eI rfl; refine jz ?_; refine jjB ?_; refine jjC ?_; refine jO rfl rfl rfl rfl ?_; refine jO rfl rfl rfl rfl ?_)
  refine jjQ hwh rfl rfl ?_
  rintro _ w12 hS12 ⟨sv1, rfl, hO1⟩
  obtain ⟨va1, vc1, rfl⟩ := hO1.slice
  (apply jI; exact eU rfl; refine ju rfl rfl ?_; refine ju rfl rfl ?_; apply jJ; exact eS rfl; apply jJ; exact eI rfl; refine jz ?_; refine jjB ?_; refine jjC ?_; refine jO rfl rfl rfl rfl ?_; refine jO rfl rfl rfl rfl ?_)
  refine jjQ (Where_ref3 a c cs _ s hs hss) rfl rfl ?_
  rintro _ w13 hS13 ⟨sv2, rfl, hO2⟩
  obtain ⟨va2, vc2, rfl⟩ := hO2.slice
  generalize whereR (txF cs) s = H at *
  have hms := Missing_slip a' c' ds wd side ma mc ls w13 hsd hd hls
  rw [htx] at hms
  (apply jI; exact eU rfl; refine ju rfl rfl ?_; refine ju rfl rfl ?_; apply jJ; exact eS rfl; apply jJ; exact eI rfl; refine jz ?_; refine jjB ?_; refine jjC ?_; refine jO rfl rfl rfl rfl ?_; refine jO rfl rfl rfl rfl ?_; apply jI; exact eS rfl)
  refine jjQ hms rfl rfl ?_
  rintro _ w14 hS14 ⟨sv3, rfl, hO3⟩
  obtain ⟨va3, vc3, rfl⟩ := hO3.slice
  (apply jI; exact eU rfl; refine ju rfl rfl ?_; refine ju rfl rfl ?_; apply jJ; exact eS rfl; apply jJ; exact eI rfl; refine jz ?_; refine jjB ?_; refine jjC ?_; refine jO rfl rfl rfl rfl ?_; refine jO rfl rfl rfl rfl ?_; apply jI; exact eS rfl)
  refine jjQ (Missing_ref3 a c cs wd side la lc ls _ hs hd hls) rfl rfl ?_
  rintro _ w15 hS15 ⟨sv4, rfl, hO4⟩
  obtain ⟨va4, vc4, rfl⟩ := hO4.slice
  generalize missR (txF cs) wd side ls = M at *
  (apply jI; exact eU rfl; refine ju rfl rfl ?_; refine ju rfl rfl ?_; apply jJ; exact eS rfl; apply jJ; exact eI rfl; refine jz ?_; refine jjB ?_; refine jjC ?_; apply jI; exact eS rfl)
  refine jjQ (Twice_slip ma mc ls _ hls) rfl rfl ?_
  rintro _ w16 hS16 ⟨sv5, rfl, hO5⟩
  obtain ⟨va5, vc5, rfl⟩ := hO5.slice
  (apply jI; exact eU rfl; refine ju rfl rfl ?_; refine ju rfl rfl ?_; apply jJ; exact eS rfl; apply jJ; exact eI rfl; refine jz ?_; refine jjB ?_; refine jjC ?_; apply jI; exact eS rfl)
  refine jjQ (Twice_ref3 la lc ls _ hls) rfl rfl ?_
  rintro _ w17 hS17 ⟨sv6, rfl, hO6⟩
  obtain ⟨va6, vc6, rfl⟩ := hO6.slice
  generalize twiceR ls = T at *
  have e3 := hS17.ext
  have e2 := hS16.ext.trans e3
  have e1 := hS15.ext.trans e2
  have e0 := hS14.ext.trans e1
  have em := hS13.ext.trans e0
  (apply jI; exact eU rfl; refine ju rfl rfl ?_; refine ju rfl rfl ?_; apply jJ; exact eS rfl; apply jJ; exact eI rfl; refine jz ?_; refine jjB ?_; refine jjC ?_; apply jI; exact eI rfl; apply jI; exact eI rfl; refine jjh rfl rfl (by omega) ?_; apply jI; exact eB rfl; refine jT rfl rfl rfl ?_; apply jI; exact eI rfl; refine jT rfl rfl rfl ?_; apply jI; exact eI rfl; refine jT rfl rfl rfl ?_; refine jjh rfl rfl (by omega) ?_; apply jK rfl; exact eB rfl; apply jI; exact eB rfl; refine jT rfl rfl rfl ?_; apply jI; exact eS rfl; refine jT rfl rfl rfl ?_; apply jI; exact eS rfl; refine jT rfl rfl rfl ?_)
  refine jjQ ((same_places1 va1 va2 vc1 vc2 _ _ H.1 H.1 _ (by rw [List.length_map]) (by rw [List.length_map]) (hO1.ext em).row (hO2.ext e0).row).mono fun v _ _ h => h.trans (by rw [decide_eq_true rfl])) rfl rfl ?_
  rintro _ u1 k1 rfl
  (apply jK rfl; exact eB rfl; apply jI; exact eB rfl; refine jT rfl rfl rfl ?_; apply jI; exact eI rfl; refine jT rfl rfl rfl ?_; apply jI; exact eI rfl; refine jT rfl rfl rfl ?_; refine jjh rfl rfl (by omega) ?_; apply jK rfl; exact eB rfl; apply jI; exact eB rfl; refine jT rfl rfl rfl ?_; apply jI; exact eS rfl; refine jT rfl rfl rfl ?_; apply jI; exact eS rfl; refine jT rfl rfl rfl ?_)
  refine jjQ ((same_places1 va3 va4 vc3 vc4 _ _ M.1 M.1 _ (by rw [List.length_map]) (by rw [List.length_map]) ((hO3.ext e1).ext k1.ext).row ((hO4.ext e2).ext k1.ext).row).mono fun v _ _ h => h.trans (by rw [decide_eq_true rfl])) rfl rfl ?_
  rintro _ u2 k2 rfl
  have f2 := k1.ext.trans k2.ext
  (apply jK rfl; exact eB rfl; apply jI; exact eB rfl; refine jT rfl rfl rfl ?_; apply jI; exact eI rfl; refine jT rfl rfl rfl ?_; apply jI; exact eI rfl; refine jT rfl rfl rfl ?_; refine jjh rfl rfl (by omega) ?_; apply jK rfl; exact eB rfl; apply jI; exact eB rfl; refine jT rfl rfl rfl ?_; apply jI; exact eS rfl; refine jT rfl rfl rfl ?_; apply jI; exact eS rfl; refine jT rfl rfl rfl ?_)
  refine jjQ ((same_ints3 va5 va6 vc5 vc6 _ _ T.1 T.1 _ (by rw [List.length_map]) (by rw [List.length_map]) ((hO5.ext e3).ext f2).row (hO6.ext f2).row).mono fun v _ _ h => h.trans (by rw [decide_eq_true rfl])) rfl rfl ?_
  rintro _ u3 k3 rfl
  (apply jK rfl; exact eB rfl; apply jI; exact eB rfl; refine jT rfl rfl rfl ?_; apply jI; exact eI rfl; refine jT rfl rfl rfl ?_; apply jI; exact eI rfl; refine jT rfl rfl rfl ?_; refine jjh rfl rfl (by omega) ?_; apply jK rfl; exact eB rfl; apply jI; exact eB rfl; refine jT rfl rfl rfl ?_; refine jO rfl rfl rfl rfl ?_; refine jT rfl rfl rfl ?_; refine jO rfl rfl rfl rfl ?_; refine jT rfl rfl rfl ?_)
  refine jjQ ((Same_ref1 a' a c' c ds cs _ hsd).mono fun v _ _ h => h.trans (by rw [decide_eq_true htx])) rfl rfl ?_
  rintro _ u4 k4 rfl
  have hl2 : RowI u4 (.slice la ls.length lc) true 6 (ls.map encSl) := inferInstance
  have hl3 : RowI u4 (.slice ma ls.length mc) true 6 (ls.map encSl) := inferInstance
  (apply jK rfl; exact eB rfl; apply jI; exact eB rfl; refine jT rfl rfl rfl ?_; apply jI; exact eS rfl; refine jT rfl rfl rfl ?_; apply jI; exact eS rfl; refine jT rfl rfl rfl ?_)
  refine jjQ ((same_slips3 ma la mc lc _ _ ls ls _ rfl rfl hl3.h hl2.h).mono fun v _ _ h => h.trans (by rw [decide_eq_true rfl])) rfl rfl ?_
  rintro _ u5 k5 rfl
  (apply jK rfl; exact eB rfl; apply jJ; exact eB rfl; refine jz ?_; refine jjF ?_; refine jB rfl rfl ⟨inferInstance, ?_⟩)
  exact rfl
end
end Go.Proofs.YtgmgiepdehlinaaGreatDoor
