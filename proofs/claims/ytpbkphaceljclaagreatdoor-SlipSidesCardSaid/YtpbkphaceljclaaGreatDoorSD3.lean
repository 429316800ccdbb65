/- Texts of the proof, part 3: Tr2, Ts1, ReadT, SpW, ShJ, Eng25, ShP, Tp2, RdS, EqP, Eng21, Eng22, Eng23, Lf1, Lf2, ReadO, ReadU, SlS, SlX, Sl1, SlM, PlB, SlW. -/
import Derived.Test.YtpbkphaceljclaaGreatDoorRows
import Derived.Lib.SmallJoins
import Derived.LaidMore
import Derived.Lib.SplitLaws
import Derived.Shelf.Strings.OnBuilder
import Derived.Shelf.Strings.Split
import Derived.Laws.Concat
import Derived.ShapedOpen
import Derived.Deep.Strs
import Derived.Test.YtpbkphaceljclaaGreatDoorSD2
/- The reference of leaf: Text, Check. -/
namespace Go.Proofs.YtpbkphaceljclaaGreatDoor
open Go.RowKit

section
variable (a : Option Addr) (c : Nat) (cs : List Ch) (w : World) [hrow : RowI w (.slice a cs.length c) true 2 (cs.map encCh)] [hT : TextI w cs]
set_option maxHeartbeats 4000000 in
theorem Text_ref1 (hs : SmallT cs) : Ct Tryz.prog 45 [.agg #[.slice a cs.length c]] w fun v _ => v = .bool (textB (txF cs)) := by
  have hs1 := hs.1
  refine Ct.ofW (by simp) ?_
  (refine jjB ?_; refine jjC ?_)
  (refine jy rfl ?_; intro b1 w_b1 hb_b1 hs_b1 hS_b1 hk_b1; have hA_b1 := At.ofBlock hk_b1)
  (apply jJ; exact eB rfl; refine jz ?_; refine jjB ?_; refine jjB ?_; refine jjC ?_; refine jm ?_; refine jn rfl ?_; refine jN rfl rfl rfl ?_; refine jh rfl ?_)
  refine jjQ (within_postilref01 (cs.length : Int) 1 6 _) rfl rfl ?_
  rintro _ w2 hS2 rfl
  cases h6 : inB 1 6 (cs.length : Int)
  · (refine jq rfl ?_; refine jz ?_; refine jjJ rfl ?_; refine jjB ?_; refine jjC ?_; apply jJ; exact eB rfl; refine jz ?_; refine jjF ?_; refine jB rfl rfl ⟨inferInstance, ?_⟩)
    rw [textB_len h6]; exact rfl
  (refine jp rfl ?_; refine jz ?_; refine jjK rfl ?_; refine jjG ?_; refine jjB ?_; refine jjB ?_; refine jjC ?_; apply jJ; exact eI rfl; refine jz ?_; refine jjD ?_)
  refine W.keep0 [(1, .pointer (some ⟨b1, 0, none⟩)), (3, .int .i64 ((0 : Nat) : Int))] ⟨eP rfl, eI rfl, trivial⟩ fun s0 => ?_
  refine W.loop (13 :: 14 :: 15 :: 16 :: 17 :: 20 :: 21 :: 22 :: 23 :: 24 :: 4 :: 25 :: 26 :: 27 :: 28 :: 29 :: 30 :: 31 :: 32 :: 33 :: 34 :: 35 :: 2 :: 5 :: 36 :: 37 :: 38 :: 41 :: 42 :: 43 :: 44 :: 45 :: 46 :: 47 :: 48 :: 49 :: 39 :: 40 :: 6 :: 50 :: 51 :: 52 :: 53 :: 54 :: 57 :: 58 :: 59 :: 60 :: 61 :: 62 :: 63 :: 64 :: 7 :: 65 :: 66 :: 67 :: 68 :: 69 :: 70 :: 71 :: 72 :: 75 :: 76 :: 77 :: 78 :: 79 :: 80 :: 81 :: 82 :: 83 :: 84 :: 73 :: 74 :: 55 :: 56 :: 18 :: 19 :: 3 :: []) (fun g s' V => ∃ k : Nat, s' 3 = .int .i64 ((k : Nat) : Int) ∧ g = cs.length - k ∧ k ≤ cs.length ∧ (∀ (j : Nat) (hj : j < cs.length), j < k → chapB (txC cs[j]) = true) ∧ ∀ (i j : Nat) (hij : i < j) (hj : j < cs.length), j < k → (cs[i]'(by omega)).1 ≠ cs[j].1) cs.length ⟨0, rfl, rfl, Nat.zero_le _, by intros; omega, by intros; omega⟩ ?_
  rintro _ sd w3 hS3 ⟨k, h3, rfl, hk, hpre, hid⟩
  refine W.fix h3 ?_
  clear h3
  by_cases hkc : k < cs.length
  rotate_left
  · obtain rfl : k = cs.length := by omega
    (refine jjB ?_; refine jjB ?_; refine jjC ?_; apply jI; exact eI rfl; refine jm ?_; refine jn rfl ?_; refine jN rfl rfl rfl ?_; refine jh rfl ?_; refine jja rfl rfl (by omega) ?_; refine jz ?_; refine jjK rfl ?_; refine jjE ?_; refine jjB ?_; refine jjC ?_; apply jJ; exact eB rfl; refine jz ?_; refine jjF ?_; refine jB rfl rfl ⟨inferInstance, ?_⟩)
    rw [textB_yes h6 (fun j hj => hpre j hj hj) (fun i j hij hj => hid i j hij hj hj)]; exact rfl
  have hsk := hs.2 _ (List.getElem_mem hkc)
  have hno : chapB (txC cs[k]) = false → textB (txF cs) = false := textB_chap hkc
  (refine jjB ?_; refine jjB ?_; refine jjC ?_; apply jI; exact eI rfl; refine jm ?_; refine jn rfl ?_; refine jN rfl rfl rfl ?_; refine jh rfl ?_; refine jjZ rfl rfl (by omega) ?_; refine jz ?_; refine jjJ rfl ?_; refine jjG ?_; refine jjB ?_; refine jjD ?_; refine jjB ?_; refine jjC ?_; refine jm ?_; refine jn rfl ?_; refine jN rfl rfl rfl ?_; apply jI; exact eI rfl; refine jF rfl rfl rfl (map_get (by omega)) ?_; intro _ _ _; refine jQ rfl rfl ?_)
  (apply jjR rfl; (intro _; first|exact eI rfl|exact eB rfl|exact eP rfl|exact eS rfl|exact eT rfl|exact eA rfl|exact eU rfl|exact eF rfl|exact eM rfl|exact eN rfl|exact rfl); exact rfl; exact rfl; exact rfl; exact rfl; intro b4 w_b4 hb_b4 hs_b4 hS_b4 hk_b4; have hA_b4 := Bk.of hk_b4)
  (refine jz ?_; refine jjB ?_; refine jjB ?_; refine jjC ?_; refine jm ?_; refine jn rfl ?_; refine jN rfl rfl rfl ?_)
  refine jjQ (within_postilref01 cs[k].1 0 9999 _) rfl rfl ?_
  rintro _ w4 hS4 rfl
  cases hi : inB 0 9999 cs[k].1
  · (refine jq rfl ?_; apply jI; exact eB rfl; refine jU rfl rfl rfl rfl ?_; refine jU rfl rfl rfl rfl ?_; refine jU rfl rfl rfl rfl ?_; refine jU rfl rfl rfl rfl ?_; refine jU rfl rfl rfl rfl ?_; apply jK rfl; exact eB rfl; refine jz ?_; refine jjJ rfl ?_; refine jjB ?_; refine jjC ?_; apply jJ; exact eB rfl; refine jz ?_; refine jjF ?_; refine jB rfl rfl ⟨inferInstance, ?_⟩)
    rw [hno (chapB_id hi)]; exact rfl
  (refine jp rfl ?_; apply jI; exact eB rfl; refine jT rfl rfl rfl ?_; refine jm ?_; refine jn rfl ?_; refine jT rfl rfl rfl ?_; refine jN rfl rfl rfl ?_; refine jT rfl rfl rfl ?_; refine jh rfl ?_; refine jT rfl rfl rfl ?_)
  refine jjQ (within_postilref01 (cs[k].2.2.2.length : Int) 1 10 _) rfl rfl ?_
  rintro _ w5 hS5 rfl
  cases hl : inB 1 10 (cs[k].2.2.2.length : Int)
  · (refine jT rfl rfl rfl ?_; refine jq rfl ?_; apply jL rfl; exact eB rfl; refine jz ?_; refine jjJ rfl ?_; refine jjB ?_; refine jjC ?_; apply jJ; exact eB rfl; refine jz ?_; refine jjF ?_; refine jB rfl rfl ⟨inferInstance, ?_⟩)
    rw [hno (chapB_len hl)]; exact rfl
  (refine jT rfl rfl rfl ?_; refine jp rfl ?_; apply jL rfl; exact eB rfl; refine jz ?_; refine jjK rfl ?_; refine jjG ?_; refine jjB ?_; refine jjB ?_; refine jjC ?_; apply jJ; exact eI rfl; refine jz ?_; refine jjD ?_)
  have hA1 : At w5 b1 0 [.slice a cs.length c] := inferInstance
  have hA4 : Bk w5 b4 [.int .i64 cs[k].1, .slice cs[k].2.1 cs[k].2.2.2.length cs[k].2.2.1] 63 := (hA_b4.ext hS4.ext).ext hS5.ext
  have hrow5 : RowV w5 true 2 (.slice a cs.length c) (cs.map encCh) := hrow.h.ext inferInstance
  refine W.keep [(1, .pointer (some ⟨b1, 0, none⟩)), (3, .int .i64 ((k : Nat) : Int)), (4, .pointer (some ⟨b4, 0, none⟩)), (5, .int .i64 ((0 : Nat) : Int))] (D := (13 :: 14 :: 15 :: 16 :: 17 :: 20 :: 21 :: 22 :: 23 :: 24 :: 4 :: 25 :: 26 :: 27 :: 28 :: 29 :: 30 :: 31 :: 32 :: 33 :: 34 :: 35 :: 2 :: 5 :: 36 :: 37 :: 38 :: 41 :: 42 :: 43 :: 44 :: 45 :: 46 :: 47 :: 48 :: 49 :: 39 :: 40 :: 6 :: 50 :: 51 :: 52 :: 53 :: 54 :: 57 :: 58 :: 59 :: 60 :: 61 :: 62 :: 63 :: 64 :: 7 :: 65 :: 66 :: 67 :: 68 :: 69 :: 70 :: 71 :: 72 :: 75 :: 76 :: 77 :: 78 :: 79 :: 80 :: 81 :: 82 :: 83 :: 84 :: 73 :: 74 :: 55 :: 56 :: 18 :: 19 :: 3 :: [])) (sO := upds s0 _) (by ((refine Same.upd rfl ?_; refine Same.upd rfl ?_; refine Same.upd rfl ?_; refine Same.upd rfl ?_; refine Same.upd rfl ?_; refine Same.upd rfl ?_; refine Same.upd rfl ?_; refine Same.upd rfl ?_; refine Same.upd rfl ?_; refine Same.upd rfl ?_; refine Same.upd rfl ?_; refine Same.upd rfl ?_; refine Same.upd rfl ?_; refine Same.upd rfl ?_; refine Same.upd rfl ?_; refine Same.upd rfl ?_; refine Same.upd rfl ?_; refine Same.upd rfl ?_; refine Same.upd rfl ?_; refine Same.upd rfl ?_; refine Same.upd rfl ?_; refine Same.upd rfl ?_; refine Same.upd rfl ?_; refine Same.upd rfl ?_; exact Same.ovN))) ⟨eP rfl, eI rfl, eP rfl, eI rfl, trivial⟩ fun s1 hs1' => ?_
  refine W.loop (36 :: 37 :: 38 :: 41 :: 42 :: 43 :: 44 :: 45 :: 46 :: 47 :: 48 :: 49 :: 2 :: 39 :: 40 :: 5 :: []) (fun g s' V => ∃ i : Nat, s' 5 = .int .i64 ((i : Nat) : Int) ∧ g = k - i ∧ i ≤ k ∧ ∀ (j : Nat) (hj : j < i) (hjc : j < cs.length), cs[j].1 ≠ cs[k].1) k ⟨0, rfl, rfl, Nat.zero_le _, by intros; omega⟩ ?_
  rintro _ sd2 w6 hS6 ⟨i, h5, rfl, hik, hpre2⟩
  refine W.fix h5 ?_
  clear h5
  by_cases hik' : i < k
  · have hic : i < cs.length := by omega
    have hz := (hrow5.ext hS6.ext).place' (map_get hic)
    obtain ⟨p1, o1, e1, hP⟩ := hz
    have hA1' : At w6 b1 0 [.slice (some ⟨p1, o1, none⟩) cs.length c] := by rw [← e1]; exact hA1.ext hS6.ext
    clear hA1
    have hP' : At w6 p1 (o1 + i * 2) [.int .i64 cs[i].1, .slice cs[i].2.1 cs[i].2.2.2.length cs[i].2.2.1] := hP
    clear hP
    (refine jjB ?_; refine jjB ?_; refine jjC ?_; apply jI; exact eI rfl; apply jI; exact eI rfl; refine jjZ rfl rfl (by omega) ?_; refine jz ?_; refine jjJ rfl ?_; refine jjG ?_; refine jjB ?_; refine jjD ?_; refine jjB ?_)
    refine W.draw (fun w' => Ext w6 w') ?_
    intro w7 hS7
    refine jjV [0, 1, 2, 3, 4, 5, 6, 7, 8] (by decide +kernel) hS7.ext ?_
    (((apply jjT; exact rfl; rintro w' hq; have := hq.toStep; refine jm ?_; refine jn rfl ?_; refine jz ?_; exact ⟨rfl, rfl⟩; apply jjT; exact rfl; rintro w' hq; have := hq.toStep; refine jN rfl rfl rfl ?_; refine jz ?_; exact ⟨rfl, rfl⟩; apply jjT; exact rfl; rintro w' hq; have := hq.toStep; apply jI; exact eI rfl; refine jz ?_; exact ⟨rfl, rfl⟩; apply jjT; exact rfl; rintro w' hq; have := hq.toStep; refine jH _ rfl rfl rfl (by omega) ?_; refine jz ?_; exact ⟨rfl, rfl⟩; apply jjT; exact rfl; rintro w' hq; have := hq.toStep; refine jm ?_; refine jn rfl ?_; refine jz ?_; exact ⟨rfl, rfl⟩; apply jjT; exact rfl; rintro w' hq; have := hq.toStep; refine jP rfl rfl rfl ?_; refine jz ?_; exact ⟨rfl, rfl⟩; apply jjT; exact rfl; rintro w' hq; have := hq.toStep; refine jm ?_; refine jn rfl ?_; refine jz ?_; exact ⟨rfl, rfl⟩; apply jjT; exact rfl; rintro w' hq; have := hq.toStep; refine jN rfl rfl rfl ?_; refine jz ?_; exact ⟨rfl, rfl⟩; apply jjT; exact rfl; rintro w' hq; have := hq.toStep; refine jb rfl rfl ?_; refine jz ?_; exact ⟨rfl, rfl⟩; refine jjU ?_)))
    refine jjX (by decide +kernel) hS7.ext ?_
    repeat' (first|((first|apply jI|apply jJ); (first|exact eI rfl|exact eB rfl))|(refine jW ?_; refine jY rfl rfl (by omega) ?_)|refine jz ?_|(refine jjA ?_; (first|refine jjB ?_|refine jjC ?_|refine jjF ?_|refine jjG ?_))|(refine jjA ?_; (refine jjN rfl ?_ ?_ <;> intro _))|refine jB rfl rfl ⟨inferInstance, ?_⟩)
    · have hd : cs[i].1 = cs[k].1 := by assumption
      rw [textB_dup hik' hkc hd]; exact rfl
    · have hd : ¬ cs[i].1 = cs[k].1 := by assumption
      refine ⟨rfl, by ((refine Same.upd rfl ?_; refine Same.upd rfl ?_; refine Same.upd rfl ?_; refine Same.upd rfl ?_; refine Same.upd rfl ?_; refine Same.upd rfl ?_; refine Same.upd rfl ?_; refine Same.upd rfl ?_; refine Same.upd rfl ?_; refine Same.upd rfl ?_; refine Same.upd rfl ?_; refine Same.upd rfl ?_; refine Same.upd rfl ?_; refine Same.upd rfl ?_; refine Same.upd rfl ?_; refine Same.upd rfl ?_; exact Same.ovN)), k - (i + 1), by omega, inferInstance, i + 1, congrArg (Value.int .i64) (by omega), rfl, by omega, fun j hj hjc => ?_⟩
      by_cases e : j = i
      · subst e; exact hd
      · exact hpre2 j (by omega) hjc
  obtain rfl : i = k := by omega
  clear hik' hik
  have hidk : ∀ (j : Nat) (hj : j < i), (cs[j]'(by omega)).1 ≠ cs[i].1 := fun j hj => hpre2 j hj (by omega)
  clear hpre2
  have hA46 : Bk w6 b4 [.int .i64 cs[i].1, .slice cs[i].2.1 cs[i].2.2.2.length cs[i].2.2.1] 63 := hA4.ext hS6.ext
  have hA16 : At w6 b1 0 [.slice a cs.length c] := hA1.ext hS6.ext
  have hT6 : TextI w6 cs := hT.ext inferInstance
  clear hA1 hA4
  (refine jjB ?_; refine jjB ?_; refine jjC ?_; apply jI; exact eI rfl; apply jI; exact eI rfl; refine jja rfl rfl (by omega) ?_; refine jz ?_; refine jjK rfl ?_; refine jjE ?_; refine jjB ?_; refine jjC ?_; apply jJ; exact eI rfl; refine jz ?_; refine jjD ?_)
  refine W.keep [(1, .pointer (some ⟨b1, 0, none⟩)), (3, .int .i64 ((i : Nat) : Int)), (4, .pointer (some ⟨b4, 0, none⟩)), (6, .int .i64 ((0 : Nat) : Int))] (D := (13 :: 14 :: 15 :: 16 :: 17 :: 20 :: 21 :: 22 :: 23 :: 24 :: 4 :: 25 :: 26 :: 27 :: 28 :: 29 :: 30 :: 31 :: 32 :: 33 :: 34 :: 35 :: 2 :: 5 :: 36 :: 37 :: 38 :: 41 :: 42 :: 43 :: 44 :: 45 :: 46 :: 47 :: 48 :: 49 :: 39 :: 40 :: 6 :: 50 :: 51 :: 52 :: 53 :: 54 :: 57 :: 58 :: 59 :: 60 :: 61 :: 62 :: 63 :: 64 :: 7 :: 65 :: 66 :: 67 :: 68 :: 69 :: 70 :: 71 :: 72 :: 75 :: 76 :: 77 :: 78 :: 79 :: 80 :: 81 :: 82 :: 83 :: 84 :: 73 :: 74 :: 55 :: 56 :: 18 :: 19 :: 3 :: [])) (sO := upds s0 _) (by ((refine Same.upd rfl ?_; refine Same.upd rfl ?_; refine Same.upd rfl ?_; refine Same.upd rfl ?_; refine Same.upd rfl ?_; refine Same.ovN' rfl ?_; assumption))) ⟨eP rfl, eI rfl, eP rfl, eI rfl, trivial⟩ fun s2 hs2 => ?_
  refine W.loop (50 :: 51 :: 52 :: 53 :: 54 :: 57 :: 58 :: 59 :: 60 :: 61 :: 62 :: 63 :: 64 :: 2 :: 7 :: 65 :: 66 :: 67 :: 68 :: 69 :: 70 :: 71 :: 72 :: 75 :: 76 :: 77 :: 78 :: 79 :: 80 :: 81 :: 82 :: 83 :: 84 :: 73 :: 74 :: 55 :: 56 :: 6 :: []) (fun g s' V => ∃ n : Nat, s' 6 = .int .i64 ((n : Nat) : Int) ∧ g = cs[i].2.2.2.length - n ∧ n ≤ cs[i].2.2.2.length ∧ ∀ (j : Nat) (hj : j < cs[i].2.2.2.length), j < n → lineB cs[i].2.2.2[j].2.2 = true) cs[i].2.2.2.length ⟨0, rfl, rfl, Nat.zero_le _, by intros; omega⟩ ?_
  rintro _ sd3 w7 hS7 ⟨n, h6', rfl, hn, hpre3⟩
  refine W.fix h6' ?_
  clear h6'
  by_cases hnl : n < cs[i].2.2.2.length
  rotate_left
  · have hne : n = cs[i].2.2.2.length := by omega
    have hyes := chapB_yes hi hl (fun j hj => hpre3 j hj (by omega))
    (refine jjB ?_; refine jjB ?_; refine jjC ?_; apply jI; exact eI rfl; refine jm ?_; refine jn rfl ?_; refine jN rfl rfl rfl ?_; refine jh rfl ?_; refine jja rfl rfl (by omega) ?_; refine jz ?_; refine jjK rfl ?_; refine jjE ?_; refine jjC ?_; apply jI; exact eI rfl; refine jY rfl rfl (by omega) ?_; apply jJ; exact eI rfl; refine jz ?_)
    refine ⟨rfl, by ((refine Same.upd rfl ?_; refine Same.upd rfl ?_; refine Same.upd rfl ?_; refine Same.upd rfl ?_; refine Same.upd rfl ?_; refine Same.upd rfl ?_; refine Same.upd rfl ?_; refine Same.upd rfl ?_; refine Same.upd rfl ?_; refine Same.ovN' rfl ?_; assumption)), cs.length - (i + 1), by omega, inferInstance, i + 1, congrArg (Value.int .i64) (by omega), rfl, by omega, fun j hj hjk => ?_, fun i' j hij hj hjk => ?_⟩
    · by_cases e : j = i
      · subst e; exact hyes
      · exact hpre j hj (by omega)
    · by_cases e : j = i
      · subst e; exact hidk i' hij
      · exact hid i' j hij hj (by omega)
  have hsn := hsk.2 _ (List.getElem_mem hnl)
  have hnoL : lineB cs[i].2.2.2[n].2.2 = false → textB (txF cs) = false := fun h => hno (chapB_line hnl h)
  have hT7 : TextI w7 cs := hT6.ext hS7.ext
  have i2 := hT7.line hkc
  have i3 := hT7.word hkc hnl
  (refine jjB ?_; refine jjB ?_; refine jjC ?_; apply jI; exact eI rfl; refine jm ?_; refine jn rfl ?_; refine jN rfl rfl rfl ?_; refine jh rfl ?_; refine jjZ rfl rfl (by omega) ?_; refine jz ?_; refine jjJ rfl ?_; refine jjG ?_; refine jjB ?_; refine jjD ?_; refine jjB ?_; refine jjB ?_; refine jjC ?_; refine jm ?_; refine jn rfl ?_; refine jN rfl rfl rfl ?_; apply jI; exact eI rfl; refine jF rfl rfl rfl (map_get (by omega)) ?_; intro _ _ _; refine jQ rfl rfl ?_; refine jh rfl ?_)
  refine jjQ (within_postilref01 (cs[i].2.2.2[n].2.2.length : Int) 1 10 _) rfl rfl ?_
  rintro _ w8 hS8 rfl
  cases hl10 : inB 1 10 (cs[i].2.2.2[n].2.2.length : Int)
  · (refine jq rfl ?_; refine jz ?_; refine jjJ rfl ?_; refine jjB ?_; refine jjC ?_; apply jJ; exact eB rfl; refine jz ?_; refine jjF ?_; refine jB rfl rfl ⟨inferInstance, ?_⟩)
    rw [hnoL (lineB_len hl10)]; exact rfl
  (refine jp rfl ?_; refine jz ?_; refine jjK rfl ?_; refine jjG ?_; refine jjB ?_; refine jjC ?_; apply jJ; exact eI rfl; refine jz ?_; refine jjD ?_)
  refine W.keep [(1, .pointer (some ⟨b1, 0, none⟩)), (3, .int .i64 ((i : Nat) : Int)), (4, .pointer (some ⟨b4, 0, none⟩)), (6, .int .i64 ((n : Nat) : Int)), (7, .int .i64 ((0 : Nat) : Int))] (D := (50 :: 51 :: 52 :: 53 :: 54 :: 57 :: 58 :: 59 :: 60 :: 61 :: 62 :: 63 :: 64 :: 2 :: 7 :: 65 :: 66 :: 67 :: 68 :: 69 :: 70 :: 71 :: 72 :: 75 :: 76 :: 77 :: 78 :: 79 :: 80 :: 81 :: 82 :: 83 :: 84 :: 73 :: 74 :: 55 :: 56 :: 6 :: [])) (sO := upds s2 _) (by ((refine Same.upd rfl ?_; refine Same.upd rfl ?_; refine Same.upd rfl ?_; refine Same.upd rfl ?_; refine Same.upd rfl ?_; refine Same.upd rfl ?_; refine Same.upd rfl ?_; refine Same.upd rfl ?_; refine Same.upd rfl ?_; refine Same.upd rfl ?_; refine Same.upd rfl ?_; refine Same.upd rfl ?_; refine Same.upd rfl ?_; refine Same.upd rfl ?_; refine Same.upd rfl ?_; exact Same.ovN))) ⟨eP rfl, eI rfl, eP rfl, eI rfl, eI rfl, trivial⟩ fun s3 hs3 => ?_
  have hA48 : Bk w8 b4 [.int .i64 cs[i].1, .slice cs[i].2.1 cs[i].2.2.2.length cs[i].2.2.1] 63 := hA46.ext (hS7.ext.trans hS8.ext)
  refine W.loop (65 :: 66 :: 67 :: 68 :: 69 :: 70 :: 71 :: 72 :: 75 :: 76 :: 77 :: 78 :: 79 :: 80 :: 81 :: 82 :: 83 :: 84 :: 2 :: 73 :: 74 :: 7 :: []) (fun g s' V => ∃ q : Nat, s' 7 = .int .i64 ((q : Nat) : Int) ∧ g = cs[i].2.2.2[n].2.2.length - q ∧ q ≤ cs[i].2.2.2[n].2.2.length ∧ ∀ (j : Nat) (hj : j < cs[i].2.2.2[n].2.2.length), j < q → wordB cs[i].2.2.2[n].2.2[j] = true) cs[i].2.2.2[n].2.2.length ⟨0, rfl, rfl, Nat.zero_le _, by intros; omega⟩ ?_
  rintro _ sd4 w9 hS9 ⟨q, h7, rfl, hq, hpre4⟩
  refine W.fix h7 ?_
  clear h7
  have hT9 : TextI w9 cs := hT7.ext (hS8.ext.trans hS9.ext)
  clear i2 i3
  have i4 := hT9.line hkc
  have i5 := hT9.word hkc hnl
  by_cases hql : q < cs[i].2.2.2[n].2.2.length
  · have hsq := hsn.2 _ (List.getElem_mem hql)
    (refine jjB ?_; refine jjB ?_; refine jjC ?_; apply jI; exact eI rfl; refine jm ?_; refine jn rfl ?_; refine jN rfl rfl rfl ?_; apply jI; exact eI rfl; refine jF rfl rfl rfl (map_get (by omega)) ?_; intro _ _ _; refine jQ rfl rfl ?_; refine jh rfl ?_; refine jjZ rfl rfl (by omega) ?_; refine jz ?_; refine jjJ rfl ?_; refine jjG ?_; refine jjB ?_; refine jjD ?_; refine jjB ?_; refine jjC ?_; refine jm ?_; refine jn rfl ?_; refine jN rfl rfl rfl ?_; apply jI; exact eI rfl; refine jF rfl rfl rfl (map_get (by omega)) ?_; intro _ _ _; refine jQ rfl rfl ?_; apply jI; exact eI rfl; refine jF rfl rfl rfl (map_get (by omega)) ?_; intro _ _ _; refine jQ rfl rfl ?_)
    have hwb : ∃ b, wordB cs[i].2.2.2[n].2.2[q] = b := ⟨_, rfl⟩
    obtain ⟨b, hw⟩ := hwb
    refine jjQ ((Word_ref cs[i].2.2.2[n].2.2[q] _ (by omega)).mono fun v _ _ e => e.trans (by rw [hw])) rfl rfl ?_
    rintro _ w10 hS10 rfl
    cases b
    · (refine jq rfl ?_; refine jz ?_; refine jjJ rfl ?_; refine jjB ?_; refine jjC ?_; apply jJ; exact eB rfl; refine jz ?_; refine jjF ?_; refine jB rfl rfl ⟨inferInstance, ?_⟩)
      rw [hnoL (lineB_word hql hw)]; exact rfl
    · (refine jp rfl ?_; refine jz ?_; refine jjK rfl ?_; refine jjG ?_; refine jjC ?_; apply jI; exact eI rfl; refine jY rfl rfl (by omega) ?_; apply jJ; exact eI rfl; refine jz ?_)
      refine ⟨rfl, by ((refine Same.upd rfl ?_; refine Same.upd rfl ?_; refine Same.upd rfl ?_; refine Same.upd rfl ?_; refine Same.upd rfl ?_; refine Same.upd rfl ?_; refine Same.upd rfl ?_; refine Same.upd rfl ?_; refine Same.upd rfl ?_; refine Same.upd rfl ?_; refine Same.upd rfl ?_; refine Same.upd rfl ?_; refine Same.upd rfl ?_; refine Same.upd rfl ?_; refine Same.upd rfl ?_; refine Same.upd rfl ?_; refine Same.upd rfl ?_; refine Same.upd rfl ?_; refine Same.upd rfl ?_; refine Same.upd rfl ?_; refine Same.upd rfl ?_; refine Same.upd rfl ?_; exact Same.ovN)), cs[i].2.2.2[n].2.2.length - (q + 1), by omega, inferInstance, q + 1, congrArg (Value.int .i64) (by omega), rfl, by omega, fun j hj hjk => ?_⟩
      by_cases e : j = q
      · subst e; exact hw
      · exact hpre4 j hj (by omega)
  · have hyes := lineB_yes hl10 (fun j hj => hpre4 j hj (by omega))
    (refine jjB ?_; refine jjB ?_; refine jjC ?_; apply jI; exact eI rfl; refine jm ?_; refine jn rfl ?_; refine jN rfl rfl rfl ?_; apply jI; exact eI rfl; refine jF rfl rfl rfl (map_get (by omega)) ?_; intro _ _ _; refine jQ rfl rfl ?_; refine jh rfl ?_; refine jja rfl rfl (by omega) ?_; refine jz ?_; refine jjK rfl ?_; refine jjE ?_; refine jjC ?_; apply jI; exact eI rfl; refine jY rfl rfl (by omega) ?_; apply jJ; exact eI rfl; refine jz ?_)
    refine ⟨rfl, by ((refine Same.upd rfl ?_; refine Same.upd rfl ?_; refine Same.upd rfl ?_; refine Same.upd rfl ?_; refine Same.upd rfl ?_; refine Same.upd rfl ?_; refine Same.upd rfl ?_; refine Same.upd rfl ?_; refine Same.upd rfl ?_; refine Same.upd rfl ?_; refine Same.upd rfl ?_; refine Same.upd rfl ?_; refine Same.ovN' rfl ?_; assumption)), cs[i].2.2.2.length - (n + 1), by omega, inferInstance, n + 1, congrArg (Value.int .i64) (by omega), rfl, by omega, fun j hj hjk => ?_⟩
    by_cases e : j = n
    · subst e; exact hyes
    · exact hpre3 j hj (by omega)
end
end Go.Proofs.YtpbkphaceljclaaGreatDoor

/- slip: Check, open; the reference: Cut, Check, asked. -/
namespace Go.Proofs.YtpbkphaceljclaaGreatDoor
open Go.RowKit

theorem inOne_slip (lo hi n : Int) (b : Nat) (B : Bool) (w : World) (hB : inB lo hi n = B) (hR : RowV w false 1 (.slice (some ⟨b, 0, none⟩) 1 1) [.int .i64 n]) : Ct Tryz.prog 87 [.int .i64 lo, .int .i64 hi, .slice (some ⟨b, 0, none⟩) 1 1] w fun v _ => v = .bool B :=
  (in_slip lo hi _ [n] w hR).mono fun v _ _ e => e.trans (by rw [all_1, hB])
/-- A cut: its width and its side. -/
abbrev encCut (width side : Int) : Value := .agg #[.int .i64 width, .int .u8 side]
def cutB (width side : Int) : Bool := inB 12 80 width && inB 1 3 side
/-- The error of a text and a cut. -/
def askE (t : Tx) (width side : Int) : Int := if textB t then (if cutB width side then 0 else 30) else 10

theorem Check_slip (width side : Int) (hs : 0 ≤ side ∧ side ≤ 255) (w : World) : Ct Tryz.prog 86 [encCut width side] w fun v _ => v = .int .i64 (if cutB width side then 0 else 30) := by
  refine Ct.ofW (by simp) ?_
  (refine jjB ?_; refine jjC ?_)
  (refine jy rfl ?_; intro b1 w_b1 hb_b1 hs_b1 hS_b1 hk_b1; have hA_b1 := At.ofBlock hk_b1)
  (apply jJ; exact eI rfl; refine jz ?_; refine jjB ?_; refine jjB ?_; refine jjC ?_; refine jm ?_; refine jn rfl ?_; refine jN rfl rfl rfl ?_)
  (refine jjP (v := .int _ _) rfl (by exact rfl) (by exact rfl) (by exact rfl) (by exact rfl) ?_; intro b2 w_b2 hb_b2 hs_b2 hS_b2 hk_b2; have hR_b2 := RowV.one (agg := false) (k := 1) rfl hk_b2)
  obtain ⟨B1, h1⟩ : ∃ B, inB 12 80 width = B := ⟨_, rfl⟩
  refine jjQ (inOne_slip 12 80 width b2 B1 _ h1 hR_b2) rfl rfl ?_
  rintro _ w2 hS2 rfl
  cases B1
  · (refine jq rfl ?_; apply jI; exact eB rfl; refine jU rfl rfl rfl rfl ?_; refine jU rfl rfl rfl rfl ?_; refine jU rfl rfl rfl rfl ?_; refine jU rfl rfl rfl rfl ?_; refine jU rfl rfl rfl rfl ?_; refine jU rfl rfl rfl rfl ?_; apply jK rfl; exact eB rfl; refine jz ?_; refine jjJ rfl ?_; refine jjB ?_; refine jjC ?_; apply jJ; exact eI rfl; refine jz ?_; refine jjF ?_; refine jB rfl rfl ⟨inferInstance, ?_⟩)
    rw [cutB, h1]; exact rfl
  (refine jp rfl ?_; apply jI; exact eB rfl; refine jT rfl rfl rfl ?_; refine jm ?_; refine jn rfl ?_; refine jT rfl rfl rfl ?_; refine jN rfl rfl rfl ?_; refine jT rfl rfl rfl ?_)
  refine Ops.convI rfl rfl (wrapi (by omega) (by omega)) ?_
  (refine jT rfl rfl rfl ?_)
  (refine jjP (v := .int _ _) rfl (by exact rfl) (by exact rfl) (by exact rfl) (by exact rfl) ?_; intro b3 w_b3 hb_b3 hs_b3 hS_b3 hk_b3; have hR_b3 := RowV.one (agg := false) (k := 1) rfl hk_b3)
  obtain ⟨B2, h2⟩ : ∃ B, inB 1 3 side = B := ⟨_, rfl⟩
  (refine jT rfl rfl rfl ?_)
  refine jjQ (inOne_slip 1 3 side b3 B2 _ h2 hR_b3) rfl rfl ?_
  rintro _ w3 hS3 rfl
  cases B2
  · (refine jT rfl rfl rfl ?_; refine jq rfl ?_; apply jL rfl; exact eB rfl; refine jz ?_; refine jjJ rfl ?_; refine jjB ?_; refine jjC ?_; apply jJ; exact eI rfl; refine jz ?_; refine jjF ?_; refine jB rfl rfl ⟨inferInstance, ?_⟩)
    rw [cutB, h1, h2]; exact rfl
  · (refine jT rfl rfl rfl ?_; refine jp rfl ?_; apply jL rfl; exact eB rfl; refine jz ?_; refine jjK rfl ?_; refine jjG ?_; refine jjB ?_; refine jjC ?_; apply jJ; exact eI rfl; refine jz ?_; refine jjF ?_; refine jB rfl rfl ⟨inferInstance, ?_⟩)
    rw [cutB, h1, h2]; exact rfl
theorem Cut_ref3 (width side : Int) (hs : 0 ≤ side ∧ side ≤ 255) (w : World) : Ct Tryz.prog 46 [encCut width side] w fun v _ => v = .bool (cutB width side) := by
  refine Ct.ofW (by simp) ?_
  (refine jjB ?_; refine jjC ?_)
  (refine jy rfl ?_; intro b1 w_b1 hb_b1 hs_b1 hS_b1 hk_b1; have hA_b1 := At.ofBlock hk_b1)
  (apply jJ; exact eB rfl; refine jz ?_; refine jjB ?_; refine jjC ?_; refine jm ?_; refine jn rfl ?_; refine jN rfl rfl rfl ?_)
  refine jjQ (within_postilref03 width 12 80 _) rfl rfl ?_
  rintro _ w2 hS2 rfl
  cases h1 : inB 12 80 width
  · (apply jI; exact eB rfl; refine jU rfl rfl rfl rfl ?_; refine jU rfl rfl rfl rfl ?_; refine jU rfl rfl rfl rfl ?_; refine jU rfl rfl rfl rfl ?_; apply jL rfl; exact eB rfl; apply jJ; exact eB rfl; refine jz ?_; refine jjF ?_; refine jB rfl rfl ⟨inferInstance, ?_⟩)
    rw [cutB, h1]; exact rfl
  (apply jI; exact eB rfl; refine jT rfl rfl rfl ?_; refine jm ?_; refine jn rfl ?_; refine jT rfl rfl rfl ?_; refine jN rfl rfl rfl ?_; refine jT rfl rfl rfl ?_)
  refine Ops.convI rfl rfl (wrapi (by omega) (by omega)) ?_
  (refine jT rfl rfl rfl ?_)
  refine jjQ (within_postilref03 side 1 3 _) rfl rfl ?_
  rintro _ w3 hS3 rfl
  (apply jK rfl; exact eB rfl; apply jJ; exact eB rfl; refine jz ?_; refine jjF ?_; refine jB rfl rfl ⟨inferInstance, ?_⟩)
  rw [cutB, h1, Bool.true_and]; exact rfl
section
variable (a : Option Addr) (c : Nat) (cs : List Ch) (width side : Int) (w : World) [hrow : RowI w (.slice a cs.length c) true 2 (cs.map encCh)] [hT : TextI w cs]
theorem open_slip (hs : SmallT cs) (hd : 0 ≤ side ∧ side ≤ 255) : Ct Tryz.prog 50 [.agg #[.slice a cs.length c], encCut width side] w fun v _ => v = .int .i64 (askE (txF cs) width side) := by
  refine Ct.ofW (by simp) ?_
  (refine jjB ?_; refine jjC ?_)
  (refine jy rfl ?_; intro b1 w_b1 hb_b1 hs_b1 hS_b1 hk_b1; have hA_b1 := At.ofBlock hk_b1)
  skip
  (refine jy rfl ?_; intro b2 w_b2 hb_b2 hs_b2 hS_b2 hk_b2; have hA_b2 := At.ofBlock hk_b2)
  (apply jJ; exact eI rfl; refine jz ?_; refine jjB ?_; refine jjB ?_; refine jjC ?_; refine jO rfl rfl rfl rfl ?_)
  refine jjQ (Check_leaf a c cs _ hs) rfl rfl ?_
  rintro _ w2 hS2 rfl
  cases ht : textB (txF cs)
  · (apply jJ; exact eI rfl; refine jz ?_; refine jjB ?_; refine jjC ?_; apply jI; exact eI rfl; refine jc rfl rfl ?_; refine jz ?_; refine jjJ rfl ?_; refine jjB ?_; refine jjC ?_; apply jI; exact eI rfl; apply jJ; exact eI rfl; refine jz ?_; refine jjF ?_; refine jB rfl rfl ⟨inferInstance, ?_⟩)
    rw [askE, ht]; exact rfl
  · (apply jJ; exact eI rfl; refine jz ?_; refine jjB ?_; refine jjC ?_; apply jI; exact eI rfl; refine jc rfl rfl ?_; refine jz ?_; refine jjK rfl ?_; refine jjG ?_; refine jjB ?_; refine jjC ?_; refine jO rfl rfl rfl rfl ?_)
    refine jjQ (Check_slip width side hd _) rfl rfl ?_
    rintro _ w3 hS3 rfl
    (apply jJ; exact eI rfl; refine jz ?_; refine jjF ?_; refine jB rfl rfl ⟨inferInstance, ?_⟩)
    rw [askE, ht]; exact rfl
end
end Go.Proofs.YtpbkphaceljclaaGreatDoor

/- What readings of texts, cuts and places say; what the table of sides holds when the call begins. -/
namespace Go.Proofs.YtpbkphaceljclaaGreatDoor
open Go.ChangeShapes Go.WideShapes Go.ChangeAt Go.RowKit Go.WideElems

theorem read_strs' {H : Type} {enc : TypeId × Value → H} {W : World} {n : Nat} {v : Value} {z : DataW H × List MemPlace} (h : DataW.trod enc Tryz.prog W 0 (fun _ => true) true n 53 [v] = some z)
    (hw : ∀ q ∈ z.1.weights Tryz.prog 53, q ≤ reachBytes) : ∃ (a : Option Addr) (c : Nat) (l : List ByteArray), v = .slice a l.length c ∧ RowV W false 1 (.slice a l.length c) (l.map strV) := by
  obtain ⟨a, c, vs, e, hR, hE⟩ := rowV_of_trod (t := 53) (k := 1) (agg := false) (by kernel_rfl) (by omega) (fun _ => rfl) (fun _ _ _ _ e => by
    obtain ⟨m, e, _, _⟩ := DataW.trod_string Tryz.underlying9 e
    cases e; rfl) (of_decide_eq_true (by kernel_rfl)) h hw
  obtain ⟨l, rfl, _⟩ := exists_map (enc := strV) (Q := fun _ => True) (vs := vs) fun y hy => by
    obtain ⟨n', z, hz, _⟩ := hE y hy
    have hfit := hR.fit y hy
    have hc : y.cells.toList = [y] := by cases y <;> simp [fitsV] at hfit <;> rfl
    rw [hc] at hz
    obtain ⟨m, e, _, _⟩ := DataW.trod_string Tryz.underlying9 hz
    cases e
    exact ⟨m, rfl, trivial⟩
  rw [e] at hR
  rw [List.length_map] at hR e
  exact ⟨a, c, l, e, hR⟩
theorem read_lines' {H : Type} {enc : TypeId × Value → H} {W : World} {n : Nat} {v : Value} {z : DataW H × List MemPlace} (h : DataW.trod enc Tryz.prog W 0 (fun _ => true) true n 61 [v] = some z)
    (hw : ∀ q ∈ z.1.weights Tryz.prog 61, q ≤ reachBytes) : ∃ (a : Option Addr) (c : Nat) (l : List Ln), v = .slice a l.length c ∧ RowV W false 1 (.slice a l.length c) (l.map encLn) ∧ ∀ y ∈ l, RowV W false 1 (encLn y) (y.2.2.map strV) := by
  obtain ⟨a, c, vs, e, hR, hE⟩ := rowV_of_trod (t := 61) (k := 1) (agg := false) (by kernel_rfl) (by omega) (fun _ => rfl) (fun _ _ _ _ e => by
    rcases Deep.open_slice Tryz.underlying53 e with ⟨hcs, _⟩ | ⟨a, len, cap, m, n', D, Pl, hcs, _⟩ <;> cases hcs <;> rfl) (of_decide_eq_true (by kernel_rfl)) h hw
  obtain ⟨l, rfl, hq⟩ := exists_map (enc := encLn) (Q := fun x => RowV W false 1 (encLn x) (x.2.2.map strV)) (vs := vs) fun y hy => by
    obtain ⟨n', z, hz, hzw⟩ := hE y hy
    have hfit := hR.fit y hy
    have hc : y.cells.toList = [y] := by cases y <;> simp [fitsV] at hfit <;> rfl
    rw [hc] at hz
    obtain ⟨a', c', l', rfl, hR'⟩ := read_strs' hz hzw
    exact ⟨(a', c', l'), rfl, hR'⟩
  rw [e] at hR
  rw [List.length_map] at hR e
  exact ⟨a, c, l, e, hR, hq⟩
set_option maxRecDepth 100000 in
theorem read_text {H : Type} {enc : TypeId × Value → H} {W : World} {base : Nat} {v : Value} {d : DataW H} {p : List MemPlace} (hv : Value.okWide Tryz.prog W .any base 24 v) (h : DataW.Trod enc Tryz.prog W 0 (fun _ => true) true 24 v d p)
    (hw : ∀ q ∈ d.weights Tryz.prog 24, q ≤ reachBytes) : ∃ (a : Option Addr) (c : Nat) (cs : List Ch), v = .agg #[.slice a cs.length c] ∧ RowV W true 2 (.slice a cs.length c) (cs.map encCh) ∧ TextI W cs := by
  obtain ⟨xs, rfl, hsz⟩ := okWide_struct Tryz.underlying24 hv
  have k1 : Tryz.prog.cellsOf 24 = 1 := by kernel_rfl
  have k2 : Tryz.prog.cellsOf 22 = 1 := by kernel_rfl
  rw [k1] at hsz
  obtain ⟨c0, rfl⟩ := Array.size_eq_one_iff.1 hsz
  obtain ⟨fuel, hf⟩ := h
  obtain ⟨y0, n, hx, _, h0⟩ := trod_struct1 Tryz.underlying24 hf
  simp only [Prod.mk.injEq] at hx
  obtain ⟨rfl, rfl⟩ := hx
  have h0' : DataW.trod enc Tryz.prog W 0 (fun _ => true) true n 22 [c0] = some y0 := by simpa [Value.cells, k2] using h0
  obtain ⟨a, c, vs, rfl, hR, hE⟩ := rowV_of_trod (t := 22) (k := 2) (agg := true) (by kernel_rfl) (by omega) (fun e => by cases e) (fun _ _ _ e => by cases e) (of_decide_eq_true (by kernel_rfl)) h0' (fun q hq => hw q (by
    simp only [DataW.weights, Tryz.underlying24, DataW.weightsEach, List.map_cons, List.map_nil, List.mem_append]
    exact .inl hq))
  obtain ⟨cs, rfl, hq⟩ := exists_map (enc := encCh) (Q := fun x => RowV W false 1 (.slice x.2.1 x.2.2.2.length x.2.2.1) (x.2.2.2.map encLn) ∧ ∀ y ∈ x.2.2.2, RowV W false 1 (encLn y) (y.2.2.map strV)) (vs := vs) fun y hy => by
    obtain ⟨n', z, hz, hzw⟩ := hE y hy
    have hfit := hR.fit y hy
    cases y <;> simp [fitsV] at hfit
    case agg ys =>
      obtain ⟨d0, d1, rfl⟩ := Joins.array2 hfit
      obtain ⟨z0, z1, n2, rfl, _, g0, g1⟩ := trod_struct2 Tryz.underlying63 hz
      have k3 : Tryz.prog.cellsOf 3 = 1 := by kernel_rfl
      have k4 : Tryz.prog.cellsOf 61 = 1 := by kernel_rfl
      have g0' : DataW.trod enc Tryz.prog W 0 (fun _ => true) true n2 3 [d0] = some z0 := by simpa [Value.cells, k3] using g0
      have g1' : DataW.trod enc Tryz.prog W 0 (fun _ => true) true n2 61 [d1] = some z1 := by simpa [Value.cells, k4] using g1
      obtain ⟨m, e0, _, _⟩ := DataW.trod_int Tryz.underlying3 g0'
      cases e0
      obtain ⟨a', c', l', rfl, hR', hQ'⟩ := read_lines' g1' (fun q hq => hzw q (by
        simp only [DataW.weights, Tryz.underlying63, DataW.weightsEach, List.map_cons, List.map_nil, List.mem_append]
        exact .inr (.inl hq)))
      exact ⟨(m, a', c', l'), rfl, hR', hQ'⟩
  rw [List.length_map] at hR ⊢
  exact ⟨a, c, cs, rfl, hR, ⟨fun x hx => (hq x hx).1, fun x hx => (hq x hx).2⟩⟩
set_option maxRecDepth 100000 in
theorem read_cut {H : Type} {enc : TypeId × Value → H} {W : World} {base : Nat} {v : Value} {d : DataW H} {p : List MemPlace} (hv : Value.okWide Tryz.prog W .any base 26 v) (h : DataW.Trod enc Tryz.prog W 0 (fun _ => true) true 26 v d p) :
    ∃ wd side : Int, v = encCut wd side ∧ (0 ≤ side ∧ side ≤ 255) := by
  obtain ⟨v0, v1, y0, y1, n, rfl, rfl, _, h0, h1⟩ := Joins.open_agg2 Tryz.underlying26 (by kernel_rfl) (by kernel_rfl) hv h
  obtain ⟨wd, e0, _, _⟩ := DataW.trod_int Tryz.underlying3 h0
  obtain ⟨side, e1, _, hr⟩ := DataW.trod_int Tryz.underlying5 h1
  cases e0; cases e1
  refine ⟨wd, side, rfl, ?_⟩
  simp only [Lit.wf, Bool.and_eq_true, decide_eq_true_eq] at hr
  have m1 : IntKind.u8.min = 0 := by decide
  have m2 : IntKind.u8.max = 255 := by decide
  rw [m1, m2] at hr
  exact hr
theorem nilf_of_trod {H : Type} {tok : TypeId × Value → H} {P : Program} {w : World} {base : Nat} {sp : Nat → Bool} {fuel : Nat} {t : TypeId} {ps rs : Array TypeId} {va : Bool} {v : Value} {q : List MemPlace}
    (ht : P.underlying t = some (.func ps rs va)) (h : DataW.trod tok P w base sp true fuel t [v] = some (.nil, q)) : v = .nilFunc := by
  cases fuel with
  | zero => simp [DataW.trod] at h
  | succ n => cases v <;> simp [DataW.trod, ht] at h <;> rfl

abbrev sidesC' : List Value := [.nilFunc, .func (.func 201) #[] ([] : List Value).toArray, .func (.func 202) #[] ([] : List Value).toArray, .func (.func 203) #[] ([] : List Value).toArray]
theorem g_sides : Tryz.prog.globalNamed "postil/slip.sides" = some 0 := by kernel_rfl
theorem t_sides : (Tryz.prog.globals[0]?).map (·.type) = some 185 := by kernel_rfl
theorem sides_laid {W : World} {laid : List (String × DataW Unit)} (h : laidMetH Tryz.prog laid W) (hx : ("postil/slip.sides", Rows.laid_postil_slip_sides) ∈ laid) : At W 0 0 sidesC' := by
  obtain ⟨g, t, cs, fuel, p, hg, ht, hv, hd⟩ := laidMetH.funcs (d := .agg [.agg [.nil], .agg [.iface "func" (.lit (.string [112, 111, 115, 116, 105, 108, 47, 115, 108, 105, 112, 46, 115, 105, 100, 101, 115, 36, 49]))], .agg [.iface "func" (.lit (.string [112, 111, 115, 116, 105, 108, 47, 115, 108, 105, 112, 46, 115, 105, 100, 101, 115, 36, 50]))], .agg [.iface "func" (.lit (.string [112, 111, 115, 116, 105, 108, 47, 115, 108, 105, 112, 46, 115, 105, 100, 101, 115, 36, 51]))]]) h hx
  obtain rfl := Option.some.inj (g_sides.symm.trans hg)
  obtain rfl := Option.some.inj (t_sides.symm.trans ht)
  have hd' : DataW.trod (funcToken Tryz.prog) Tryz.prog W 0 (fun _ => true) true fuel 185 cs.toList = some (.agg [.agg [.nil], .agg [.held [112, 111, 115, 116, 105, 108, 47, 115, 108, 105, 112, 46, 115, 105, 100, 101, 115, 36, 49]], .agg [.held [112, 111, 115, 116, 105, 108, 47, 115, 108, 105, 112, 46, 115, 105, 100, 101, 115, 36, 50]], .agg [.held [112, 111, 115, 116, 105, 108, 47, 115, 108, 105, 112, 46, 115, 105, 100, 101, 115, 36, 51]]], p) := hd
  obtain ⟨xs, m, _, hxs, hl, hn, hel⟩ := DataW.trod_array Tryz.underlying185 hd'
  have kT : Tryz.prog.cellsOf 185 = 4 := by kernel_rfl
  have kE : Tryz.prog.cellsOf 184 = 1 := by kernel_rfl
  have kF : Tryz.prog.cellsOf 183 = 1 := by kernel_rfl
  obtain ⟨c0, c1, c2, c3, rfl⟩ := Joins.array4 (cs := cs) (by simpa [kT] using hl)
  simp only [Prod.mk.injEq, DataW.agg.injEq] at hxs
  have key : ∀ (i : Nat) (c : Value) (b : DataW (List UInt8)), i < 4 → (([c0, c1, c2, c3].drop (i * 1)).take 1) = [c] → (xs.map (·.1))[i]? = some (.agg [b]) → ∃ n q, DataW.trod (funcToken Tryz.prog) Tryz.prog W 0 (fun _ => true) true n 183 [c] = some (b, q) := fun i c b hi hc hb => by
    have h0 := hel i hi
    rw [kE, hc] at h0
    rw [List.getElem?_map] at hb
    obtain ⟨x, hx1, hx2⟩ := Option.map_eq_some_iff.1 hb
    rw [hx1] at h0
    obtain ⟨y0, n, e, _, h1⟩ := trod_struct1 Tryz.underlying184 h0
    rw [e] at hx2
    simp only [DataW.agg.injEq, List.cons.injEq, and_true] at hx2
    obtain ⟨y1, y2⟩ := y0
    simp only at hx2
    subst hx2
    exact ⟨n, y2, by simpa [kF] using h1⟩
  obtain ⟨n0, q0, k0⟩ := key 0 c0 .nil (by omega) rfl (by rw [← hxs.1]; rfl)
  obtain ⟨n1, q1, k1⟩ := key 1 c1 (.held [112, 111, 115, 116, 105, 108, 47, 115, 108, 105, 112, 46, 115, 105, 100, 101, 115, 36, 49]) (by omega) rfl (by rw [← hxs.1]; rfl)
  obtain ⟨n2, q2, k2⟩ := key 2 c2 (.held [112, 111, 115, 116, 105, 108, 47, 115, 108, 105, 112, 46, 115, 105, 100, 101, 115, 36, 50]) (by omega) rfl (by rw [← hxs.1]; rfl)
  obtain ⟨n3, q3, k3⟩ := key 3 c3 (.held [112, 111, 115, 116, 105, 108, 47, 115, 108, 105, 112, 46, 115, 105, 100, 101, 115, 36, 51]) (by omega) rfl (by rw [← hxs.1]; rfl)
  obtain rfl := nilf_of_trod Tryz.underlying183 k0
  obtain rfl := func_of_trod (f0 := 201) Tryz.underlying183 (by kernel_rfl) k1
  obtain rfl := func_of_trod (f0 := 202) Tryz.underlying183 (by kernel_rfl) k2
  obtain rfl := func_of_trod (f0 := 203) Tryz.underlying183 (by kernel_rfl) k3
  exact ⟨fun i v hv' => by have := World.var?_cell hg hv i; rw [Nat.zero_add, this]; simpa using hv'⟩
end Go.Proofs.YtpbkphaceljclaaGreatDoor

/- Plain law: words with a space between them. -/
namespace Go.Proofs.YtpbkphaceljclaaGreatDoor
open Go.RowKit

def spl : List UInt8 → List (List UInt8)
  | [] => [[]]
  | c :: l => if c = 32 then [] :: spl l else match spl l with
    | [] => [[c]]
    | x :: r => (c :: x) :: r
theorem spl_ne (l : List UInt8) : spl l ≠ [] := by
  cases l with
  | nil => simp [spl]
  | cons c l =>
    rw [spl]
    split
    · simp
    · split <;> simp
theorem index_sp_hit (l : List UInt8) : Lib.index (32 :: l) [32] = 0 := by simp [Lib.index]
theorem index_sp_cons {c : UInt8} (hc : c ≠ 32) (l : List UInt8) : Lib.index (c :: l) [32] = if Lib.index l [32] = -1 then -1 else Lib.index l [32] + 1 := by
  have : ¬ (32 = c) := fun e => hc e.symm
  simp [Lib.index, this]
theorem split_spl : ∀ l : List UInt8, Lib.split l [32] = spl l := by
  intro l
  induction l with
  | nil => rfl
  | cons c l ih =>
    by_cases hc : c = 32
    · subst hc
      rw [spl, if_pos rfl, ← ih, Lib.split, Lib.split, Lib.count_cons_eq, Nat.add_comm, Lib.splitK, index_sp_hit]
      simp
    · have hcnt := Lib.count_cons_ne c 32 l hc
      have hix := index_sp_cons hc l
      rw [spl, if_neg hc, ← ih, Lib.split, Lib.split, hcnt]
      rcases Lib.index_spec l [32] with ⟨h1, _⟩ | ⟨i, h1, hi, _⟩
      · rw [Lib.count_miss h1]; rfl
      · rw [Lib.count_hit (by simp) h1, Nat.add_comm, Lib.splitK, Lib.splitK]
        have hix2 : Lib.index (c :: l) [32] = (i : Int) + 1 := by rw [hix, h1, if_neg (by omega)]
        rw [hix2, h1]
        have e1 : ((i : Int) + 1 == -1) = false := by rw [beq_eq_false_iff_ne]; omega
        have e2 : ((i : Int) == -1) = false := by rw [beq_eq_false_iff_ne]; omega
        have e3 : ((i : Int) + 1).toNat = i + 1 := by omega
        rw [e1, e2, e3]
        simp
abbrev bytesL (l : List UInt8) : ByteArray := ⟨l.toArray⟩
def splB (s : ByteArray) : List ByteArray := (spl s.data.toList).map bytesL
theorem bytesL_data (s : ByteArray) : bytesL s.data.toList = s := by
  apply ByteArray.ext; simp
theorem splitB_spl (s : ByteArray) : Lib.splitB ⟨#[32]⟩ 0 (Lib.countB s ⟨#[32]⟩) s = splB s := by
  have h := Lib.splitB_data ⟨#[32]⟩ 0 (Lib.countB s ⟨#[32]⟩) s
  have h2 : Lib.splitK [32] 0 (Lib.countB s ⟨#[32]⟩) s.data.toList = spl s.data.toList := split_spl s.data.toList
  rw [show (⟨#[32]⟩ : ByteArray).data.toList = [32] from rfl, h2] at h
  rw [splB, ← h, List.map_map]
  symm
  have : (bytesL ∘ fun x : ByteArray => x.data.toList) = id := by funext x; exact bytesL_data x
  rw [this, List.map_id]
theorem splB_len (s : ByteArray) : (splB s).length = Lib.countB s ⟨#[32]⟩ + 1 := by
  rw [← splitB_spl]; exact Lib.splitB_all _ (by decide) 0 _ s rfl
theorem spl_bound (l : List UInt8) : (spl l).length ≤ l.length + 1 ∧ ∀ x ∈ spl l, x.length ≤ l.length := by
  induction l with
  | nil => simp [spl]
  | cons c l ih =>
    obtain ⟨h1, h2⟩ := ih
    rw [spl]
    split
    · refine ⟨by simp; omega, fun x hx => ?_⟩
      rcases List.mem_cons.1 hx with rfl | hx
      · simp
      · have := h2 x hx; simp; omega
    · obtain ⟨y, r, hy⟩ : ∃ x r, spl l = x :: r := List.exists_cons_of_ne_nil (spl_ne l)
      rw [hy] at h1 h2 ⊢
      refine ⟨by simp at h1 ⊢; omega, fun x hx => ?_⟩
      rcases List.mem_cons.1 hx with rfl | hx
      · have := h2 y (by simp); simp; omega
      · have := h2 x (by simp [hx]); simp; omega
theorem splB_bound (s : ByteArray) : (splB s).length ≤ s.size + 1 ∧ ∀ x ∈ splB s, x.size ≤ s.size := by
  have h := spl_bound s.data.toList
  have e : s.data.toList.length = s.size := by rw [Array.length_toList]; rfl
  rw [e] at h
  refine ⟨by rw [splB, List.length_map]; exact h.1, fun x hx => ?_⟩
  obtain ⟨y, hy, rfl⟩ := List.mem_map.1 hx
  have h2 := h.2 y hy
  have e2 : (bytesL y).size = y.length := by show y.toArray.size = _; exact List.size_toArray
  omega
theorem str_nil {s : ByteArray} : s = ⟨#[]⟩ ↔ s.size = 0 := ⟨fun h => by subst h; rfl, fun h => ByteArray.ext (Array.eq_empty_of_size_eq_zero h)⟩

/-- Whether a text is words with one space between them, or empty. -/
def wordsB (s : ByteArray) : Bool := decide (s.size = 0) || (decide (s.size ≤ 80) && (splB s).all wordB)
/-- The words of such a text. -/
def wordsL (s : ByteArray) : List ByteArray := if s.size = 0 then [] else splB s
end Go.Proofs.YtpbkphaceljclaaGreatDoor

/- strings.Join: the contract of the library's shelf at this program. -/
namespace Go.Proofs.YtpbkphaceljclaaGreatDoor
open Go.Shelf Go.RowKit
def sh_lays156_ren : Go.Shelf.Ren := ⟨fun | 156 => 121 | 165 => 134 | 166 => 135 | 169 => 136 | 240 => 148 | 241 => 149 | 276 => 167 | 277 => 168 | n => n, fun | 31 => 53 | 9 => 9 | 3 => 3 | 4 => 4 | 0 => 0 | 20 => 20 | 72 => 197 | 76 => 201 | 70 => 195 | 37 => 162 | 75 => 200 | 127 => 217 | 164 => 236 | 5 => 5 | 80 => 203 | n => n, fun | n => n⟩

theorem sh_lays156 : Go.Proofs.Lays.n156 Tryz.prog sh_lays156_ren := {
  mixed := by kernel_rfl
  f156 := Tryz.func121.trans (congrArg some (by kernel_rfl))
  f165 := Tryz.func134.trans (congrArg some (by kernel_rfl))
  f166 := Tryz.func135.trans (congrArg some (by kernel_rfl))
  f169 := Tryz.func136.trans (congrArg some (by kernel_rfl))
  f240 := Tryz.func148.trans (congrArg some (by kernel_rfl))
  f241 := Tryz.func149.trans (congrArg some (by kernel_rfl))
  f276 := Tryz.func167.trans (congrArg some (by kernel_rfl))
  f277 := Tryz.func168.trans (congrArg some (by kernel_rfl))
  t0 := Tryz.underlying0
  a0 := Tryz.isAgg0
  z0 := Tryz.sizeOf0
  v0 := Tryz.zeroValue0
  t3 := Tryz.underlying3
  a3 := Tryz.isAgg3
  z3 := Tryz.sizeOf3
  v3 := Tryz.zeroValue3
  t4 := Tryz.underlying4
  a4 := Tryz.isAgg4
  z4 := Tryz.sizeOf4
  v4 := Tryz.zeroValue4
  t9 := Tryz.underlying9
  a9 := Tryz.isAgg9
  z9 := Tryz.sizeOf9
  v9 := Tryz.zeroValue9
  t20 := Tryz.underlying20
  a20 := Tryz.isAgg20
  z20 := Tryz.sizeOf20
  v20 := Tryz.zeroValue20
  t31 := Tryz.underlying53
  a31 := Tryz.isAgg53
  z31 := Tryz.sizeOf53
  v31 := Tryz.zeroValue53
  t37 := Tryz.underlying162
  a37 := Tryz.isAgg162
  z37 := Tryz.sizeOf162
  v37 := Tryz.zeroValue162
  t70 := Tryz.underlying195
  a70 := Tryz.isAgg195
  z70 := Tryz.sizeOf195
  v70 := Tryz.zeroValue195
  t72 := Tryz.underlying197
  a72 := Tryz.isAgg197
  z72 := Tryz.sizeOf197
  v72 := Tryz.zeroValue197
  t75 := Tryz.underlying200
  a75 := Tryz.isAgg200
  z75 := Tryz.sizeOf200
  v75 := Tryz.zeroValue200
  t76 := Tryz.underlying201
  a76 := Tryz.isAgg201
  z76 := Tryz.sizeOf201
  v76 := Tryz.zeroValue201
  t127 := Tryz.underlying217
  a127 := Tryz.isAgg217
  z127 := Tryz.sizeOf217
  v127 := Tryz.zeroValue217
  t164 := Tryz.underlying236
  a164 := Tryz.isAgg236
  z164 := Tryz.sizeOf236
  v164 := Tryz.zeroValue236 }

theorem sh_Builder_Extra_156 : Builder.Extra Tryz.prog sh_lays156_ren := {
  sizeBuilder := by kernel_rfl
  liesBuilder := by kernel_rfl
  t5 := Tryz.underlying5
  a5 := Tryz.isAgg5
  z5 := Tryz.sizeOf5
  v5 := Tryz.zeroValue5
  infoByte := by kernel_rfl
  cellsByte := by kernel_rfl
  sizeByte := by kernel_rfl
  neB5 := by decide }

theorem sh_strings_Join_none (a : Option Addr) (c : Nat) (sep : ByteArray) (w : World) :
    Calls Tryz.prog 121 #[.slice a 0 c, .string sep] w fun e w' => e = .returned (.string ⟨#[]⟩) ∧ w' = w := Any.strings_Join_none sh_lays156 sh_Builder_Extra_156 a c sep w

theorem sh_strings_Join (bk o c : Nat) (xs : List ByteArray) (sep : ByteArray) (w : World) (hcells : ∀ (j : Nat) x, xs[j]? = some x → w.cell? ⟨bk, o + j, none⟩ = some (.string x)) (hbk : bk < w.heap.size) (hN : xs.length ≤ 140737488355328) (hcap : xs.length ≤ c) (hlen : (Lib.join (xs.map (·.data.toList)) sep.data.toList).length ≤ 140737488355328) :
    Calls Tryz.prog 121 #[.slice (some ⟨bk, o, none⟩) xs.length c, .string sep] w fun e w' => e = .returned (.string ⟨(Lib.join (xs.map (·.data.toList)) sep.data.toList).toArray⟩) ∧ Below w.heap.size w w' := Any.strings_Join sh_lays156 sh_Builder_Extra_156 bk o c xs sep w hcells hbk hN hcap hlen

/-- Words with a space between them. -/
def joinB (ws : List ByteArray) : ByteArray := ⟨(Lib.join (ws.map (·.data.toList)) [32]).toArray⟩
theorem joinB_size (ws : List ByteArray) {m : Nat} (h : ∀ s ∈ ws, s.size ≤ m) : (joinB ws).size ≤ ws.length * (m + 1) := by
  have hl : ∀ l : List ByteArray, (∀ s ∈ l, s.size ≤ m) → Lib.lens (l.map (·.data.toList)) ≤ l.length * m := fun l => by
    induction l with
    | nil => intro _; simp [Lib.lens]
    | cons x l ih =>
      intro h
      have h1 := ih fun s hs => h s (List.mem_cons_of_mem _ hs)
      have h2 := h x (by simp)
      have e : x.data.toList.length = x.size := by rw [Array.length_toList]; rfl
      simp only [Lib.lens, List.map_cons, List.sum_cons, List.length_cons] at h1 ⊢
      rw [Nat.add_mul, e]
      omega
  cases ws with
  | nil => exact Nat.zero_le _
  | cons x r =>
    have e : (joinB (x :: r)).size = (Lib.join ((x :: r).map (·.data.toList)) [32]).length := by simp [joinB, ByteArray.size]
    have h1 := hl (x :: r) h
    rw [e, List.map_cons, Lib.join_length]
    rw [List.map_cons] at h1
    simp only [List.length_cons, List.length_nil, List.length_map] at h1 ⊢
    rw [Nat.mul_add]
    omega
theorem Join_str (a : Option Addr) (c n : Nat) (ws : List ByteArray) (w : World) (hn : ws.length = n) (hrow : RowV w false 1 (.slice a n c) (ws.map strV)) (hl : (joinB ws).size ≤ 140737488355328) : Ct Tryz.prog 121 [.slice a n c, .string ⟨#[32]⟩] w fun v _ => v = .string (joinB ws) := by
  subst hn
  unfold Ct
  have hlen := hrow.len
  rw [List.length_map] at hlen
  rcases hrow.at_ with ⟨h0, _⟩ | ⟨b, o, c', hv, hc, hA⟩
  · obtain rfl : ws = [] := by simpa using h0
    exact (sh_strings_Join_none a c ⟨#[32]⟩ w).mono fun e w' ⟨h1, h2⟩ => ⟨_, h1, by subst h2; exact Ext.refl _, rfl⟩
  · simp only [Value.slice.injEq] at hv
    obtain ⟨rfl, _, rfl⟩ := hv
    rw [List.length_map] at hc
    cases ws with
    | nil => exact (sh_strings_Join_none _ c ⟨#[32]⟩ w).mono fun e w' ⟨h1, h2⟩ => ⟨_, h1, by subst h2; exact Ext.refl _, rfl⟩
    | cons x r =>
      have hcell : ∀ (j : Nat) y, (x :: r)[j]? = some y → w.cell? ⟨b, o + j, none⟩ = some (.string y) := fun j y hy => by
        have := (hA j (strV y) (by rw [List.getElem?_map, hy]; rfl)).h 0 (strV y) rfl
        simpa using this
      have e : (joinB (x :: r)).size = (Lib.join ((x :: r).map (·.data.toList)) [32]).length := by simp [joinB, ByteArray.size]
      refine (sh_strings_Join b o c (x :: r) ⟨#[32]⟩ w hcell (lt_of_cell (hcell 0 x rfl)) hlen hc ?_).mono fun e w' ⟨h1, h2⟩ => ⟨_, h1, ⟨h2⟩, rfl⟩
      rw [← e]; exact hl
end Go.Proofs.YtpbkphaceljclaaGreatDoor

/- The proof engine, part 25: slices of the call's own, by their block. -/
namespace Go.Proofs.YtpbkphaceljclaaGreatDoor
open Go.RowKit

/-! ### Slices of the call's own, by their block -/
theorem OwnL.cells {w : World} {B e n c g : Nat} {l : List Value} (h : OwnL w B e false 1 (.slice (some ⟨g, 0, none⟩) n c) l) : ∃ cs, Bk w g cs e ∧ cs.length = c ∧ n ≤ c ∧ c ≤ maxLen ∧ l.length = n ∧ cs.take n = l ∧ B ≤ g := by
  have hf : ∀ xs : List Value, (∀ x ∈ xs, fitsV false 1 x = true) → xs.flatMap (·.cells.toList) = xs := by
    intro xs
    induction xs with
    | nil => intro _; rfl
    | cons y xs ih =>
      intro hx
      have hy := hx y List.mem_cons_self
      have hc : y.cells.toList = [y] := by cases y <;> simp [fitsV] at hy <;> rfl
      rw [List.flatMap_cons, hc, ih fun z hz => hx z (List.mem_cons_of_mem _ hz)]; rfl
  have e1 := hf l h.fit
  rcases h.own.2 with ⟨e0, _⟩ | ⟨g', cap, cur, e0, hB, hg, hn, hm, hs, ht⟩
  · simp at e0
  · simp only [Value.slice.injEq, Option.some.injEq, Addr.mk.injEq] at e0
    obtain ⟨⟨rfl, _⟩, rfl, rfl⟩ := e0
    rw [e1, Nat.mul_one] at ht
    exact ⟨cur.toList, ⟨by simpa using hg⟩, by simpa using hs, hn, hm, rfl, ht, hB⟩
theorem OwnL.ofCells {w : World} {B e n c g : Nat} {l cs : List Value} (hB : Bk w g cs e) (hc : cs.length = c) (hn : n ≤ c) (hm : c ≤ maxLen) (ht : cs.take n = l) (hn' : n ≤ 140737488355328) (hg : B ≤ g) (hf : ∀ x ∈ l, fitsV false 1 x = true) : OwnL w B e false 1 (.slice (some ⟨g, 0, none⟩) n c) l := by
  have hl : l.length = n := by rw [← ht, List.length_take]; omega
  have hfl : ∀ xs : List Value, (∀ x ∈ xs, fitsV false 1 x = true) → xs.flatMap (·.cells.toList) = xs := by
    intro xs
    induction xs with
    | nil => intro _; rfl
    | cons y xs ih =>
      intro hx
      have hy := hx y List.mem_cons_self
      have hc : y.cells.toList = [y] := by cases y <;> simp [fitsV] at hy <;> rfl
      rw [List.flatMap_cons, hc, ih fun z hz => hx z (List.mem_cons_of_mem _ hz)]; rfl
  refine ⟨⟨by rw [hfl l hf, hl, Nat.mul_one], .inr ⟨g, c, cs.toArray, by rw [hl], hg, hB.h, by omega, hm, by simp [hc], ?_⟩⟩, hf, by rw [hl]; exact hn'⟩
  rw [hfl l hf, hl, Nat.mul_one]; exact ht
end Go.Proofs.YtpbkphaceljclaaGreatDoor

/- strings.Split: the contract of the library's shelf at this program. -/
namespace Go.Proofs.YtpbkphaceljclaaGreatDoor
open Go.Shelf Go.RowKit
def sh_lays146_ren : Go.Shelf.Ren := ⟨fun | 146 => 110 | 221 => 130 | 268 => 140 | 138 => 141 | 143 => 142 | 195 => 160 | 197 => 161 | 218 => 162 | 219 => 163 | 260 => 174 | 217 => 175 | 225 => 176 | 224 => 177 | 267 => 178 | 266 => 180 | 314 => 181 | n => n, fun | 9 => 9 | 31 => 53 | 3 => 3 | 4 => 4 | 0 => 0 | 105 => 230 | 21 => 21 | 5 => 5 | 46 => 207 | 119 => 249 | 139 => 252 | 138 => 251 | 146 => 253 | 51 => 227 | n => n, fun | 1 => 2 | 3 => 3 | 4 => 4 | n => n⟩

theorem sh_lays146 : Go.Proofs.Lays.n146 Tryz.prog sh_lays146_ren := {
  mixed := by kernel_rfl
  f138 := Tryz.func141.trans (congrArg some (by kernel_rfl))
  f143 := Tryz.func142.trans (congrArg some (by kernel_rfl))
  f146 := Tryz.func110.trans (congrArg some (by kernel_rfl))
  f195 := Tryz.func160.trans (congrArg some (by kernel_rfl))
  f197 := Tryz.func161.trans (congrArg some (by kernel_rfl))
  f217 := Tryz.func175.trans (congrArg some (by kernel_rfl))
  f218 := Tryz.func162.trans (congrArg some (by kernel_rfl))
  f219 := Tryz.func163.trans (congrArg some (by kernel_rfl))
  f221 := Tryz.func130.trans (congrArg some (by kernel_rfl))
  f224 := Tryz.func177.trans (congrArg some (by kernel_rfl))
  f225 := Tryz.func176.trans (congrArg some (by kernel_rfl))
  f260 := Tryz.func174.trans (congrArg some (by kernel_rfl))
  f266 := Tryz.func180.trans (congrArg some (by kernel_rfl))
  f267 := Tryz.func178.trans (congrArg some (by kernel_rfl))
  f268 := Tryz.func140.trans (congrArg some (by kernel_rfl))
  f314 := Tryz.func181.trans (congrArg some (by kernel_rfl))
  t0 := Tryz.underlying0
  a0 := Tryz.isAgg0
  z0 := Tryz.sizeOf0
  v0 := Tryz.zeroValue0
  t3 := Tryz.underlying3
  a3 := Tryz.isAgg3
  z3 := Tryz.sizeOf3
  v3 := Tryz.zeroValue3
  t4 := Tryz.underlying4
  a4 := Tryz.isAgg4
  z4 := Tryz.sizeOf4
  v4 := Tryz.zeroValue4
  t5 := Tryz.underlying5
  a5 := Tryz.isAgg5
  z5 := Tryz.sizeOf5
  v5 := Tryz.zeroValue5
  t9 := Tryz.underlying9
  a9 := Tryz.isAgg9
  z9 := Tryz.sizeOf9
  v9 := Tryz.zeroValue9
  t21 := Tryz.underlying21
  a21 := Tryz.isAgg21
  z21 := Tryz.sizeOf21
  v21 := Tryz.zeroValue21
  t31 := Tryz.underlying53
  a31 := Tryz.isAgg53
  z31 := Tryz.sizeOf53
  v31 := Tryz.zeroValue53
  t46 := Tryz.underlying207
  a46 := Tryz.isAgg207
  z46 := Tryz.sizeOf207
  v46 := Tryz.zeroValue207
  t51 := Tryz.underlying227
  a51 := Tryz.isAgg227
  z51 := Tryz.sizeOf227
  v51 := Tryz.zeroValue227
  t105 := Tryz.underlying230
  a105 := Tryz.isAgg230
  z105 := Tryz.sizeOf230
  v105 := Tryz.zeroValue230
  t119 := Tryz.underlying249
  a119 := Tryz.isAgg249
  z119 := Tryz.sizeOf249
  t138 := Tryz.underlying251
  a138 := Tryz.isAgg251
  z138 := Tryz.sizeOf251
  v138 := Tryz.zeroValue251
  t139 := Tryz.underlying252
  a139 := Tryz.isAgg252
  z139 := Tryz.sizeOf252
  v139 := Tryz.zeroValue252
  t146 := Tryz.underlying253
  a146 := Tryz.isAgg253
  z146 := Tryz.sizeOf253
  v146 := Tryz.zeroValue253
  g1 := by kernel_rfl
  g3 := by kernel_rfl
  g4 := by kernel_rfl }

theorem sh_strings_Split (s sep : ByteArray) (m : Int) (w : World) (hs : s.size < 4294967281) (hm : w.cell? ⟨2, 0, none⟩ = some (.int .i64 m)) (h1 : 1 ≤ sep.size) :
    Calls Tryz.prog 110 #[.string s, .string sep] w fun e w' =>
      e = .returned (.slice (some ⟨w.heap.size, 0, none⟩) (Lib.countB s sep + 1) (Lib.countB s sep + 1)) ∧ w' = w.alloc (.cells ((Lib.splitB sep 0 (Lib.countB s sep) s).map Value.string).toArray 9) := Any.strings_Split sh_lays146 (by kernel_rfl) s sep m w hs hm h1

/-- The library's own length of what it finds at once. -/
class MxI (w : World) : Prop where
  h : ∃ m, At w 2 0 [.int .i64 m]
theorem MxI.ext {w w' : World} (h : MxI w) (e : Ext w w') : MxI w' := by
  obtain ⟨m, hm⟩ := h.h
  exact ⟨m, hm.ext e⟩
instance MxI.step {w w' : World} [hs : Step w w'] [h : MxI w] : MxI w' := h.ext ⟨hs.b⟩
theorem Split_str (s : ByteArray) (w : World) (hs : s.size ≤ 1000000) [hx : MxI w] : Ct Tryz.prog 110 [.string s, .string ⟨#[32]⟩] w fun v w' => ∃ sv, v = sv ∧ OwnL w' w.heap.size 9 false 1 sv ((splB s).map strV) := by
  unfold Ct
  obtain ⟨m, hm⟩ := hx.h
  have hc : w.cell? ⟨2, 0, none⟩ = some (.int .i64 m) := by
    have := hm.h 0 _ rfl
    simpa using this
  refine (sh_strings_Split s ⟨#[32]⟩ m w (by omega) hc (by decide)).mono fun e w' hp => ?_
  obtain ⟨h1, h2⟩ := hp
  rw [← splB_len] at h1
  rw [splitB_spl] at h2
  have hx : Ext w w' := by rw [h2]; exact ⟨(Below.refl _ w).alloc (Nat.le_refl _) _⟩
  refine ⟨_, h1, hx, _, rfl, ?_⟩
  have hb : Bk w' w.heap.size ((splB s).map strV) 9 := Bk.of (by rw [h2]; exact World.alloc_heap_new w _)
  have hbd := (splB_bound s).1
  exact OwnL.ofCells hb (List.length_map _) (Nat.le_refl _) (by unfold maxLen; omega) (by rw [List.take_of_length_le]; rw [List.length_map]; exact Nat.le_refl _) (by omega) (Nat.le_refl _) fun x hx => by obtain ⟨y, _, rfl⟩ := List.mem_map.1 hx; rfl
end Go.Proofs.YtpbkphaceljclaaGreatDoor

/- The reference: line, Place. -/
namespace Go.Proofs.YtpbkphaceljclaaGreatDoor
open Go.RowKit

/-- The line of a place, if there is one. -/
def lineC (cs : List Ch) (p : Pl) : Option Ln := if 0 ≤ p.1 ∧ 0 ≤ p.2.1 then (cs[p.1.toNat]?).bind fun x => x.2.2.2[p.2.1.toNat]? else none
abbrev linV : Option Ln → Value
  | some y => .tuple #[encLn y, .bool true]
  | none => .tuple #[.slice none 0 0, .bool false]
theorem lineC_no1 {cs : List Ch} {p : Pl} (h : inB 0 ((cs.length : Int) - 1) p.1 = false) : lineC cs p = none := by
  unfold lineC
  simp [inB] at h
  by_cases h0 : 0 ≤ p.1
  · rw [List.getElem?_eq_none (by omega)]; simp
  · rw [if_neg (by omega)]
theorem lineC_no2 {cs : List Ch} {k : Nat} {n m : Int} (hk : k < cs.length) (h : inB 0 ((cs[k].2.2.2.length : Int) - 1) n = false) : lineC cs ((k : Int), n, m) = none := by
  unfold lineC
  simp [inB] at h
  by_cases h0 : 0 ≤ n
  · simp only [Int.toNat_natCast, List.getElem?_eq_getElem hk, Option.bind_some]
    rw [List.getElem?_eq_none (by omega)]; simp
  · rw [if_neg (by simp; omega)]
theorem lineC_yes {cs : List Ch} {k n : Nat} {m : Int} (hk : k < cs.length) (hn : n < cs[k].2.2.2.length) : lineC cs ((k : Int), (n : Int), m) = some cs[k].2.2.2[n] := by
  unfold lineC
  rw [if_pos (by simp)]
  simp [List.getElem?_eq_getElem hk, List.getElem?_eq_getElem hn]

section
variable (a : Option Addr) (c : Nat) (cs : List Ch) (w : World) [hrow : RowI w (.slice a cs.length c) true 2 (cs.map encCh)] [hT : TextI w cs]
set_option maxHeartbeats 2000000 in
theorem line_ref1 (p : Pl) (hs : SmallT cs) : Ct Tryz.prog 85 [.agg #[.slice a cs.length c], encPl p] w fun v _ => v = linV (lineC cs p) := by
  have hs1 := hs.1
  obtain ⟨p1, p2, p3⟩ := p
  obtain ⟨B1, h1⟩ : ∃ B, inB 0 ((cs.length : Int) - 1) p1 = B := ⟨_, rfl⟩
  cases B1
  · rw [lineC_no1 h1]
    refine Ct.ofW (by simp) ?_
    (refine jjB ?_; refine jjC ?_)
    (refine jy rfl ?_; intro b1 w_b1 hb_b1 hs_b1 hS_b1 hk_b1; have hA_b1 := At.ofBlock hk_b1)
    skip
    (refine jy rfl ?_; intro b2 w_b2 hb_b2 hs_b2 hS_b2 hk_b2; have hA_b2 := At.ofBlock hk_b2)
    (apply jJ; exact eS rfl; apply jJ; exact eB rfl; refine jz ?_; refine jjB ?_; refine jjB ?_)
    refine W.draw (fun w' => Ext w_b2 w') ?_
    intro w1 hS1
    (refine jjV [0, 1, 2, 3, 4, 5] ?_ ?_ ?_; (decide +kernel); (exact hS1.ext); (((apply jjT; exact rfl; rintro w' hq; have := hq.toStep; refine jm ?_; refine jn rfl ?_; refine jz ?_; exact ⟨rfl, rfl⟩; apply jjT; exact rfl; rintro w' hq; have := hq.toStep; refine jN rfl rfl rfl ?_; refine jz ?_; exact ⟨rfl, rfl⟩; apply jjT; exact rfl; rintro w' hq; have := hq.toStep; refine jm ?_; refine jn rfl ?_; refine jz ?_; exact ⟨rfl, rfl⟩; apply jjT; exact rfl; rintro w' hq; have := hq.toStep; refine jN rfl rfl rfl ?_; refine jz ?_; exact ⟨rfl, rfl⟩; apply jjT; exact rfl; rintro w' hq; have := hq.toStep; refine jh rfl ?_; refine jz ?_; exact ⟨rfl, rfl⟩; apply jjT; exact rfl; rintro w' hq; have := hq.toStep; refine jZ rfl rfl (by omega) ?_; refine jz ?_; exact ⟨rfl, rfl⟩; refine jjU ?_))))
    (apply jjW 6; (decide +kernel); exact rfl; (exact hS1.ext))
    refine jjQ ((within_postilref01 p1 0 ((cs.length : Int) - 1) _).mono fun v _ _ e => e.trans (by rw [h1])) rfl rfl ?_
    rintro _ w2 hS2 rfl
    refine jz ?_
    (refine jjV [7, 8, 9, 10, 11, 12, 13, 14, 15, 16, 17, 18, 19] ?_ ?_ ?_; (decide +kernel); (exact hS1.ext.trans hS2.ext); (((apply jjT; exact rfl; rintro w' hq; have := hq.toStep; refine jq rfl ?_; refine jz ?_; exact ⟨rfl, rfl⟩; apply jjT; exact rfl; rintro w' hq; have := hq.toStep; apply jI; exact eB rfl; refine jz ?_; exact ⟨rfl, rfl⟩; apply jjT; exact rfl; rintro w' hq; have := hq.toStep; refine jU rfl rfl rfl rfl ?_; refine jz ?_; exact ⟨rfl, rfl⟩; apply jjT; exact rfl; rintro w' hq; have := hq.toStep; refine jU rfl rfl rfl rfl ?_; refine jz ?_; exact ⟨rfl, rfl⟩; apply jjT; exact rfl; rintro w' hq; have := hq.toStep; refine jU rfl rfl rfl rfl ?_; refine jz ?_; exact ⟨rfl, rfl⟩; apply jjT; exact rfl; rintro w' hq; have := hq.toStep; refine jU rfl rfl rfl rfl ?_; refine jz ?_; exact ⟨rfl, rfl⟩; apply jjT; exact rfl; rintro w' hq; have := hq.toStep; refine jU rfl rfl rfl rfl ?_; refine jz ?_; exact ⟨rfl, rfl⟩; apply jjT; exact rfl; rintro w' hq; have := hq.toStep; refine jU rfl rfl rfl rfl ?_; refine jz ?_; exact ⟨rfl, rfl⟩; apply jjT; exact rfl; rintro w' hq; have := hq.toStep; refine jU rfl rfl rfl rfl ?_; refine jz ?_; exact ⟨rfl, rfl⟩; apply jjT; exact rfl; rintro w' hq; have := hq.toStep; refine jU rfl rfl rfl rfl ?_; refine jz ?_; exact ⟨rfl, rfl⟩; apply jjT; exact rfl; rintro w' hq; have := hq.toStep; refine jU rfl rfl rfl rfl ?_; refine jz ?_; exact ⟨rfl, rfl⟩; apply jjT; exact rfl; rintro w' hq; have := hq.toStep; refine jU rfl rfl rfl rfl ?_; refine jz ?_; exact ⟨rfl, rfl⟩; apply jjT; exact rfl; rintro w' hq; have := hq.toStep; refine jU rfl rfl rfl rfl ?_; refine jz ?_; exact ⟨rfl, rfl⟩; refine jjU ?_))))
    (refine jjV [20, 21, 22] ?_ ?_ ?_; (decide +kernel); (exact hS1.ext.trans hS2.ext); (((apply jjT; exact rfl; rintro w' hq; have := hq.toStep; refine jU rfl rfl rfl rfl ?_; refine jz ?_; exact ⟨rfl, rfl⟩; apply jjT; exact rfl; rintro w' hq; have := hq.toStep; refine jU rfl rfl rfl rfl ?_; refine jz ?_; exact ⟨rfl, rfl⟩; apply jjT; exact rfl; rintro w' hq; have := hq.toStep; apply jK rfl; exact eB rfl; refine jz ?_; exact ⟨rfl, rfl⟩; refine jjU ?_))))
    refine jjX (by decide +kernel) (hS1.ext.trans hS2.ext) ?_
    have := (hS1.ext.trans hS2.ext).toStep
    (refine jjJ rfl ?_; refine jjB ?_; refine jjC ?_; apply jJ; exact eS rfl; apply jJ; exact eB rfl; refine jz ?_; refine jjF ?_; refine jC rfl rfl rfl ⟨inferInstance, ?_⟩)
    exact rfl
  obtain ⟨k, hk, rfl⟩ : ∃ k : Nat, k < cs.length ∧ p1 = k := ⟨p1.toNat, by simp [inB] at h1; omega, by simp [inB] at h1; omega⟩
  obtain ⟨bb, o, rfl, hA⟩ := hrow.h.place' (map_get hk)
  have hA1 : At w bb (o + k * 2) [.int .i64 cs[k].1, .slice cs[k].2.1 cs[k].2.2.2.length cs[k].2.2.1] := hA
  clear hA
  have hs2 := (hs.2 _ (List.getElem_mem hk)).1
  have i1 := hT.line hk
  obtain ⟨B2, h2⟩ : ∃ B, inB 0 ((cs[k].2.2.2.length : Int) - 1) p2 = B := ⟨_, rfl⟩
  cases B2
  · rw [lineC_no2 hk h2]
    refine Ct.ofW (by simp) ?_
    (refine jjB ?_; refine jjC ?_)
    (refine jy rfl ?_; intro b1 w_b1 hb_b1 hs_b1 hS_b1 hk_b1; have hA_b1 := At.ofBlock hk_b1)
    skip
    (refine jy rfl ?_; intro b2 w_b2 hb_b2 hs_b2 hS_b2 hk_b2; have hA_b2 := At.ofBlock hk_b2)
    (apply jJ; exact eS rfl; apply jJ; exact eB rfl; refine jz ?_; refine jjB ?_; refine jjB ?_)
    refine W.draw (fun w' => Ext w_b2 w') ?_
    intro w1 hS1
    (refine jjV [0, 1, 2, 3, 4, 5] ?_ ?_ ?_; (decide +kernel); (exact hS1.ext); (((apply jjT; exact rfl; rintro w' hq; have := hq.toStep; refine jm ?_; refine jn rfl ?_; refine jz ?_; exact ⟨rfl, rfl⟩; apply jjT; exact rfl; rintro w' hq; have := hq.toStep; refine jN rfl rfl rfl ?_; refine jz ?_; exact ⟨rfl, rfl⟩; apply jjT; exact rfl; rintro w' hq; have := hq.toStep; refine jm ?_; refine jn rfl ?_; refine jz ?_; exact ⟨rfl, rfl⟩; apply jjT; exact rfl; rintro w' hq; have := hq.toStep; refine jN rfl rfl rfl ?_; refine jz ?_; exact ⟨rfl, rfl⟩; apply jjT; exact rfl; rintro w' hq; have := hq.toStep; refine jh rfl ?_; refine jz ?_; exact ⟨rfl, rfl⟩; apply jjT; exact rfl; rintro w' hq; have := hq.toStep; refine jZ rfl rfl (by omega) ?_; refine jz ?_; exact ⟨rfl, rfl⟩; refine jjU ?_))))
    (apply jjW 6; (decide +kernel); exact rfl; (exact hS1.ext))
    refine jjQ ((within_postilref01 k 0 ((cs.length : Int) - 1) _).mono fun v _ _ e => e.trans (by rw [h1])) rfl rfl ?_
    rintro _ w2 hS2 rfl
    refine jz ?_
    have hE2 := hS1.ext.trans hS2.ext
    (refine jjV [7, 8, 9, 10, 11, 12, 13, 14, 15, 16, 17, 18, 19] ?_ ?_ ?_; (decide +kernel); (exact hE2); (((apply jjT; exact rfl; rintro w' hq; have := hq.toStep; refine jp rfl ?_; refine jz ?_; exact ⟨rfl, rfl⟩; apply jjT; exact rfl; rintro w' hq; have := hq.toStep; apply jI; exact eB rfl; refine jz ?_; exact ⟨rfl, rfl⟩; apply jjT; exact rfl; rintro w' hq; have := hq.toStep; refine jT rfl rfl rfl ?_; refine jm ?_; refine jn rfl ?_; refine jz ?_; exact ⟨rfl, rfl⟩; apply jjT; exact rfl; rintro w' hq; have := hq.toStep; refine jT rfl rfl rfl ?_; refine jN rfl rfl rfl ?_; refine jz ?_; exact ⟨rfl, rfl⟩; apply jjT; exact rfl; rintro w' hq; have := hq.toStep; refine jT rfl rfl rfl ?_; refine jm ?_; refine jn rfl ?_; refine jz ?_; exact ⟨rfl, rfl⟩; apply jjT; exact rfl; rintro w' hq; have := hq.toStep; refine jT rfl rfl rfl ?_; refine jN rfl rfl rfl ?_; refine jz ?_; exact ⟨rfl, rfl⟩; apply jjT; exact rfl; rintro w' hq; have := hq.toStep; refine jT rfl rfl rfl ?_; refine jm ?_; refine jn rfl ?_; refine jz ?_; exact ⟨rfl, rfl⟩; apply jjT; exact rfl; rintro w' hq; have := hq.toStep; refine jT rfl rfl rfl ?_; refine jN rfl rfl rfl ?_; refine jz ?_; exact ⟨rfl, rfl⟩; apply jjT; exact rfl; rintro w' hq; have := hq.toStep; refine jT rfl rfl rfl ?_; refine jH _ rfl rfl rfl (by omega) ?_; refine jz ?_; exact ⟨rfl, rfl⟩; apply jjT; exact rfl; rintro w' hq; have := hq.toStep; refine jT rfl rfl rfl ?_; refine jm ?_; refine jn rfl ?_; refine jz ?_; exact ⟨rfl, rfl⟩; apply jjT; exact rfl; rintro w' hq; have := hq.toStep; refine jT rfl rfl rfl ?_; refine jP rfl rfl rfl ?_; refine jz ?_; exact ⟨rfl, rfl⟩; apply jjT; exact rfl; rintro w' hq; have := hq.toStep; refine jT rfl rfl rfl ?_; refine jh rfl ?_; refine jz ?_; exact ⟨rfl, rfl⟩; apply jjT; exact rfl; rintro w' hq; have := hq.toStep; refine jT rfl rfl rfl ?_; refine jZ rfl rfl (by omega) ?_; refine jz ?_; exact ⟨rfl, rfl⟩; refine jjU ?_))))
    (apply jjW 20; (decide +kernel); exact rfl; (exact hE2))
    (refine jT rfl rfl rfl ?_)
    refine jjQ ((within_postilref01 p2 0 ((cs[k].2.2.2.length : Int) - 1) _).mono fun v _ _ e => e.trans (by rw [h2])) rfl rfl ?_
    rintro _ w3 hS3 rfl
    refine jz ?_
    (refine jjV [21, 22] ?_ ?_ ?_; (decide +kernel); (exact hE2.trans hS3.ext); (((apply jjT; exact rfl; rintro w' hq; have := hq.toStep; refine jT rfl rfl rfl ?_; refine jq rfl ?_; refine jz ?_; exact ⟨rfl, rfl⟩; apply jjT; exact rfl; rintro w' hq; have := hq.toStep; apply jL rfl; exact eB rfl; refine jz ?_; exact ⟨rfl, rfl⟩; refine jjU ?_))))
    refine jjX (by decide +kernel) (hE2.trans hS3.ext) ?_
    have := (hE2.trans hS3.ext).toStep
    (refine jjJ rfl ?_; refine jjB ?_; refine jjC ?_; apply jJ; exact eS rfl; apply jJ; exact eB rfl; refine jz ?_; refine jjF ?_; refine jC rfl rfl rfl ⟨inferInstance, ?_⟩)
    exact rfl
  obtain ⟨n, hn, rfl⟩ : ∃ n : Nat, n < cs[k].2.2.2.length ∧ p2 = n := ⟨p2.toNat, by simp [inB] at h2; omega, by simp [inB] at h2; omega⟩
  obtain ⟨b3, o3, e3, hA3⟩ := i1.h.place' (map_get hn)
  rw [e3] at hA1
  rw [Nat.mul_one] at hA3
  rw [lineC_yes hk hn]
  refine Ct.ofW (by simp) ?_
  (refine jjB ?_; refine jjC ?_)
  (refine jy rfl ?_; intro b1 w_b1 hb_b1 hs_b1 hS_b1 hk_b1; have hA_b1 := At.ofBlock hk_b1)
  skip
  (refine jy rfl ?_; intro b2 w_b2 hb_b2 hs_b2 hS_b2 hk_b2; have hA_b2 := At.ofBlock hk_b2)
  (apply jJ; exact eS rfl; apply jJ; exact eB rfl; refine jz ?_; refine jjB ?_; refine jjB ?_)
  refine W.draw (fun w' => Ext w_b2 w') ?_
  intro w1 hS1
  (refine jjV [0, 1, 2, 3, 4, 5] ?_ ?_ ?_; (decide +kernel); (exact hS1.ext); (((apply jjT; exact rfl; rintro w' hq; have := hq.toStep; refine jm ?_; refine jn rfl ?_; refine jz ?_; exact ⟨rfl, rfl⟩; apply jjT; exact rfl; rintro w' hq; have := hq.toStep; refine jN rfl rfl rfl ?_; refine jz ?_; exact ⟨rfl, rfl⟩; apply jjT; exact rfl; rintro w' hq; have := hq.toStep; refine jm ?_; refine jn rfl ?_; refine jz ?_; exact ⟨rfl, rfl⟩; apply jjT; exact rfl; rintro w' hq; have := hq.toStep; refine jN rfl rfl rfl ?_; refine jz ?_; exact ⟨rfl, rfl⟩; apply jjT; exact rfl; rintro w' hq; have := hq.toStep; refine jh rfl ?_; refine jz ?_; exact ⟨rfl, rfl⟩; apply jjT; exact rfl; rintro w' hq; have := hq.toStep; refine jZ rfl rfl (by omega) ?_; refine jz ?_; exact ⟨rfl, rfl⟩; refine jjU ?_))))
  (apply jjW 6; (decide +kernel); exact rfl; (exact hS1.ext))
  refine jjQ ((within_postilref01 k 0 ((cs.length : Int) - 1) _).mono fun v _ _ e => e.trans (by rw [h1])) rfl rfl ?_
  rintro _ w2 hS2 rfl
  refine jz ?_
  have hE2 := hS1.ext.trans hS2.ext
  (refine jjV [7, 8, 9, 10, 11, 12, 13, 14, 15, 16, 17, 18, 19] ?_ ?_ ?_; (decide +kernel); (exact hE2); (((apply jjT; exact rfl; rintro w' hq; have := hq.toStep; refine jp rfl ?_; refine jz ?_; exact ⟨rfl, rfl⟩; apply jjT; exact rfl; rintro w' hq; have := hq.toStep; apply jI; exact eB rfl; refine jz ?_; exact ⟨rfl, rfl⟩; apply jjT; exact rfl; rintro w' hq; have := hq.toStep; refine jT rfl rfl rfl ?_; refine jm ?_; refine jn rfl ?_; refine jz ?_; exact ⟨rfl, rfl⟩; apply jjT; exact rfl; rintro w' hq; have := hq.toStep; refine jT rfl rfl rfl ?_; refine jN rfl rfl rfl ?_; refine jz ?_; exact ⟨rfl, rfl⟩; apply jjT; exact rfl; rintro w' hq; have := hq.toStep; refine jT rfl rfl rfl ?_; refine jm ?_; refine jn rfl ?_; refine jz ?_; exact ⟨rfl, rfl⟩; apply jjT; exact rfl; rintro w' hq; have := hq.toStep; refine jT rfl rfl rfl ?_; refine jN rfl rfl rfl ?_; refine jz ?_; exact ⟨rfl, rfl⟩; apply jjT; exact rfl; rintro w' hq; have := hq.toStep; refine jT rfl rfl rfl ?_; refine jm ?_; refine jn rfl ?_; refine jz ?_; exact ⟨rfl, rfl⟩; apply jjT; exact rfl; rintro w' hq; have := hq.toStep; refine jT rfl rfl rfl ?_; refine jN rfl rfl rfl ?_; refine jz ?_; exact ⟨rfl, rfl⟩; apply jjT; exact rfl; rintro w' hq; have := hq.toStep; refine jT rfl rfl rfl ?_; refine jH _ rfl rfl rfl (by omega) ?_; refine jz ?_; exact ⟨rfl, rfl⟩; apply jjT; exact rfl; rintro w' hq; have := hq.toStep; refine jT rfl rfl rfl ?_; refine jm ?_; refine jn rfl ?_; refine jz ?_; exact ⟨rfl, rfl⟩; apply jjT; exact rfl; rintro w' hq; have := hq.toStep; refine jT rfl rfl rfl ?_; refine jP rfl rfl rfl ?_; refine jz ?_; exact ⟨rfl, rfl⟩; apply jjT; exact rfl; rintro w' hq; have := hq.toStep; refine jT rfl rfl rfl ?_; refine jh rfl ?_; refine jz ?_; exact ⟨rfl, rfl⟩; apply jjT; exact rfl; rintro w' hq; have := hq.toStep; refine jT rfl rfl rfl ?_; refine jZ rfl rfl (by omega) ?_; refine jz ?_; exact ⟨rfl, rfl⟩; refine jjU ?_))))
  (apply jjW 20; (decide +kernel); exact rfl; (exact hE2))
  (refine jT rfl rfl rfl ?_)
  refine jjQ ((within_postilref01 n 0 ((cs[k].2.2.2.length : Int) - 1) _).mono fun v _ _ e => e.trans (by rw [h2])) rfl rfl ?_
  rintro _ w3 hS3 rfl
  refine jz ?_
  (refine jjV [21, 22] ?_ ?_ ?_; (decide +kernel); (exact hE2.trans hS3.ext); (((apply jjT; exact rfl; rintro w' hq; have := hq.toStep; refine jT rfl rfl rfl ?_; refine jp rfl ?_; refine jz ?_; exact ⟨rfl, rfl⟩; apply jjT; exact rfl; rintro w' hq; have := hq.toStep; apply jL rfl; exact eB rfl; refine jz ?_; exact ⟨rfl, rfl⟩; refine jjU ?_))))
  refine jjX (by decide +kernel) (hE2.trans hS3.ext) ?_
  have hE3 := hE2.trans hS3.ext
  have := hE3.toStep
  (refine jjK rfl ?_; refine jjG ?_; refine jjB ?_)
  refine W.draw (fun w' => Ext w_b2 w') ?_
  intro w4 hS4
  (refine jjV [0, 1, 2, 3, 4, 5, 6, 7, 8, 9, 10, 11, 12] ?_ ?_ ?_; (decide +kernel); (exact hE3.trans hS4.ext); (((apply jjT; exact rfl; rintro w' hq; have := hq.toStep; refine jm ?_; refine jn rfl ?_; refine jz ?_; exact ⟨rfl, rfl⟩; apply jjT; exact rfl; rintro w' hq; have := hq.toStep; refine jN rfl rfl rfl ?_; refine jz ?_; exact ⟨rfl, rfl⟩; apply jjT; exact rfl; rintro w' hq; have := hq.toStep; refine jm ?_; refine jn rfl ?_; refine jz ?_; exact ⟨rfl, rfl⟩; apply jjT; exact rfl; rintro w' hq; have := hq.toStep; refine jN rfl rfl rfl ?_; refine jz ?_; exact ⟨rfl, rfl⟩; apply jjT; exact rfl; rintro w' hq; have := hq.toStep; refine jH _ rfl rfl rfl (by omega) ?_; refine jz ?_; exact ⟨rfl, rfl⟩; apply jjT; exact rfl; rintro w' hq; have := hq.toStep; refine jm ?_; refine jn rfl ?_; refine jz ?_; exact ⟨rfl, rfl⟩; apply jjT; exact rfl; rintro w' hq; have := hq.toStep; refine jP rfl rfl rfl ?_; refine jz ?_; exact ⟨rfl, rfl⟩; apply jjT; exact rfl; rintro w' hq; have := hq.toStep; refine jm ?_; refine jn rfl ?_; refine jz ?_; exact ⟨rfl, rfl⟩; apply jjT; exact rfl; rintro w' hq; have := hq.toStep; refine jN rfl rfl rfl ?_; refine jz ?_; exact ⟨rfl, rfl⟩; apply jjT; exact rfl; rintro w' hq; have := hq.toStep; refine jG rfl rfl rfl (by omega) ?_; refine jz ?_; exact ⟨rfl, rfl⟩; apply jjT; exact rfl; rintro w' hq; have := hq.toStep; refine jQ rfl rfl ?_; refine jz ?_; exact ⟨rfl, rfl⟩; apply jjT; exact rfl; rintro w' hq; have := hq.toStep; apply jJ; exact eS rfl; refine jz ?_; exact ⟨rfl, rfl⟩; apply jjT; exact rfl; rintro w' hq; have := hq.toStep; apply jJ; exact eB rfl; refine jz ?_; exact ⟨rfl, rfl⟩; refine jjU ?_))))
  refine jjX (by decide +kernel) (hE3.trans hS4.ext) ?_
  have := (hE3.trans hS4.ext).toStep
  (refine jjF ?_; refine jC rfl rfl rfl ⟨inferInstance, ?_⟩)
  exact rfl

/-- Whether a place is one of a text. -/
def placeC (cs : List Ch) (p : Pl) : Bool := match lineC cs p with
  | some y => inB 0 ((y.2.2.length : Int) - 1) p.2.2
  | none => false
theorem Place_ref1 (p : Pl) (hs : SmallT cs) : Ct Tryz.prog 49 [.agg #[.slice a cs.length c], encPl p] w fun v _ => v = .bool (placeC cs p) := by
  obtain ⟨o, ho⟩ : ∃ o, lineC cs p = o := ⟨_, rfl⟩
  cases o with
  | none =>
    rw [show placeC cs p = false by rw [placeC, ho]]
    refine Ct.ofW (by simp) ?_
    (refine jjB ?_; refine jjC ?_)
    (refine jy rfl ?_; intro b1 w_b1 hb_b1 hs_b1 hS_b1 hk_b1; have hA_b1 := At.ofBlock hk_b1)
    skip
    (refine jy rfl ?_; intro b2 w_b2 hb_b2 hs_b2 hS_b2 hk_b2; have hA_b2 := At.ofBlock hk_b2)
    (apply jJ; exact eB rfl; refine jz ?_; refine jjB ?_; refine jjC ?_; refine jO rfl rfl rfl rfl ?_; refine jO rfl rfl rfl rfl ?_)
    refine jjQ ((line_ref1 a c cs _ p hs).mono fun v _ _ e => e.trans (by rw [ho])) rfl rfl ?_
    rintro _ w2 hS2 rfl
    (apply jI; exact eU rfl; refine ju rfl rfl ?_; refine ju rfl rfl ?_; apply jJ; exact eS rfl; apply jJ; exact eB rfl; refine jz ?_; refine jjB ?_; refine jjC ?_; apply jI; exact eB rfl; apply jI; exact eB rfl; refine jU rfl rfl rfl rfl ?_; refine jU rfl rfl rfl rfl ?_; refine jU rfl rfl rfl rfl ?_; refine jU rfl rfl rfl rfl ?_; refine jU rfl rfl rfl rfl ?_; refine jU rfl rfl rfl rfl ?_; apply jL rfl; exact eB rfl; apply jJ; exact eB rfl; refine jz ?_; refine jjF ?_; refine jB rfl rfl ⟨inferInstance, ?_⟩)
    exact rfl
  | some y =>
    have hy : y.2.2.length ≤ 1000 := by
      unfold lineC at ho
      split at ho
      · obtain ⟨x, hx, hxy⟩ := Option.bind_eq_some_iff.1 ho
        exact ((hs.2 x (List.mem_of_getElem? hx)).2 y (List.mem_of_getElem? hxy)).1
      · cases ho
    rw [show placeC cs p = inB 0 ((y.2.2.length : Int) - 1) p.2.2 by rw [placeC, ho]]
    refine Ct.ofW (by simp) ?_
    (refine jjB ?_; refine jjC ?_)
    (refine jy rfl ?_; intro b1 w_b1 hb_b1 hs_b1 hS_b1 hk_b1; have hA_b1 := At.ofBlock hk_b1)
    skip
    (refine jy rfl ?_; intro b2 w_b2 hb_b2 hs_b2 hS_b2 hk_b2; have hA_b2 := At.ofBlock hk_b2)
    (apply jJ; exact eB rfl; refine jz ?_; refine jjB ?_; refine jjC ?_; refine jO rfl rfl rfl rfl ?_; refine jO rfl rfl rfl rfl ?_)
    refine jjQ ((line_ref1 a c cs _ p hs).mono fun v _ _ e => e.trans (by rw [ho])) rfl rfl ?_
    rintro _ w2 hS2 rfl
    (apply jI; exact eU rfl; refine ju rfl rfl ?_; refine ju rfl rfl ?_; apply jJ; exact eS rfl; apply jJ; exact eB rfl; refine jz ?_; refine jjB ?_; refine jjC ?_; apply jI; exact eB rfl; apply jI; exact eB rfl; refine jT rfl rfl rfl ?_; refine jm ?_; refine jn rfl ?_; refine jT rfl rfl rfl ?_; refine jN rfl rfl rfl ?_; refine jT rfl rfl rfl ?_; apply jI; exact eS rfl; refine jT rfl rfl rfl ?_; refine jh rfl ?_; refine jT rfl rfl rfl ?_; refine jZ rfl rfl (by omega) ?_; refine jT rfl rfl rfl ?_)
    refine jjQ (within_postilref01 _ 0 ((y.2.2.length : Int) - 1) _) rfl rfl ?_
    rintro _ w3 hS3 rfl
    (apply jK rfl; exact eB rfl; apply jJ; exact eB rfl; refine jz ?_; refine jjF ?_; refine jB rfl rfl ⟨inferInstance, ?_⟩)
    exact rfl
end
end Go.Proofs.YtpbkphaceljclaaGreatDoor

/- Plain law: readings, copies, what a copy has in a line, where words stand in it. -/
namespace Go.Proofs.YtpbkphaceljclaaGreatDoor
open Go.RowKit

abbrev Rd := Pl × Int × ByteArray
abbrev encRd (r : Rd) : Value := .agg #[.int .i64 r.1.1, .int .i64 r.1.2.1, .int .i64 r.1.2.2, .int .u8 r.2.1, .string r.2.2]
/-- The line of a place. -/
def lineT (t : Tx) (p : Pl) : Option (List ByteArray) := if 0 ≤ p.1 ∧ 0 ≤ p.2.1 then (t[p.1.toNat]?).bind fun x => x.2[p.2.1.toNat]? else none
/-- Whether a word and a kind of readings fit a line, at a place in it. -/
def fitR (l : List ByteArray) (q kind : Int) (s : ByteArray) : Bool :=
  if kind = 1 then inB 0 ((l.length : Int) - 1) q && decide (s.size = 0)
  else if kind = 2 then inB 0 (l.length : Int) q && wordB s
  else if kind = 3 then inB 0 ((l.length : Int) - 1) q && (wordB s && decide (s ≠ l.getD q.toNat ⟨#[]⟩))
  else false
def readB (t : Tx) (r : Rd) : Bool := match lineT t r.1 with
  | none => false
  | some l => fitR l r.1.2.2 r.2.1 r.2.2
/-- Whether a reading may stand next behind another one. -/
def nextB (a r : Rd) : Bool := !(befP r.1 a.1) && !(decide (r.1 = a.1) && decide (a.2.1 ≠ 2))
def nextsB : List Rd → Bool
  | a :: r :: l => nextB a r && nextsB (r :: l)
  | _ => true
def hereR (p : Pl) (rs : List Rd) : List Rd := rs.filter fun r => decide (r.1 = p)
/-- What is put in, and what stands in a place. -/
def stepR (z : List ByteArray × ByteArray) (r : Rd) : List ByteArray × ByteArray := if r.2.1 = 2 then (z.1 ++ [r.2.2], z.2) else (z.1, r.2.2)
def foldR (o : ByteArray) (l : List Rd) : List ByteArray × ByteArray := l.foldl stepR ([], o)
def fullB (s : ByteArray) : Bool := decide (s.size ≠ 0)
def wrdS (l : List ByteArray) (rs : List Rd) (k n : Int) (q : Nat) : List ByteArray :=
  let z := foldR (l.getD q ⟨#[]⟩) (hereR (k, n, (q : Int)) rs)
  z.1 ++ if z.2.size = 0 then [] else [z.2]
def lineS (l : List ByteArray) (rs : List Rd) (k n : Int) : List ByteArray := (List.range (l.length + 1)).flatMap (wrdS l rs k n)
def readC (rs : List Rd) (k : Nat) (x : Int × List (List ByteArray)) : Int × List (List ByteArray) := (x.1, x.2.mapIdx fun n l => lineS l rs k n)
def readT (t : Tx) (rs : List Rd) : Tx := t.mapIdx (readC rs)
def lensB (t : Tx) : Bool := t.all fun x => x.2.all fun l => inB 1 10 (l.length : Int)
def copyB (t : Tx) (id : Int) (rs : List Rd) : Bool := inB 0 9999 id && decide (rs.length ≤ 20) && (rs.all (readB t) && nextsB rs) && lensB (readT t rs)
def cpE (t : Tx) (id : Int) (rs : List Rd) : Int := if textB t then (if copyB t id rs then 0 else 11) else 10
def placeB (t : Tx) (p : Pl) : Bool := match lineT t p with
  | none => false
  | some l => inB 0 ((l.length : Int) - 1) p.2.2
def wordT (t : Tx) (p : Pl) : ByteArray := ((lineT t p).getD []).getD p.2.2.toNat ⟨#[]⟩
def standsB (t : Tx) (rs : List Rd) (p : Pl) : ByteArray := match rs.find? fun r => decide (r.1 = p) && decide (r.2.1 ≠ 2) with
  | some r => r.2.2
  | none => wordT t p
/-- Where a copy has what stands in a place; nothing if it leaves it out. -/
def moveR (p : Pl) : List Rd → Int → Option Int
  | [], q => some q
  | r :: l, q => if r.1.1 ≠ p.1 ∨ r.1.2.1 ≠ p.2.1 ∨ p.2.2 < r.1.2.2 then moveR p l q
    else if r.2.1 = 2 then moveR p l (q + 1)
    else if r.2.1 = 1 then (if r.1.2.2 = p.2.2 then none else moveR p l (q - 1))
    else moveR p l q
def movedS (t : Tx) (id : Int) (rs : List Rd) (p : Pl) : Pl × Int :=
  if cpE t id rs ≠ 0 then ((0, 0, 0), cpE t id rs) else if placeB t p = false then ((0, 0, 0), 12)
  else match moveR p rs p.2.2 with
    | none => ((0, 0, 0), 6)
    | some q => ((p.1, p.2.1, q), 0)
theorem nextsB_get : ∀ {rs : List Rd}, nextsB rs = true → ∀ (j : Nat) (hj : j + 1 < rs.length), nextB rs[j] rs[j + 1] = true
  | [], _, j, hj => absurd hj (Nat.not_lt_zero _)
  | [_], _, j, hj => absurd hj (by simp)
  | a :: r :: l, h, 0, _ => by rw [nextsB, Bool.and_eq_true] at h; exact h.1
  | a :: r :: l, h, j + 1, hj => by
    rw [nextsB, Bool.and_eq_true] at h
    exact nextsB_get h.2 j (by simpa using hj)
theorem nextsB_no : ∀ {rs : List Rd} (j : Nat) (hj : j + 1 < rs.length), nextB rs[j] rs[j + 1] = false → nextsB rs = false
  | [], j, hj, _ => absurd hj (Nat.not_lt_zero _)
  | [_], j, hj, _ => absurd hj (by simp)
  | a :: r :: l, 0, _, h => by
    have h' : nextB a r = false := h
    rw [nextsB, h']; rfl
  | a :: r :: l, j + 1, hj, h => by rw [nextsB, nextsB_no j (by simpa using hj) h, Bool.and_false]
theorem nextsB_yes : ∀ {rs : List Rd}, (∀ (j : Nat) (hj : j + 1 < rs.length), nextB rs[j] rs[j + 1] = true) → nextsB rs = true
  | [], _ => rfl
  | [_], _ => rfl
  | a :: r :: l, h => by
    have h0 : nextB a r = true := h 0 (by simp)
    rw [nextsB, h0, nextsB_yes fun j hj => h (j + 1) (by simpa using hj)]; rfl
theorem befP_iff (a b : Pl) : befP a b = true ↔ a.1 < b.1 ∨ a.1 = b.1 ∧ (a.2.1 < b.2.1 ∨ a.2.1 = b.2.1 ∧ a.2.2 < b.2.2) := by
  by_cases h1 : a.1 = b.1 <;> by_cases h2 : a.2.1 = b.2.1 <;> simp [befP, h1, h2]
theorem befP_trans {a b c : Pl} (h1 : befP a b = true) (h2 : befP b c = true) : befP a c = true := by
  rw [befP_iff] at *
  omega
theorem befP_tri (a b : Pl) : befP a b = true ∨ a = b ∨ befP b a = true := by
  obtain ⟨a1, a2, a3⟩ := a
  obtain ⟨b1, b2, b3⟩ := b
  rw [befP_iff, befP_iff]
  simp only [Prod.mk.injEq]
  omega
theorem befP_irr (a : Pl) : befP a a = false := by unfold befP; simp
/-- Readings that may follow each other: no earlier one is behind a later one. -/
theorem nextsB_mono {rs : List Rd} (h : nextsB rs = true) : ∀ (d i : Nat) (hj : i + d < rs.length), befP rs[i + d].1 (rs[i]'(by omega)).1 = false
  | 0, i, hj => befP_irr _
  | d + 1, i, hj => by
    have h1 := nextsB_mono h d i (by omega)
    have h2 := nextsB_get h (i + d) (by omega)
    rw [nextB, Bool.and_eq_true] at h2
    have h3 : befP rs[i + d + 1].1 rs[i + d].1 = false := by simpa using h2.1
    show befP rs[i + d + 1].1 _ = false
    rcases befP_tri rs[i + d + 1].1 (rs[i]'(by omega)).1 with h4 | h4 | h4
    · exfalso
      rcases befP_tri rs[i + d].1 rs[i + d + 1].1 with h5 | h5 | h5
      · rw [befP_trans h5 h4] at h1; cases h1
      · rw [h5] at h1; rw [h1] at h4; cases h4
      · rw [h3] at h5; cases h5
    · rw [h4]; exact befP_irr _
    · cases hb : befP rs[i + d + 1].1 (rs[i]'(by omega)).1 with
      | false => rfl
      | true => have := befP_trans hb h4; rw [befP_irr] at this; cases this
/-- All but the last reading of a place put words in. -/
theorem nextsB_put {rs : List Rd} (h : nextsB rs = true) {i j : Nat} (hij : i < j) (hj : j < rs.length) (he : rs[j].1 = (rs[i]'(by omega)).1) : (rs[i]'(by omega)).2.1 = 2 := by
  have h1 := nextsB_get h i (by omega)
  have e : rs[i + 1].1 = (rs[i]'(by omega)).1 := by
    have a1 := nextsB_mono h 1 i (by omega)
    obtain ⟨d, rfl⟩ : ∃ d, j = i + 1 + d := ⟨j - (i + 1), by omega⟩
    have a2 := nextsB_mono h d (i + 1) (by omega)
    rw [he] at a2
    rcases befP_tri rs[i + 1].1 (rs[i]'(by omega)).1 with h4 | h4 | h4
    · rw [a1] at h4; cases h4
    · exact h4
    · rw [a2] at h4; cases h4
  rw [nextB, Bool.and_eq_true] at h1
  have h2 := h1.2
  simp only [e, decide_true, Bool.true_and, Bool.not_eq_true', decide_eq_false_iff_not, ne_eq, Decidable.not_not] at h2
  exact h2
theorem filter_pair {α : Type} (f : α → Bool) : ∀ (l : List α) (j : Nat) (hj : j + 1 < (l.filter f).length), ∃ (a b : Nat) (hab : a < b) (hb : b < l.length), (l[a]'(by omega)) = (l.filter f)[j] ∧ f (l[a]'(by omega)) = true ∧ f l[b] = true
  | [], j, hj => absurd hj (by simp)
  | x :: l, j, hj => by
    by_cases hx : f x = true
    · cases j with
      | zero =>
        have h1 : 0 < (l.filter f).length := by rw [List.filter_cons, if_pos hx] at hj; simpa using hj
        have h2 := List.getElem_mem h1
        obtain ⟨h3, h4⟩ := List.mem_filter.1 h2
        obtain ⟨b, hb, e⟩ := List.mem_iff_getElem.1 h3
        refine ⟨0, b + 1, by omega, by simpa using hb, ?_, hx, ?_⟩
        · simp [hx]
        · simp only [List.getElem_cons_succ]; rw [e]; exact h4
      | succ j =>
        have h1 : j + 1 < (l.filter f).length := by rw [List.filter_cons, if_pos hx] at hj; simpa using hj
        obtain ⟨a, b, hab, hb, e1, e2, e3⟩ := filter_pair f l j h1
        refine ⟨a + 1, b + 1, by omega, by simpa using hb, ?_, by simpa using e2, by simpa using e3⟩
        simp only [List.getElem_cons_succ]
        rw [e1]
        simp [hx]
    · have h1 : j + 1 < (l.filter f).length := by rw [List.filter_cons, if_neg hx] at hj; exact hj
      obtain ⟨a, b, hab, hb, e1, e2, e3⟩ := filter_pair f l j h1
      refine ⟨a + 1, b + 1, by omega, by simpa using hb, ?_, by simpa using e2, by simpa using e3⟩
      simp only [List.getElem_cons_succ]
      rw [e1]
      simp [hx]
theorem here_put {rs : List Rd} (h : nextsB rs = true) {p : Pl} {j : Nat} (hj : j + 1 < (hereR p rs).length) : (hereR p rs)[j].2.1 = 2 := by
  obtain ⟨a, b, hab, hb, e1, e2, e3⟩ := filter_pair _ _ _ hj
  have e4 := of_decide_eq_true e2
  have e5 := of_decide_eq_true e3
  have := nextsB_put h hab hb (e5.trans e4.symm)
  have e6 : (hereR p rs)[j] = rs[a] := e1.symm
  rw [e6]; exact this
theorem here_mem {rs : List Rd} {p : Pl} {r : Rd} (h : r ∈ hereR p rs) : r ∈ rs ∧ r.1 = p := by
  obtain ⟨h1, h2⟩ := List.mem_filter.1 h
  exact ⟨h1, of_decide_eq_true h2⟩
theorem here_len (p : Pl) (rs : List Rd) : (hereR p rs).length ≤ rs.length := List.length_filter_le _ _
theorem foldR_snoc {o : ByteArray} {l : List Rd} {j : Nat} {r : Rd} (h : l[j]? = some r) : foldR o (l.take (j + 1)) = stepR (foldR o (l.take j)) r := by
  rw [take_snoc_get h, foldR, foldR, List.foldl_append]; rfl
theorem foldR_len (o : ByteArray) (l : List Rd) : (foldR o l).1.length ≤ l.length := by
  have : ∀ (l : List Rd) (z : List ByteArray × ByteArray), (l.foldl stepR z).1.length ≤ z.1.length + l.length := by
    intro l
    induction l with
    | nil => intro z; simp
    | cons r l ih =>
      intro z
      have := ih (stepR z r)
      have h2 : (stepR z r).1.length ≤ z.1.length + 1 := by unfold stepR; split <;> simp
      rw [List.foldl_cons, List.length_cons]
      omega
  have h := this l ([], o)
  simp only [List.length_nil, Nat.zero_add] at h
  exact h
end Go.Proofs.YtpbkphaceljclaaGreatDoor

/- Equality of places and of slips. -/
namespace Go.Proofs.YtpbkphaceljclaaGreatDoor
open Go.RowKit

section
variable {P : Program}
theorem eqFields_cons {w : World} {f : Field} {fs : List Field} {xs ys : Array Value} {d : Nat} {a b : Value} {r : Bool} (hn : f.name ≠ "_") (pa : (part f.type xs f.offset).run P w = .ok a w) (pb : (part f.type ys f.offset).run P w = .ok b w)
    (he : (Op.equalIn d f.type a b).run P w = .ok r w) : (Op.eqFields d xs ys (f :: fs)).run P w = if r then (Op.eqFields d xs ys fs).run P w else .ok false w := by
  simp only [Op.eqFields, if_pos hn, Sem.run_bind, pa, pb, he, Result.andThen_ok]
  cases r <;> simp
theorem part_cell {t : Nat} {w : World} {dd : TypeDesc} (u : TU P t dd) (hag : TypeDesc.isAgg dd = false) {cs : Array Value} {off : Nat} {v : Value} (h : cs[off]? = some v) : (part t cs off).run P w = .ok v w := by
  simp [part, run_isAgg w u, hag, h]
theorem part_agg {t size bytes : Nat} {w : World} {dd : TypeDesc} {z : Value} (u : TU P t dd) (hag : TypeDesc.isAgg dd = true) (hz : TS P t z size bytes) {cs xs : Array Value} {off : Nat} (h : cs.extract off (off + size) = xs) : (part t cs off).run P w = .ok (.agg xs) w := by
  simp [part, run_isAgg w u, hag, run_sizeOf' w hz, h]
theorem eqInt (w : World) (d : Nat) {t : Nat} (u : TU P t (.int .i64)) (a b : Int) : (Op.equalIn (d + 1) t (.int .i64 a) (.int .i64 b)).run P w = .ok (decide (a = b)) w := by
  rw [run_equalIn_int w d t .i64 .i64 a b u.h]
  congr 1
theorem eqStr (w : World) (d : Nat) {t : Nat} (u : TU P t .string) (a b : ByteArray) : (Op.equalIn (d + 1) t (.string a) (.string b)).run P w = .ok (decide (a = b)) w := by
  rw [run_equalIn_string w d t a b u.h, ← beq_toListBytes, byteArray_beq]
theorem eqIn_int3 {t : Nat} {f0 f1 f2 : Field} (hu : P.underlying t = some (.struct #[f0, f1, f2])) (h0 : f0.name ≠ "_") (h0' : f0.offset = 0) (h1 : f1.name ≠ "_") (h1' : f1.offset = 1) (h2 : f2.name ≠ "_") (h2' : f2.offset = 2)
    (u0 : TU P f0.type (.int .i64)) (u1 : TU P f1.type (.int .i64)) (u2 : TU P f2.type (.int .i64)) (hp : P.stoodInHeld t = false) (w : World) (d : Nat) (a b : Pl) : (Op.equalIn (d + 2) t (encPl a) (encPl b)).run P w = .ok (decide (a = b)) w := by
  have hf : P.fieldsOf t = #[f0, f1, f2] := by simp [Program.fieldsOf, hu]
  have ht : P.underlying t = some (.struct (P.fieldsOf t)) := by rw [hf]; exact hu
  rw [run_equalIn_struct w (d + 1) t _ _ ht hp, hf]
  obtain ⟨a1, a2, a3⟩ := a
  obtain ⟨b1, b2, b3⟩ := b
  rw [eqFields_cons h0 (part_cell u0 rfl (by rw [h0']; rfl)) (part_cell u0 rfl (by rw [h0']; rfl)) (eqInt w d u0 a1 b1)]
  by_cases c0 : a1 = b1
  · rw [decide_eq_true c0, if_pos rfl, eqFields_cons h1 (part_cell u1 rfl (by rw [h1']; rfl)) (part_cell u1 rfl (by rw [h1']; rfl)) (eqInt w d u1 a2 b2)]
    by_cases c1 : a2 = b2
    · rw [decide_eq_true c1, if_pos rfl, eqFields_cons h2 (part_cell u2 rfl (by rw [h2']; rfl)) (part_cell u2 rfl (by rw [h2']; rfl)) (eqInt w d u2 a3 b3)]
      by_cases c2 : a3 = b3
      · simp [c0, c1, c2, Op.eqFields]
      · simp [c2]
    · simp [c1]
  · simp [c0]
theorem eqT_int3 {t : Nat} (h : ∀ (w : World) (d : Nat) (a b : Pl), (Op.equalIn (d + 2) t (encPl a) (encPl b)).run P w = .ok (decide (a = b)) w) (hg : P.eqGuardType P.depth t = false) : EqT P t encPl where
  eq w a b := h w 9998 a b
  guard op x y w a b := by
    cases op <;> simp [encPl, eqGuard, hg]
  kind a b := ⟨fun w => by simp [encPl, binOp], fun w => by simp [encPl, binOp]⟩

/-! ### Slips -/
end
/-- A slip: its place, its word, what is before it, what is behind it. -/
abbrev Slp := Pl × ByteArray × ByteArray × ByteArray
abbrev encSl (x : Slp) : Value := .agg #[.int .i64 x.1.1, .int .i64 x.1.2.1, .int .i64 x.1.2.2, .string x.2.1, .string x.2.2.1, .string x.2.2.2]
section
variable {P : Program}
theorem eqIn_slip {t bytes : Nat} {z : Value} {d0 : TypeDesc} {f0 f1 f2 f3 : Field} (hu : P.underlying t = some (.struct #[f0, f1, f2, f3])) (h0 : f0.name ≠ "_") (h0' : f0.offset = 0) (h1 : f1.name ≠ "_") (h1' : f1.offset = 3) (h2 : f2.name ≠ "_") (h2' : f2.offset = 4) (h3 : f3.name ≠ "_") (h3' : f3.offset = 5)
    (u0 : TU P f0.type d0) (hag : TypeDesc.isAgg d0 = true) (hz : TS P f0.type z 3 bytes) (u1 : TU P f1.type .string) (u2 : TU P f2.type .string) (u3 : TU P f3.type .string) (hp : P.stoodInHeld t = false)
    (hpl : ∀ (w : World) (d : Nat) (a b : Pl), (Op.equalIn (d + 2) f0.type (encPl a) (encPl b)).run P w = .ok (decide (a = b)) w) (w : World) (d : Nat) (a b : Slp) : (Op.equalIn (d + 3) t (encSl a) (encSl b)).run P w = .ok (decide (a = b)) w := by
  have hf : P.fieldsOf t = #[f0, f1, f2, f3] := by simp [Program.fieldsOf, hu]
  have ht : P.underlying t = some (.struct (P.fieldsOf t)) := by rw [hf]; exact hu
  rw [run_equalIn_struct w (d + 2) t _ _ ht hp, hf]
  obtain ⟨a1, a2, a3, a4⟩ := a
  obtain ⟨b1, b2, b3, b4⟩ := b
  rw [eqFields_cons h0 (part_agg (xs := #[.int .i64 a1.1, .int .i64 a1.2.1, .int .i64 a1.2.2]) u0 hag hz (by rw [h0']; rfl)) (part_agg (xs := #[.int .i64 b1.1, .int .i64 b1.2.1, .int .i64 b1.2.2]) u0 hag hz (by rw [h0']; rfl)) (hpl w d a1 b1)]
  by_cases c0 : a1 = b1
  · rw [decide_eq_true c0, if_pos rfl, eqFields_cons h1 (part_cell u1 rfl (by rw [h1']; rfl)) (part_cell u1 rfl (by rw [h1']; rfl)) (eqStr w (d + 1) u1 a2 b2)]
    by_cases c1 : a2 = b2
    · rw [decide_eq_true c1, if_pos rfl, eqFields_cons h2 (part_cell u2 rfl (by rw [h2']; rfl)) (part_cell u2 rfl (by rw [h2']; rfl)) (eqStr w (d + 1) u2 a3 b3)]
      by_cases c2 : a3 = b3
      · rw [decide_eq_true c2, if_pos rfl, eqFields_cons h3 (part_cell u3 rfl (by rw [h3']; rfl)) (part_cell u3 rfl (by rw [h3']; rfl)) (eqStr w (d + 1) u3 a4 b4)]
        by_cases c3 : a4 = b4
        · simp [c0, c1, c2, c3, Op.eqFields]
        · simp [c3]
      · simp [c2]
    · simp [c1]
  · simp [c0]
theorem eqT_slip {t : Nat} (h : ∀ (w : World) (d : Nat) (a b : Slp), (Op.equalIn (d + 3) t (encSl a) (encSl b)).run P w = .ok (decide (a = b)) w) (hg : P.eqGuardType P.depth t = false) : EqT P t encSl where
  eq w a b := h w 9997 a b
  guard op x y w a b := by
    cases op <;> simp [encSl, eqGuard, hg]
  kind a b := ⟨fun w => by simp [encSl, binOp], fun w => by simp [encSl, binOp]⟩
end
theorem eqIn_place (w : World) (d : Nat) (a b : Pl) : (Op.equalIn (d + 2) 44 (encPl a) (encPl b)).run Tryz.prog w = .ok (decide (a = b)) w :=
  eqIn_int3 Tryz.underlying44 (by decide) rfl (by decide) rfl (by decide) rfl tu3 tu3 tu3 (by kernel_rfl) w d a b
instance : EqT Tryz.prog 44 encPl := eqT_int3 eqIn_place (by kernel_rfl)
instance : EqT Tryz.prog 48 encSl := eqT_slip (eqIn_slip Tryz.underlying48 (by decide) rfl (by decide) rfl (by decide) rfl (by decide) rfl tu44 rfl ts44 tu9 tu9 tu9 (by kernel_rfl) eqIn_place) (by kernel_rfl)
end Go.Proofs.YtpbkphaceljclaaGreatDoor

/- The proof engine, part 21: strings joined, compared; parts of slices told outright; a number turned round. -/
namespace Go.Proofs.YtpbkphaceljclaaGreatDoor
open Go.RowKit

section rules
variable {P : Program} {ro : Option Nat} {n : Nat} {all rest : List Oper} {K : Sl → World → Prop} {s : Sl} {w : World} {d : Nat} {ty : Nat} {pos : String} {af : Array Edge}
variable {x y : Operand} {t t' e : Nat}
theorem jjm {a : Int} (hx : ev n s x = .int .i64 a) (hr : -9223372036854775807 ≤ a ∧ a ≤ 9223372036854775807) (h : Ops P ro n all rest K (upd s d (.int .i64 (-a))) w) :
    Ops P ro n all (⟨some d, .unOp .neg t x, ty, pos, af, none⟩ :: rest) K s w :=
  Ops.ofRun rfl (by have : IntKind.i64.wrap (-a) = -a := by rw [IntKind.wrap_i64]; omega
                    simp [execOp, hx, go_sem, Op.unary, this]) h

/-- A part of a slice, as a value. -/
abbrev cutV (a : Option Addr) (c k lo hi : Nat) : Value := .slice (if c = lo then a else a.map (·.add (lo * k))) (hi - lo) (c - lo)
theorem RowV.cut {agg : Bool} {k l c : Nat} {a : Option Addr} {xs : List Value} (h : RowV w agg k (.slice a l c) xs) {lo hi : Nat} (h1 : lo ≤ hi) (h2 : hi ≤ xs.length) : RowV w agg k (cutV a c k lo hi) ((xs.take hi).drop lo) := by
  obtain ⟨rfl, hlc⟩ := h.cap
  exact h.part lo hi h1 h2 _ (by omega) _ (fun hlt => by rw [if_neg (by omega)])
theorem Ops.sliceLHv {k bytes l c lo hi : Nat} {z : Value} {a : Option Addr} {i j : Int} {k1 k2 : IntKind} {xl xh : Operand} (hx : ev n s x = .slice a l c) (hl : ev n s xl = .int k1 i) (hh : ev n s xh = .int k2 j)
    (hi' : i = (lo : Int)) (hj' : j = (hi : Int)) (h1 : lo ≤ hi) (h2 : hi ≤ c) [ht : TSl P t e] [hz : TS P e z k bytes]
    (h : Ops P ro n all rest K (upd s d (cutV a c k lo hi)) w) : Ops P ro n all (⟨some d, .slice t x (some xl) (some xh) none, ty, pos, af, none⟩ :: rest) K s w := by
  subst hi' hj'
  refine Ops.ofRun (v := cutV a c k lo hi) (w' := w) rfl ?_ h
  simp [cutV, execOp, Instr.sliceAt, Instr.slice, Instr.sliceBounds, Instr.sliceBound, hx, hl, hh, run_underlying ht.h, asIntOf, h1, h2, run_sizeOf' w hz]
theorem beqS (a b : ByteArray) : (a.toList == b.toList) = decide (a = b) := by rw [← beq_toListBytes, byteArray_beq]
theorem Ops.eqlS {a b : ByteArray} (hx : ev n s x = .string a) (hy : ev n s y = .string b) (h : Ops P ro n all rest K (upd s d (.bool (decide (a = b)))) w) :
    Ops P ro n all (⟨some d, .binOp .eql t x y t', ty, pos, af, none⟩ :: rest) K s w :=
  Ops.ofRun rfl (by simp [execOp, hx, hy, go_sem, beqS, eqGuard]) h
theorem Ops.neqS {a b : ByteArray} (hx : ev n s x = .string a) (hy : ev n s y = .string b) (h : Ops P ro n all rest K (upd s d (.bool (decide (¬ a = b)))) w) :
    Ops P ro n all (⟨some d, .binOp .neq t x y t', ty, pos, af, none⟩ :: rest) K s w :=
  Ops.ofRun rfl (by
    have e : decide (¬ a = b) = !decide (a = b) := by by_cases h : a = b <;> simp [h]
    rw [e]
    simp [execOp, hx, hy, go_sem, beqS, eqGuard]) h
theorem Ops.lssS {a b : ByteArray} (hx : ev n s x = .string a) (hy : ev n s y = .string b) (h : Ops P ro n all rest K (upd s d (.bool (Op.bytesLess a.toList b.toList))) w) :
    Ops P ro n all (⟨some d, .binOp .lss t x y t', ty, pos, af, none⟩ :: rest) K s w :=
  Ops.ofRun rfl (by simp [execOp, hx, hy, go_sem]) h
theorem Ops.gtrS {a b : ByteArray} (hx : ev n s x = .string a) (hy : ev n s y = .string b) (h : Ops P ro n all rest K (upd s d (.bool (!(Op.bytesLess a.toList b.toList || a.toList == b.toList)))) w) :
    Ops P ro n all (⟨some d, .binOp .gtr t x y t', ty, pos, af, none⟩ :: rest) K s w :=
  Ops.ofRun rfl (by simp [execOp, hx, hy, go_sem, binOp, Op.stringOp]) h
/-- The address of an element of an array. -/
theorem Ops.indexAP {z : Value} {size bytes b o len : Nat} {i : Int} {k : IntKind} (j : Nat) (hx : ev n s x = .pointer (some ⟨b, o, none⟩)) (hy : ev n s y = .int k i) (hi : i = (j : Int)) [ht : TArr P t len e] [hz : TS P e z size bytes] (hj : Nat.blt j len = true)
    (h : Ops P ro n all rest K (upd s d (.pointer (some ⟨b, o + j * size, none⟩))) w) :
    Ops P ro n all (⟨some d, .indexAddr t x y, ty, pos, af, none⟩ :: rest) K s w := by
  subst hi
  have hj' : j < len := by simpa using hj
  exact Ops.ofRun rfl (by
    have h1 : (0 : Int) ≤ (j : Int) ∧ (j : Int) < (len : Int) := by omega
    simp [execOp, Instr.indexAt, hx, hy, asIntOf, Instr.sureAddr, run_underlying ht.h, run_sizeOf' w hz, Addr.add_lit, hj']) h
end rules
end Go.Proofs.YtpbkphaceljclaaGreatDoor

/- The proof engine, part 22: a struct and a number as results. -/
namespace Go.Proofs.YtpbkphaceljclaaGreatDoor
open Go.RowKit

theorem OwnL.slice3 {w : World} {B e : Nat} {agg : Bool} {k : Nat} {v : Value} {xs : List Value} (h : OwnL w B e agg k v xs) : ∃ a l c, v = .slice a l c := by
  obtain ⟨a, c, h⟩ := h.slice
  exact ⟨a, _, c, h⟩

theorem fin2C {P : Program} {fn : Func} {n t ty b size bytes t1 : Nat} {R : Value → World → Prop} {s : Sl} {w : World} {cs : List Value} {dd : TypeDesc} {z : Value} (hf : fn.results = #[.cell t ty, .tmp t1]) (ht : Nat.blt t n = true) (h1 : Nat.blt t1 n = true)
    (hs : s t = .pointer (some ⟨b, 0, none⟩)) [hb : At w b 0 cs] [hu : TU P ty dd] (hag : TypeDesc.isAgg dd = true) [hz : TS P ty z size bytes] (hl : cs.length = size)
    (h : R (.tuple #[.agg cs.toArray, s t1]) w) : finR P fn n R s [] w := by
  unfold finR
  refine ⟨rfl, _, ?_, h⟩
  have e : (mkA n s []).tmps[t]?.getD undef = .pointer (some ⟨b, 0, none⟩) := by
    rw [mkA_getElem?, if_pos (by simpa using ht)]; exact hs
  have e1 : (mkA n s []).tmps[t1]?.getD undef = s t1 := by rw [mkA_getElem?, if_pos (by simpa using h1)]; rfl
  have := run_loadVar_agg (P := P) (t := ty) (w := w) (b := b) (o := 0) hu hag hz (cs := cs) hl (fun i v hv => by have := hb.h i v hv; simpa using this)
  simp [results, hf, e, e1, asAddr, this]
/-- The result in a variable, where marks lie. -/
theorem fin1CM {P : Program} {fn : Func} {n N t ty b size bytes : Nat} {R : Value → World → Prop} {s : Sl} {ds : List Deferred} {w : World} {cs : List Value} {dd : TypeDesc} {z : Value} {e : Nat} (hf : fn.results = #[.cell t ty]) (ht : Nat.blt t n = true) (hs : s t = .pointer (some ⟨b, 0, none⟩)) (hb : Bk w b cs e) [hu : TU P ty dd] (hag : TypeDesc.isAgg dd = true) [hz : TS P ty z size bytes] (hl : cs.length = size) (hm : Mks N w ds)
    (h : ∀ w', Grow N w w' → R (.agg cs.toArray) w') : finM P fn n N R s ds w := by
  unfold finM
  refine ⟨hm, fun w' g => ⟨.agg cs.toArray, ?_, h w' g⟩⟩
  have e : (mkA n s []).tmps[t]?.getD undef = .pointer (some ⟨b, 0, none⟩) := by
    rw [mkA_getElem?, if_pos (by simpa using ht)]; exact hs
  have hA := Bk.toAt (h := hb.grow g)
  have := run_loadVar_agg (P := P) (t := ty) (w := w') (b := b) (o := 0) hu hag hz (cs := cs) hl (fun i v hv => by have := hA.h i v hv; simpa using this)
  simp [results, hf, e, asAddr, this]
end Go.Proofs.YtpbkphaceljclaaGreatDoor

/- The proof engine, part 23: regions that draw their order and whose last operation stores into what they read. -/
namespace Go.Proofs.YtpbkphaceljclaaGreatDoor
open Go.RowKit

section
variable {P : Program} {ro : Option Nat} {n : Nat} {all : List Oper} {S : World → Prop} {K : Sl → World → Prop} {x : Nat}
theorem AnyS.mono {K' : Sl → World → Prop} (hk : ∀ s w, K' s w → K s w) : ∀ {fuel : Nat} {listed : Array Bool} {s : Sl} {w : World}, AnyS P ro n all S K' fuel listed s w → AnyS P ro n all S K fuel listed s w := by
  intro fuel
  induction fuel with
  | zero =>
    intro listed s w h
    rw [AnyS.zero] at h ⊢
    exact ⟨h.1, h.2.1, hk _ _ h.2.2⟩
  | succ fuel ih =>
    intro listed s w h
    rw [AnyS.succ] at h ⊢
    exact ⟨h.1, fun e => hk _ _ (h.2.1 e), fun i hi o ho => (h.2.2 i hi o ho).mono fun v w' h => ih h⟩
/-- Each order of the operations that are not yet listed ends, and K; the world stays in S till the operation x. -/
def AnyX (P : Program) (ro : Option Nat) (n : Nat) (all : List Oper) (S : World → Prop) (K : Sl → World → Prop) (x : Nat) : Nat → Array Bool → Sl → World → Prop
  | 0, listed, s, w => (listed.getD x false = false → S w) ∧ Region.ready .any all.toArray listed = [] ∧ K s w
  | fuel + 1, listed, s, w => (listed.getD x false = false → S w) ∧ (Region.ready .any all.toArray listed = [] → K s w) ∧
      ∀ i ∈ Region.ready .any all.toArray listed, ∀ o, all[i]? = some o → Op1 P ro n all o s w (fun v w' => AnyX P ro n all S K x fuel (listed.setIfInBounds i true) (putS s o.dst v) w')
theorem AnyX.succ {fuel : Nat} {listed : Array Bool} {s : Sl} {w : World} : AnyX P ro n all S K x (fuel + 1) listed s w ↔ ((listed.getD x false = false → S w) ∧ (Region.ready .any all.toArray listed = [] → K s w) ∧
      ∀ i ∈ Region.ready .any all.toArray listed, ∀ o, all[i]? = some o → Op1 P ro n all o s w (fun v w' => AnyX P ro n all S K x fuel (listed.setIfInBounds i true) (putS s o.dst v) w')) := Iff.rfl
theorem AnyX.zero {listed : Array Bool} {s : Sl} {w : World} : AnyX P ro n all S K x 0 listed s w ↔ ((listed.getD x false = false → S w) ∧ Region.ready .any all.toArray listed = [] ∧ K s w) := Iff.rfl
theorem AnyX.inS : ∀ {fuel : Nat} {listed : Array Bool} {s : Sl} {w : World}, AnyX P ro n all S K x fuel listed s w → listed.getD x false = false → S w
  | 0, _, _, _, h => h.1
  | _ + 1, _, _, _, h => h.1
theorem AnyX.sound {ds : List Deferred} {Q : Exit → Act → World → Prop} (hQ : ∀ s w, K s w → Q .normal (mkA n s ds) w) : ∀ (fuel : Nat) (listed : Array Bool) (s : Sl) (w : World), AnyX P ro n all S K x fuel listed s w →
    wpAnyIn (Fw ro) 0 P .any all.toArray Q fuel listed (mkA n s ds) w := by
  intro fuel
  induction fuel with
  | zero => intro listed s w h; exact ⟨h.2.1, hQ _ _ h.2.2⟩
  | succ fuel ih =>
    intro listed s w h
    refine ⟨fun h0 => hQ _ _ (h.2.1 h0), fun i hi => ?_⟩
    obtain ⟨_, o, ho, _⟩ := mem_ready.1 hi
    have ho' : all[i]? = some o := by simpa using ho
    exact Op1.sound ho' (h.2.2 i hi o ho') fun v w' hk => ih _ _ _ hk
/-- The operation x stands behind the operation i. -/
def behind (all : List Oper) (x i : Nat) : Bool := (x != i) && (match all[x]? with
  | some o => o.after.toList.any fun e => Region.binds .any e && (e.on == i)
  | none => false)
theorem AnyX.first {i : Nat} {oi : Oper} {v : Value} (hn : niceAll all = true) (hi : all[i]? = some oi) (hbx : behind all x i = true) :
    ∀ (fuel : Nat) (listed : Array Bool) (s : Sl) (w : World),
      (∀ j oj, all[j]? = some oj → j ≠ i → listed.getD j true = false → (∀ e ∈ oj.after, Region.binds .any e = true → e.on ≠ i) → oi.apart all.toArray oj = true) →
      i ∈ Region.ready .any all.toArray listed → Quiet P ro n all S oi v s → S w → listed.getD x false = false →
      AnyX P ro n all S K x fuel (listed.setIfInBounds i true) (putS s oi.dst v) w → AnyX P ro n all S K x (fuel + 1) listed s w := by
  have putv : ∀ (s : Sl) (u : Value), (∀ d, oi.dst = some d → u = v) → putS s oi.dst u = putS s oi.dst v := fun s u h => by
    cases hd : oi.dst with
    | none => rfl
    | some d => rw [h d hd]
  have hxi : i ≠ x := fun e => by subst e; simp [behind] at hbx
  intro fuel
  induction fuel with
  | zero =>
    intro listed s w _ hr hy hS hx H
    refine AnyX.succ.2 ⟨fun _ => hS, fun h => (by rw [h] at hr; cases hr), fun j hj oj hoj => ?_⟩
    by_cases hji : j = i
    · subst hji
      have : oj = oi := by rw [hi] at hoj; exact (Option.some.inj hoj).symm
      subst this
      refine (hy w hS).mono fun u w' ⟨h1, h2⟩ => ?_
      subst h2; rw [putv s u h1]; exact H
    · have := ready_mono hj hji
      rw [(AnyX.zero.1 H).2.1] at this
      cases this
  | succ fuel ih =>
    intro listed s w hfree hr hy hS hx H
    refine AnyX.succ.2 ⟨fun _ => hS, fun h => (by rw [h] at hr; cases hr), fun j hj oj hoj => ?_⟩
    by_cases hji : j = i
    · subst hji
      have : oj = oi := by rw [hi] at hoj; exact (Option.some.inj hoj).symm
      subst this
      refine (hy w hS).mono fun u w' ⟨h1, h2⟩ => ?_
      subst h2; rw [putv s u h1]; exact H
    · obtain ⟨hjun, oj', hoj', hall⟩ := mem_ready.1 hj
      have : oj' = oj := by
        have : all[j]? = some oj' := by simpa using hoj'
        rw [hoj] at this; exact (Option.some.inj this).symm
      subst this
      have hnot : ∀ e ∈ oj'.after, Region.binds .any e = true → e.on ≠ i := fun e he hb heq => by
        have h1 := hall e he hb
        have h0 := (mem_ready.1 hr).1
        rw [heq] at h1
        rcases Nat.lt_or_ge i listed.size with h' | h'
        · simp [h'] at h0 h1; rw [h0] at h1; cases h1
        · simp [Array.getElem?_eq_none h'] at h1
      have hjx : j ≠ x := fun e => by
        subst e
        simp only [behind, hoj, Bool.and_eq_true, List.any_eq_true, beq_iff_eq] at hbx
        obtain ⟨_, e, he, hb, ho⟩ := hbx
        exact hnot e (by simpa using he) hb ho
      obtain ⟨a1, a2, a3⟩ := Oper.apart_spec (hfree j oj' hoj hji hjun hnot)
      have h1 := (Op1.congr (niceAll.get hn hoj) a1).2 ((AnyX.succ.1 H).2.2 j (ready_mono hj hji) oj' hoj)
      have hfree' : ∀ k ok, all[k]? = some ok → k ≠ i → (listed.setIfInBounds j true).getD k true = false →
          (∀ e ∈ ok.after, Region.binds .any e = true → e.on ≠ i) → oi.apart all.toArray ok = true := fun k ok hk hki hun hno => by
        refine hfree k ok hk hki ?_ hno
        by_cases hjk : j = k
        · subst hjk; exact hjun
        · rw [getD_set_ne true hjk] at hun; exact hun
      refine h1.mono fun u w' h3 => ?_
      have hx' : (listed.setIfInBounds j true).getD x false = false := by rw [getD_set_ne false hjx]; exact hx
      refine ih (listed.setIfInBounds j true) (putS s oj'.dst u) w' hfree' (ready_mono hr (Ne.symm hji)) (fun w hw => (Op1.congr (niceAll.get hn hi) a3).1 (hy w hw)) (h3.inS (by rw [getD_set_ne false hjx, getD_set_ne false hxi]; exact hx)) hx' ?_
      rw [Array.setIfInBounds_comm _ _ hji, ← putS_comm s v u a2]
      exact h3
theorem Takes.nilD {K : Sl → Prop} {s : Sl} (h : Takes P ro n all S [] K s) : K s := by
  with_unfolding_all exact h
theorem Takes.consD {i : Nat} {is : List Nat} {K : Sl → Prop} {s : Sl} (h : Takes P ro n all S (i :: is) K s) : ∃ o v, all[i]? = some o ∧ (∀ w, S w → Ops P ro n all [o] (fun s' w' => s' = putS s o.dst v ∧ w' = w) s w) ∧ Takes P ro n all S is K (putS s o.dst v) := by
  with_unfolding_all exact h
theorem AnyX.takes (hn : niceAll all = true) : ∀ (is : List Nat) {fuel : Nat} {listed : Array Bool} {s : Sl} {w : World}, okTake all is listed = true → is.all (behind all x) = true → listed.getD x false = false → S w →
    Takes P ro n all S is (fun s' => AnyX P ro n all S K x fuel (listAll listed is) s' w) s → AnyX P ro n all S K x (fuel + is.length) listed s w := by
  intro is
  induction is with
  | nil => intro fuel listed s w _ _ _ _ h; exact h.nilD
  | cons i is ih =>
    intro fuel listed s w hok hb hx hS h
    simp only [okTake, Bool.and_eq_true] at hok
    simp only [List.all_cons, Bool.and_eq_true] at hb
    obtain ⟨⟨h1, h2⟩, h3⟩ := hok
    obtain ⟨o, v, ho, hq, hr⟩ := h.consD
    have ho' : all.toArray[i]? = some o := by simpa using ho
    have hxi : i ≠ x := fun e => by have := hb.1; subst e; simp [behind] at this
    refine AnyX.first (v := v) hn ho hb.1 (fuel + is.length) listed s w (fun j oj hj => Region.free_spec ho' h2 j oj (by simpa using hj)) (by simpa using h1) ?_ hS hx (ih h3 hb.2 (by rw [getD_set_ne false hxi]; exact hx) hS hr)
    intro w hw
    have := hq w hw
    rw [op1_ops] at this
    refine this.mono fun u w' ⟨e1, e2⟩ => ⟨fun d hd => ?_, e2⟩
    rw [hd] at e1
    have := congrFun e1 d
    simpa [putS, upd] using this
theorem AnyX.take (is : List Nat) {fuel : Nat} {listed : Array Bool} {s : Sl} {w : World} (hok : (niceAll all && Nat.ble is.length fuel && okTake all is listed && is.all (behind all x) && !listed.getD x false) = true) (hS : S w)
    (h : Takes P ro n all S is (fun s' => AnyX P ro n all S K x (fuel - is.length) (listAll listed is) s' w) s) : AnyX P ro n all S K x fuel listed s w := by
  simp only [Bool.and_eq_true, Bool.not_eq_true'] at hok
  have hle : is.length ≤ fuel := by simpa using hok.1.1.1.2
  have := AnyX.takes (K := K) (fuel := fuel - is.length) hok.1.1.1.1 is hok.1.1.2 hok.1.2 hok.2 hS h
  rwa [Nat.sub_add_cancel hle] at this
theorem AnyX.done {fuel : Nat} {listed : Array Bool} {s : Sl} {w : World} (hr : ((Region.ready .any all.toArray listed).isEmpty && listed.getD x false) = true) (h : K s w) : AnyX P ro n all S K x fuel listed s w := by
  simp only [Bool.and_eq_true] at hr
  have hr' : Region.ready .any all.toArray listed = [] := List.isEmpty_iff.1 hr.1
  have hx : listed.getD x false = false → S w := fun h => by rw [hr.2] at h; cases h
  cases fuel with
  | zero => exact ⟨hx, hr', h⟩
  | succ fuel => exact ⟨hx, fun _ => h, fun i hi => by rw [hr'] at hi; cases hi⟩
theorem AnyX.one (i : Nat) {o : Oper} {fuel : Nat} {listed : Array Bool} {s : Sl} {w : World} (hr : (Nat.blt 0 fuel && (Region.ready .any all.toArray listed == [i])) = true) (ho : all[i]? = some o) (hS : S w)
    (h : Ops P ro n all [o] (fun s' w' => AnyX P ro n all S K x (fuel - 1) (listed.setIfInBounds i true) s' w') s w) : AnyX P ro n all S K x fuel listed s w := by
  simp only [Bool.and_eq_true, beq_iff_eq] at hr
  obtain ⟨hf, hr⟩ := hr
  have hf : 0 < fuel := by simpa using hf
  obtain ⟨f, rfl⟩ : ∃ f, fuel = f + 1 := ⟨fuel - 1, by omega⟩
  refine ⟨fun _ => hS, fun h0 => (by rw [hr] at h0; cases h0), fun j hj oj hoj => ?_⟩
  rw [hr] at hj
  obtain rfl : j = i := by simpa using hj
  obtain rfl : o = oj := by rw [ho] at hoj; exact Option.some.inj hoj
  rw [op1_ops] at h; exact h
theorem W.drawX {X : Ctx} {s : Sl} {ds : List Deferred} {w : World} {id : Nat} {ops : List Oper} [hm : Mixed P] (x : Nat) (S : World → Prop)
    (h : ∀ w1, Step w w1 → AnyX P ro n ops S (fun s' w' => X.nx s' ds w') x ops.length (Array.replicate ops.length false) s w1) : W P ro n (.region id ops.toArray true) X s ds w := by
  unfold W
  refine wpIn_region_any hm.h ?_
  have h1 := h { w with drawn := w.drawn + 1 } ⟨(Below.refl _ w).drew⟩
  have := AnyX.sound (ds := ds) (Q := X.post n) (fun s w hk => ⟨s, ds, rfl, hk⟩) _ _ _ _ h1
  simpa using this
end
attribute [irreducible] AnyX
end Go.Proofs.YtpbkphaceljclaaGreatDoor

/- leaf: open, line, has, own, order. -/
namespace Go.Proofs.YtpbkphaceljclaaGreatDoor
open Go.RowKit

abbrev lnV : Option Ln → Value
  | some y => encLn y
  | none => .slice none 0 0
theorem order_leaf (a b : Pl) (w : World) : Ct Tryz.prog 144 [encPl a, encPl b] w fun v _ => v = .int .i64 (cmpP a b) := by
  refine Ct.ofW (by simp) ?_
  (refine jjB ?_; refine jjC ?_)
  (refine jy rfl ?_; intro b1 w_b1 hb_b1 hs_b1 hS_b1 hk_b1; have hA_b1 := At.ofBlock hk_b1)
  skip
  (refine jy rfl ?_; intro b2 w_b2 hb_b2 hs_b2 hS_b2 hk_b2; have hA_b2 := At.ofBlock hk_b2)
  (apply jJ; exact eI rfl; refine jz ?_; refine jjB ?_)
  refine W.draw (fun w' => Ext w_b2 w') ?_
  intro w1 hS1
  (refine jjV [0, 1, 2, 3, 5, 6, 7, 8, 10, 11, 12, 13] ?_ ?_ ?_; (decide +kernel); (exact hS1.ext); (((apply jjT; exact rfl; rintro w' hq; have := hq.toStep; refine jm ?_; refine jn rfl ?_; refine jz ?_; exact ⟨rfl, rfl⟩; apply jjT; exact rfl; rintro w' hq; have := hq.toStep; refine jN rfl rfl rfl ?_; refine jz ?_; exact ⟨rfl, rfl⟩; apply jjT; exact rfl; rintro w' hq; have := hq.toStep; refine jm ?_; refine jn rfl ?_; refine jz ?_; exact ⟨rfl, rfl⟩; apply jjT; exact rfl; rintro w' hq; have := hq.toStep; refine jN rfl rfl rfl ?_; refine jz ?_; exact ⟨rfl, rfl⟩; apply jjT; exact rfl; rintro w' hq; have := hq.toStep; refine jm ?_; refine jn rfl ?_; refine jz ?_; exact ⟨rfl, rfl⟩; apply jjT; exact rfl; rintro w' hq; have := hq.toStep; refine jN rfl rfl rfl ?_; refine jz ?_; exact ⟨rfl, rfl⟩; apply jjT; exact rfl; rintro w' hq; have := hq.toStep; refine jm ?_; refine jn rfl ?_; refine jz ?_; exact ⟨rfl, rfl⟩; apply jjT; exact rfl; rintro w' hq; have := hq.toStep; refine jN rfl rfl rfl ?_; refine jz ?_; exact ⟨rfl, rfl⟩; apply jjT; exact rfl; rintro w' hq; have := hq.toStep; refine jm ?_; refine jn rfl ?_; refine jz ?_; exact ⟨rfl, rfl⟩; apply jjT; exact rfl; rintro w' hq; have := hq.toStep; refine jN rfl rfl rfl ?_; refine jz ?_; exact ⟨rfl, rfl⟩; apply jjT; exact rfl; rintro w' hq; have := hq.toStep; refine jm ?_; refine jn rfl ?_; refine jz ?_; exact ⟨rfl, rfl⟩; apply jjT; exact rfl; rintro w' hq; have := hq.toStep; refine jN rfl rfl rfl ?_; refine jz ?_; exact ⟨rfl, rfl⟩; refine jjU ?_))))
  (apply jjW 4; (decide +kernel); exact rfl; (exact hS1.ext))
  refine jjQ (Compare_int _ _ _) rfl rfl ?_
  rintro _ w2 hS2 rfl
  refine jz ?_
  (apply jjW 9; (decide +kernel); exact rfl; (exact hS1.ext.trans hS2.ext))
  refine jjQ (Compare_int _ _ _) rfl rfl ?_
  rintro _ w3 hS3 rfl
  refine jz ?_
  (apply jjW 14; (decide +kernel); exact rfl; (exact (hS1.ext.trans hS2.ext).trans hS3.ext))
  refine jjQ (Compare_int _ _ _) rfl rfl ?_
  rintro _ w4 hS4 rfl
  refine jz ?_
  have hq2 : Ext w_b2 w4 := ((hS1.ext.trans hS2.ext).trans hS3.ext).trans hS4.ext
  (apply jjW 15; (decide +kernel); exact rfl; (exact hq2))
  refine Ops.buildSlice3 (v1 := .int .i64 (cmp1 a.1 b.1)) (v2 := .int .i64 (cmp1 a.2.1 b.2.1)) (v3 := .int .i64 (cmp1 a.2.2 b.2.2)) rfl rfl rfl rfl rfl rfl rfl ?_
  intro b3 w3 hb3 hs3 hS3 hk3
  refine jz ?_
  (apply jjW 16; (decide +kernel); exact rfl; (exact hq2.trans hS3.ext))
  have hr3 : RowV w3 false 1 (.slice (some ⟨b3, 0, none⟩) 3 3) ([cmp1 a.1 b.1, cmp1 a.2.1 b.2.1, cmp1 a.2.2 b.2.2].map intV) := hk3.row (fun x hx => by simp at hx; rcases hx with rfl | rfl | rfl <;> rfl) (by simp)
  refine jjQ (Or_int _ _ _ [cmp1 a.1 b.1, cmp1 a.2.1 b.2.1, cmp1 a.2.2 b.2.2] _ rfl hr3) rfl rfl ?_
  rintro _ w4 hS4 rfl
  refine jz ?_
  (apply jjW 17; (decide +kernel); exact rfl; (exact (hq2.trans hS3.ext).trans hS4.ext))
  (apply jJ; exact eI rfl; refine jz ?_)
  refine jjX (by decide +kernel) ((hq2.trans hS3.ext).trans hS4.ext) ?_
  (refine jjF ?_; refine jB rfl rfl ⟨inferInstance, ?_⟩)
  exact rfl
theorem own_leaf (a : Option Addr) (c n : Nat) (l : List ByteArray) (q : Nat) (w : World) (hn : l.length = n) (hl : l.length ≤ 1000000) (hq : q ≤ n) (hrow : RowV w false 1 (.slice a n c) (l.map strV)) : Ct Tryz.prog 143 [.slice a n c, .int .i64 (q : Int)] w fun v _ => v = .string (l.getD q ⟨#[]⟩) := by
  subst hn
  have i0 : RowI w (.slice a l.length c) false 1 (l.map strV) := ⟨hrow⟩
  refine Ct.ofW (by simp) ?_
  by_cases e : q = l.length
  · have e2 : l.getD q ⟨#[]⟩ = ⟨#[]⟩ := by rw [List.getD_eq_getElem?_getD, List.getElem?_eq_none (by omega)]; rfl
    rw [e2]
    (refine jjB ?_; refine jjC ?_; apply jJ; exact eT rfl; refine jz ?_; refine jjB ?_; refine jjB ?_; refine jjC ?_; apply jI; exact eI rfl; apply jI; exact eS rfl; refine jh rfl ?_; refine jjh rfl rfl (by omega) ?_; refine jz ?_; refine jjJ rfl ?_; refine jjB ?_; refine jjC ?_; apply jJ; exact eT rfl; refine jz ?_; refine jjF ?_; refine jB rfl rfl ⟨inferInstance, ?_⟩)
    exact rfl
  · have hq' : q < l.length := by omega
    have e2 : l.getD q ⟨#[]⟩ = l[q] := by rw [List.getD_eq_getElem?_getD, List.getElem?_eq_getElem hq']; rfl
    rw [e2]
    (refine jjB ?_; refine jjC ?_; apply jJ; exact eT rfl; refine jz ?_; refine jjB ?_; refine jjB ?_; refine jjC ?_; apply jI; exact eI rfl; apply jI; exact eS rfl; refine jh rfl ?_; refine jji rfl rfl (by omega) ?_; refine jz ?_; refine jjK rfl ?_; refine jjG ?_; refine jjB ?_; refine jjC ?_; apply jI; exact eS rfl; apply jI; exact eI rfl; refine jF rfl rfl rfl (map_get (by omega)) ?_; intro _ _ _; refine jQ rfl rfl ?_; apply jJ; exact eT rfl; refine jz ?_; refine jjF ?_; refine jB rfl rfl ⟨inferInstance, ?_⟩)
    exact rfl

section
variable (a : Option Addr) (c : Nat) (cs : List Ch) (w : World) [hrow : RowI w (.slice a cs.length c) true 2 (cs.map encCh)] [hT : TextI w cs]
set_option maxHeartbeats 1000000 in
theorem open_leaf (hs : SmallT cs) : Ct Tryz.prog 58 [.agg #[.slice a cs.length c]] w fun v w' => ∃ o, v = .tuple #[.pointer o, .int .i64 (if textB (txF cs) then 0 else 10)] ∧ (textB (txF cs) = true → ∃ b, w.heap.size ≤ b ∧ o = some ⟨b, 0, none⟩ ∧ At w' b 0 [.slice a cs.length c]) := by
  refine Ct.ofW (by simp) ?_
  (refine jjB ?_; refine jjC ?_)
  (refine jy rfl ?_; intro b1 w_b1 hb_b1 hs_b1 hS_b1 hk_b1; have hA_b1 := At.ofBlock hk_b1)
  (apply jJ; exact eN rfl; apply jJ; exact eI rfl; refine jz ?_; refine jjB ?_; refine jjB ?_; refine jjC ?_; refine jO rfl rfl rfl rfl ?_)
  obtain ⟨B, hB⟩ : ∃ B, textB (txF cs) = B := ⟨_, rfl⟩
  refine jjQ ((Check_leaf a c cs _ hs).mono fun v _ _ h => h.trans (by rw [hB])) rfl rfl ?_
  rintro _ w2 hS2 rfl
  rw [hB]
  cases B
  · (apply jJ; exact eI rfl; refine jz ?_; refine jjB ?_; refine jjC ?_; apply jI; exact eI rfl; refine jc rfl rfl ?_; refine jz ?_; refine jjJ rfl ?_; refine jjB ?_; refine jjC ?_; apply jI; exact eI rfl; apply jJ; exact eN rfl; apply jJ; exact eI rfl; refine jz ?_; refine jjF ?_; refine jC rfl rfl rfl ⟨inferInstance, ?_⟩)
    exact ⟨_, rfl, fun h => by cases h⟩
  · (apply jJ; exact eI rfl; refine jz ?_; refine jjB ?_; refine jjC ?_; apply jI; exact eI rfl; refine jc rfl rfl ?_; refine jz ?_; refine jjK rfl ?_; refine jjG ?_; refine jjB ?_; refine jjC ?_; refine jO rfl rfl rfl rfl ?_)
    (refine jjS (cells := [.slice a cs.length c]) ?_ ?_; exact rfl)
    skip
    (refine jy rfl ?_; intro b3 w_b3 hb_b3 hs_b3 hS_b3 hk_b3; have hA_b3 := At.ofBlock hk_b3)
    (apply jJ; exact eP rfl; apply jJ; exact eI rfl; refine jz ?_; refine jjF ?_; refine jC rfl rfl rfl ⟨inferInstance, ?_⟩)
    exact ⟨_, rfl, fun _ => ⟨b3, by have := (inferInstance : Ext w w2).size; omega, rfl, inferInstance⟩⟩
set_option maxHeartbeats 4000000 in
theorem line_leaf (bb : Nat) (p : Pl) (hs : SmallT cs) [hb : At w bb 0 [.slice a cs.length c]] : Ct Tryz.prog 132 [.pointer (some ⟨bb, 0, none⟩), encPl p] w fun v _ => v = lnV (lineC cs p) := by
  have hs1 := hs.1
  obtain ⟨p1, p2, p3⟩ := p
  obtain ⟨B1, h1⟩ : ∃ B, inB 0 ((cs.length : Int) - 1) p1 = B := ⟨_, rfl⟩
  cases B1
  · rw [lineC_no1 h1]
    refine Ct.ofW (by simp) ?_
    (refine jjB ?_; refine jjC ?_)
    (refine jy rfl ?_; intro b3 w_b3 hb_b3 hs_b3 hS_b3 hk_b3; have hA_b3 := At.ofBlock hk_b3)
    (apply jJ; exact eS rfl; refine jz ?_; refine jjB ?_; refine jjB ?_)
    refine W.draw (fun w' => Ext w_b3 w') ?_
    intro w1 hS1
    have x1 := hS1.ext
    (refine jjV [0, 1, 2, 3, 4, 5, 6, 7, 8] ?_ ?_ ?_; (decide +kernel); (exact x1); (((apply jjT; exact rfl; rintro w' hq; have := hq.toStep; apply jI; exact eP rfl; refine jz ?_; exact ⟨rfl, rfl⟩; apply jjT; exact rfl; rintro w' hq; have := hq.toStep; refine jw rfl ?_; refine jz ?_; exact ⟨rfl, rfl⟩; apply jjT; exact rfl; rintro w' hq; have := hq.toStep; refine jm ?_; refine jn rfl ?_; refine jz ?_; exact ⟨rfl, rfl⟩; apply jjT; exact rfl; rintro w' hq; have := hq.toStep; refine jm ?_; refine jn rfl ?_; refine jz ?_; exact ⟨rfl, rfl⟩; apply jjT; exact rfl; rintro w' hq; have := hq.toStep; refine jN rfl rfl rfl ?_; refine jz ?_; exact ⟨rfl, rfl⟩; apply jjT; exact rfl; rintro w' hq; have := hq.toStep; refine jh rfl ?_; refine jz ?_; exact ⟨rfl, rfl⟩; apply jjT; exact rfl; rintro w' hq; have := hq.toStep; refine jZ rfl rfl (by omega) ?_; refine jz ?_; exact ⟨rfl, rfl⟩; apply jjT; exact rfl; rintro w' hq; have := hq.toStep; refine jm ?_; refine jn rfl ?_; refine jz ?_; exact ⟨rfl, rfl⟩; apply jjT; exact rfl; rintro w' hq; have := hq.toStep; refine jN rfl rfl rfl ?_; refine jz ?_; exact ⟨rfl, rfl⟩; refine jjU ?_))))
    (apply jjW 9; (decide +kernel); exact rfl; (exact x1))
    (refine jjP (v := .int _ _) rfl (by exact rfl) (by exact rfl) (by exact rfl) (by exact rfl) ?_; intro b9 w_b9 hb_b9 hs_b9 hS_b9 hk_b9; have hR_b9 := RowV.one (agg := false) (k := 1) rfl hk_b9)
    refine jz ?_
    have x2 := x1.trans hS_b9.ext
    (apply jjW 10; (decide +kernel); exact rfl; (exact x2))
    refine jjQ (inOne_leaf 0 ((cs.length : Int) - 1) p1 b9 _ _ h1 hR_b9) rfl rfl ?_
    rintro _ w4 hS4 rfl
    refine jz ?_
    have x3 := x2.trans hS4.ext
    (refine jjV [11, 12, 13, 14, 15, 16, 17, 18, 19, 20, 21, 22, 23, 24, 25, 26, 27, 28, 29, 30] ?_ ?_ ?_; (decide +kernel); (exact x3); (((apply jjT; exact rfl; rintro w' hq; have := hq.toStep; refine jq rfl ?_; refine jz ?_; exact ⟨rfl, rfl⟩; apply jjT; exact rfl; rintro w' hq; have := hq.toStep; apply jI; exact eB rfl; refine jz ?_; exact ⟨rfl, rfl⟩; apply jjT; exact rfl; rintro w' hq; have := hq.toStep; refine jU rfl rfl rfl rfl ?_; refine jz ?_; exact ⟨rfl, rfl⟩; apply jjT; exact rfl; rintro w' hq; have := hq.toStep; refine jU rfl rfl rfl rfl ?_; refine jz ?_; exact ⟨rfl, rfl⟩; apply jjT; exact rfl; rintro w' hq; have := hq.toStep; refine jU rfl rfl rfl rfl ?_; refine jz ?_; exact ⟨rfl, rfl⟩; apply jjT; exact rfl; rintro w' hq; have := hq.toStep; refine jU rfl rfl rfl rfl ?_; refine jz ?_; exact ⟨rfl, rfl⟩; apply jjT; exact rfl; rintro w' hq; have := hq.toStep; refine jU rfl rfl rfl rfl ?_; refine jz ?_; exact ⟨rfl, rfl⟩; apply jjT; exact rfl; rintro w' hq; have := hq.toStep; refine jU rfl rfl rfl rfl ?_; refine jz ?_; exact ⟨rfl, rfl⟩; apply jjT; exact rfl; rintro w' hq; have := hq.toStep; refine jU rfl rfl rfl rfl ?_; refine jz ?_; exact ⟨rfl, rfl⟩; apply jjT; exact rfl; rintro w' hq; have := hq.toStep; refine jU rfl rfl rfl rfl ?_; refine jz ?_; exact ⟨rfl, rfl⟩; apply jjT; exact rfl; rintro w' hq; have := hq.toStep; refine jU rfl rfl rfl rfl ?_; refine jz ?_; exact ⟨rfl, rfl⟩; apply jjT; exact rfl; rintro w' hq; have := hq.toStep; refine jU rfl rfl rfl rfl ?_; refine jz ?_; exact ⟨rfl, rfl⟩; apply jjT; exact rfl; rintro w' hq; have := hq.toStep; refine jU rfl rfl rfl rfl ?_; refine jz ?_; exact ⟨rfl, rfl⟩; apply jjT; exact rfl; rintro w' hq; have := hq.toStep; refine jU rfl rfl rfl rfl ?_; refine jz ?_; exact ⟨rfl, rfl⟩; apply jjT; exact rfl; rintro w' hq; have := hq.toStep; refine jU rfl rfl rfl rfl ?_; refine jz ?_; exact ⟨rfl, rfl⟩; apply jjT; exact rfl; rintro w' hq; have := hq.toStep; refine jU rfl rfl rfl rfl ?_; refine jz ?_; exact ⟨rfl, rfl⟩; apply jjT; exact rfl; rintro w' hq; have := hq.toStep; refine jU rfl rfl rfl rfl ?_; refine jz ?_; exact ⟨rfl, rfl⟩; apply jjT; exact rfl; rintro w' hq; have := hq.toStep; refine jU rfl rfl rfl rfl ?_; refine jz ?_; exact ⟨rfl, rfl⟩; apply jjT; exact rfl; rintro w' hq; have := hq.toStep; refine jU rfl rfl rfl rfl ?_; refine jz ?_; exact ⟨rfl, rfl⟩; apply jjT; exact rfl; rintro w' hq; have := hq.toStep; apply jK rfl; exact eB rfl; refine jz ?_; exact ⟨rfl, rfl⟩; refine jjU ?_))))
    refine jjX (by decide +kernel) x3 ?_
    have := x3.toStep
    (refine jjJ rfl ?_; refine jjB ?_; refine jjC ?_; apply jJ; exact eS rfl; refine jz ?_; refine jjF ?_; refine jB rfl rfl ⟨inferInstance, ?_⟩)
    exact rfl
  obtain ⟨k, hk, rfl⟩ : ∃ k : Nat, k < cs.length ∧ p1 = k := ⟨p1.toNat, by simp [inB] at h1; omega, by simp [inB] at h1; omega⟩
  obtain ⟨ba, oa, rfl, hA⟩ := hrow.h.place' (map_get hk)
  have hA1 : At w ba (oa + k * 2) [.int .i64 cs[k].1, .slice cs[k].2.1 cs[k].2.2.2.length cs[k].2.2.1] := hA
  clear hA
  have hs2 := (hs.2 _ (List.getElem_mem hk)).1
  have i1 := hT.line hk
  obtain ⟨B2, h2⟩ : ∃ B, inB 0 ((cs[k].2.2.2.length : Int) - 1) p2 = B := ⟨_, rfl⟩
  cases B2
  · rw [lineC_no2 hk h2]
    refine Ct.ofW (by simp) ?_
    (refine jjB ?_; refine jjC ?_)
    (refine jy rfl ?_; intro b3 w_b3 hb_b3 hs_b3 hS_b3 hk_b3; have hA_b3 := At.ofBlock hk_b3)
    (apply jJ; exact eS rfl; refine jz ?_; refine jjB ?_; refine jjB ?_)
    refine W.draw (fun w' => Ext w_b3 w') ?_
    intro w1 hS1
    have x1 := hS1.ext
    (refine jjV [0, 1, 2, 3, 4, 5, 6, 7, 8] ?_ ?_ ?_; (decide +kernel); (exact x1); (((apply jjT; exact rfl; rintro w' hq; have := hq.toStep; apply jI; exact eP rfl; refine jz ?_; exact ⟨rfl, rfl⟩; apply jjT; exact rfl; rintro w' hq; have := hq.toStep; refine jw rfl ?_; refine jz ?_; exact ⟨rfl, rfl⟩; apply jjT; exact rfl; rintro w' hq; have := hq.toStep; refine jm ?_; refine jn rfl ?_; refine jz ?_; exact ⟨rfl, rfl⟩; apply jjT; exact rfl; rintro w' hq; have := hq.toStep; refine jm ?_; refine jn rfl ?_; refine jz ?_; exact ⟨rfl, rfl⟩; apply jjT; exact rfl; rintro w' hq; have := hq.toStep; refine jN rfl rfl rfl ?_; refine jz ?_; exact ⟨rfl, rfl⟩; apply jjT; exact rfl; rintro w' hq; have := hq.toStep; refine jh rfl ?_; refine jz ?_; exact ⟨rfl, rfl⟩; apply jjT; exact rfl; rintro w' hq; have := hq.toStep; refine jZ rfl rfl (by omega) ?_; refine jz ?_; exact ⟨rfl, rfl⟩; apply jjT; exact rfl; rintro w' hq; have := hq.toStep; refine jm ?_; refine jn rfl ?_; refine jz ?_; exact ⟨rfl, rfl⟩; apply jjT; exact rfl; rintro w' hq; have := hq.toStep; refine jN rfl rfl rfl ?_; refine jz ?_; exact ⟨rfl, rfl⟩; refine jjU ?_))))
    (apply jjW 9; (decide +kernel); exact rfl; (exact x1))
    (refine jjP (v := .int _ _) rfl (by exact rfl) (by exact rfl) (by exact rfl) (by exact rfl) ?_; intro b9 w_b9 hb_b9 hs_b9 hS_b9 hk_b9; have hR_b9 := RowV.one (agg := false) (k := 1) rfl hk_b9)
    refine jz ?_
    have x2 := x1.trans hS_b9.ext
    (apply jjW 10; (decide +kernel); exact rfl; (exact x2))
    refine jjQ (inOne_leaf 0 ((cs.length : Int) - 1) k b9 _ _ h1 hR_b9) rfl rfl ?_
    rintro _ w4 hS4 rfl
    refine jz ?_
    have x3 := x2.trans hS4.ext
    (refine jjV [11, 12, 13, 14, 15, 16, 17, 18, 19, 20, 21, 22, 23, 24, 25, 26] ?_ ?_ ?_; (decide +kernel); (exact x3); (((apply jjT; exact rfl; rintro w' hq; have := hq.toStep; refine jp rfl ?_; refine jz ?_; exact ⟨rfl, rfl⟩; apply jjT; exact rfl; rintro w' hq; have := hq.toStep; apply jI; exact eB rfl; refine jz ?_; exact ⟨rfl, rfl⟩; apply jjT; exact rfl; rintro w' hq; have := hq.toStep; refine jT rfl rfl rfl ?_; apply jI; exact eP rfl; refine jz ?_; exact ⟨rfl, rfl⟩; apply jjT; exact rfl; rintro w' hq; have := hq.toStep; refine jT rfl rfl rfl ?_; refine jw rfl ?_; refine jz ?_; exact ⟨rfl, rfl⟩; apply jjT; exact rfl; rintro w' hq; have := hq.toStep; refine jT rfl rfl rfl ?_; refine jm ?_; refine jn rfl ?_; refine jz ?_; exact ⟨rfl, rfl⟩; apply jjT; exact rfl; rintro w' hq; have := hq.toStep; refine jT rfl rfl rfl ?_; refine jm ?_; refine jn rfl ?_; refine jz ?_; exact ⟨rfl, rfl⟩; apply jjT; exact rfl; rintro w' hq; have := hq.toStep; refine jT rfl rfl rfl ?_; refine jN rfl rfl rfl ?_; refine jz ?_; exact ⟨rfl, rfl⟩; apply jjT; exact rfl; rintro w' hq; have := hq.toStep; refine jT rfl rfl rfl ?_; refine jm ?_; refine jn rfl ?_; refine jz ?_; exact ⟨rfl, rfl⟩; apply jjT; exact rfl; rintro w' hq; have := hq.toStep; refine jT rfl rfl rfl ?_; refine jN rfl rfl rfl ?_; refine jz ?_; exact ⟨rfl, rfl⟩; apply jjT; exact rfl; rintro w' hq; have := hq.toStep; refine jT rfl rfl rfl ?_; refine jH _ rfl rfl rfl (by omega) ?_; refine jz ?_; exact ⟨rfl, rfl⟩; apply jjT; exact rfl; rintro w' hq; have := hq.toStep; refine jT rfl rfl rfl ?_; refine jm ?_; refine jn rfl ?_; refine jz ?_; exact ⟨rfl, rfl⟩; apply jjT; exact rfl; rintro w' hq; have := hq.toStep; refine jT rfl rfl rfl ?_; refine jP rfl rfl rfl ?_; refine jz ?_; exact ⟨rfl, rfl⟩; apply jjT; exact rfl; rintro w' hq; have := hq.toStep; refine jT rfl rfl rfl ?_; refine jh rfl ?_; refine jz ?_; exact ⟨rfl, rfl⟩; apply jjT; exact rfl; rintro w' hq; have := hq.toStep; refine jT rfl rfl rfl ?_; refine jZ rfl rfl (by omega) ?_; refine jz ?_; exact ⟨rfl, rfl⟩; apply jjT; exact rfl; rintro w' hq; have := hq.toStep; refine jT rfl rfl rfl ?_; refine jm ?_; refine jn rfl ?_; refine jz ?_; exact ⟨rfl, rfl⟩; apply jjT; exact rfl; rintro w' hq; have := hq.toStep; refine jT rfl rfl rfl ?_; refine jN rfl rfl rfl ?_; refine jz ?_; exact ⟨rfl, rfl⟩; refine jjU ?_))))
    (apply jjW 27; (decide +kernel); exact rfl; (exact x3))
    (refine jT rfl rfl rfl ?_)
    (refine jjP (v := .int _ _) rfl (by exact rfl) (by exact rfl) (by exact rfl) (by exact rfl) ?_; intro b27 w_b27 hb_b27 hs_b27 hS_b27 hk_b27; have hR_b27 := RowV.one (agg := false) (k := 1) rfl hk_b27)
    refine jz ?_
    have x4 := x3.trans hS_b27.ext
    (apply jjW 28; (decide +kernel); exact rfl; (exact x4))
    (refine jT rfl rfl rfl ?_)
    refine jjQ (inOne_leaf 0 ((cs[k].2.2.2.length : Int) - 1) p2 b27 _ _ h2 hR_b27) rfl rfl ?_
    rintro _ w6 hS6 rfl
    refine jz ?_
    have x5 := x4.trans hS6.ext
    (refine jjV [29, 30] ?_ ?_ ?_; (decide +kernel); (exact x5); (((apply jjT; exact rfl; rintro w' hq; have := hq.toStep; refine jT rfl rfl rfl ?_; refine jq rfl ?_; refine jz ?_; exact ⟨rfl, rfl⟩; apply jjT; exact rfl; rintro w' hq; have := hq.toStep; apply jL rfl; exact eB rfl; refine jz ?_; exact ⟨rfl, rfl⟩; refine jjU ?_))))
    refine jjX (by decide +kernel) x5 ?_
    have := x5.toStep
    (refine jjJ rfl ?_; refine jjB ?_; refine jjC ?_; apply jJ; exact eS rfl; refine jz ?_; refine jjF ?_; refine jB rfl rfl ⟨inferInstance, ?_⟩)
    exact rfl
  obtain ⟨n, hn, rfl⟩ : ∃ n : Nat, n < cs[k].2.2.2.length ∧ p2 = n := ⟨p2.toNat, by simp [inB] at h2; omega, by simp [inB] at h2; omega⟩
  obtain ⟨b3', o3, e3, hA3⟩ := i1.h.place' (map_get hn)
  rw [e3] at hA1
  rw [Nat.mul_one] at hA3
  rw [lineC_yes hk hn]
  refine Ct.ofW (by simp) ?_
  (refine jjB ?_; refine jjC ?_)
  (refine jy rfl ?_; intro b3 w_b3 hb_b3 hs_b3 hS_b3 hk_b3; have hA_b3 := At.ofBlock hk_b3)
  (apply jJ; exact eS rfl; refine jz ?_; refine jjB ?_; refine jjB ?_)
  refine W.draw (fun w' => Ext w_b3 w') ?_
  intro w1 hS1
  have x1 := hS1.ext
  (refine jjV [0, 1, 2, 3, 4, 5, 6, 7, 8] ?_ ?_ ?_; (decide +kernel); (exact x1); (((apply jjT; exact rfl; rintro w' hq; have := hq.toStep; apply jI; exact eP rfl; refine jz ?_; exact ⟨rfl, rfl⟩; apply jjT; exact rfl; rintro w' hq; have := hq.toStep; refine jw rfl ?_; refine jz ?_; exact ⟨rfl, rfl⟩; apply jjT; exact rfl; rintro w' hq; have := hq.toStep; refine jm ?_; refine jn rfl ?_; refine jz ?_; exact ⟨rfl, rfl⟩; apply jjT; exact rfl; rintro w' hq; have := hq.toStep; refine jm ?_; refine jn rfl ?_; refine jz ?_; exact ⟨rfl, rfl⟩; apply jjT; exact rfl; rintro w' hq; have := hq.toStep; refine jN rfl rfl rfl ?_; refine jz ?_; exact ⟨rfl, rfl⟩; apply jjT; exact rfl; rintro w' hq; have := hq.toStep; refine jh rfl ?_; refine jz ?_; exact ⟨rfl, rfl⟩; apply jjT; exact rfl; rintro w' hq; have := hq.toStep; refine jZ rfl rfl (by omega) ?_; refine jz ?_; exact ⟨rfl, rfl⟩; apply jjT; exact rfl; rintro w' hq; have := hq.toStep; refine jm ?_; refine jn rfl ?_; refine jz ?_; exact ⟨rfl, rfl⟩; apply jjT; exact rfl; rintro w' hq; have := hq.toStep; refine jN rfl rfl rfl ?_; refine jz ?_; exact ⟨rfl, rfl⟩; refine jjU ?_))))
  (apply jjW 9; (decide +kernel); exact rfl; (exact x1))
  (refine jjP (v := .int _ _) rfl (by exact rfl) (by exact rfl) (by exact rfl) (by exact rfl) ?_; intro b9 w_b9 hb_b9 hs_b9 hS_b9 hk_b9; have hR_b9 := RowV.one (agg := false) (k := 1) rfl hk_b9)
  refine jz ?_
  have x2 := x1.trans hS_b9.ext
  (apply jjW 10; (decide +kernel); exact rfl; (exact x2))
  refine jjQ (inOne_leaf 0 ((cs.length : Int) - 1) k b9 _ _ h1 hR_b9) rfl rfl ?_
  rintro _ w4 hS4 rfl
  refine jz ?_
  have x3 := x2.trans hS4.ext
  (refine jjV [11, 12, 13, 14, 15, 16, 17, 18, 19, 20, 21, 22, 23, 24, 25, 26] ?_ ?_ ?_; (decide +kernel); (exact x3); (((apply jjT; exact rfl; rintro w' hq; have := hq.toStep; refine jp rfl ?_; refine jz ?_; exact ⟨rfl, rfl⟩; apply jjT; exact rfl; rintro w' hq; have := hq.toStep; apply jI; exact eB rfl; refine jz ?_; exact ⟨rfl, rfl⟩; apply jjT; exact rfl; rintro w' hq; have := hq.toStep; refine jT rfl rfl rfl ?_; apply jI; exact eP rfl; refine jz ?_; exact ⟨rfl, rfl⟩; apply jjT; exact rfl; rintro w' hq; have := hq.toStep; refine jT rfl rfl rfl ?_; refine jw rfl ?_; refine jz ?_; exact ⟨rfl, rfl⟩; apply jjT; exact rfl; rintro w' hq; have := hq.toStep; refine jT rfl rfl rfl ?_; refine jm ?_; refine jn rfl ?_; refine jz ?_; exact ⟨rfl, rfl⟩; apply jjT; exact rfl; rintro w' hq; have := hq.toStep; refine jT rfl rfl rfl ?_; refine jm ?_; refine jn rfl ?_; refine jz ?_; exact ⟨rfl, rfl⟩; apply jjT; exact rfl; rintro w' hq; have := hq.toStep; refine jT rfl rfl rfl ?_; refine jN rfl rfl rfl ?_; refine jz ?_; exact ⟨rfl, rfl⟩; apply jjT; exact rfl; rintro w' hq; have := hq.toStep; refine jT rfl rfl rfl ?_; refine jm ?_; refine jn rfl ?_; refine jz ?_; exact ⟨rfl, rfl⟩; apply jjT; exact rfl; rintro w' hq; have := hq.toStep; refine jT rfl rfl rfl ?_; refine jN rfl rfl rfl ?_; refine jz ?_; exact ⟨rfl, rfl⟩; apply jjT; exact rfl; rintro w' hq; have := hq.toStep; refine jT rfl rfl rfl ?_; refine jH _ rfl rfl rfl (by omega) ?_; refine jz ?_; exact ⟨rfl, rfl⟩; apply jjT; exact rfl; rintro w' hq; have := hq.toStep; refine jT rfl rfl rfl ?_; refine jm ?_; refine jn rfl ?_; refine jz ?_; exact ⟨rfl, rfl⟩; apply jjT; exact rfl; rintro w' hq; have := hq.toStep; refine jT rfl rfl rfl ?_; refine jP rfl rfl rfl ?_; refine jz ?_; exact ⟨rfl, rfl⟩; apply jjT; exact rfl; rintro w' hq; have := hq.toStep; refine jT rfl rfl rfl ?_; refine jh rfl ?_; refine jz ?_; exact ⟨rfl, rfl⟩; apply jjT; exact rfl; rintro w' hq; have := hq.toStep; refine jT rfl rfl rfl ?_; refine jZ rfl rfl (by omega) ?_; refine jz ?_; exact ⟨rfl, rfl⟩; apply jjT; exact rfl; rintro w' hq; have := hq.toStep; refine jT rfl rfl rfl ?_; refine jm ?_; refine jn rfl ?_; refine jz ?_; exact ⟨rfl, rfl⟩; apply jjT; exact rfl; rintro w' hq; have := hq.toStep; refine jT rfl rfl rfl ?_; refine jN rfl rfl rfl ?_; refine jz ?_; exact ⟨rfl, rfl⟩; refine jjU ?_))))
  (apply jjW 27; (decide +kernel); exact rfl; (exact x3))
  (refine jT rfl rfl rfl ?_)
  (refine jjP (v := .int _ _) rfl (by exact rfl) (by exact rfl) (by exact rfl) (by exact rfl) ?_; intro b27 w_b27 hb_b27 hs_b27 hS_b27 hk_b27; have hR_b27 := RowV.one (agg := false) (k := 1) rfl hk_b27)
  refine jz ?_
  have x4 := x3.trans hS_b27.ext
  (apply jjW 28; (decide +kernel); exact rfl; (exact x4))
  (refine jT rfl rfl rfl ?_)
  refine jjQ (inOne_leaf 0 ((cs[k].2.2.2.length : Int) - 1) n b27 _ _ h2 hR_b27) rfl rfl ?_
  rintro _ w6 hS6 rfl
  refine jz ?_
  have x5 := x4.trans hS6.ext
  (refine jjV [29, 30] ?_ ?_ ?_; (decide +kernel); (exact x5); (((apply jjT; exact rfl; rintro w' hq; have := hq.toStep; refine jT rfl rfl rfl ?_; refine jp rfl ?_; refine jz ?_; exact ⟨rfl, rfl⟩; apply jjT; exact rfl; rintro w' hq; have := hq.toStep; apply jL rfl; exact eB rfl; refine jz ?_; exact ⟨rfl, rfl⟩; refine jjU ?_))))
  refine jjX (by decide +kernel) x5 ?_
  have := x5.toStep
  (refine jjK rfl ?_; refine jjG ?_; refine jjB ?_)
  refine W.draw (fun w' => Ext w_b3 w') ?_
  intro w7 hS7
  have x7 := x5.trans hS7.ext
  (refine jjV [0, 1, 2, 3, 4, 5, 6, 7, 8, 9, 10, 11, 12, 13, 14] ?_ ?_ ?_; (decide +kernel); (exact x7); (((apply jjT; exact rfl; rintro w' hq; have := hq.toStep; apply jI; exact eP rfl; refine jz ?_; exact ⟨rfl, rfl⟩; apply jjT; exact rfl; rintro w' hq; have := hq.toStep; refine jw rfl ?_; refine jz ?_; exact ⟨rfl, rfl⟩; apply jjT; exact rfl; rintro w' hq; have := hq.toStep; refine jm ?_; refine jn rfl ?_; refine jz ?_; exact ⟨rfl, rfl⟩; apply jjT; exact rfl; rintro w' hq; have := hq.toStep; refine jm ?_; refine jn rfl ?_; refine jz ?_; exact ⟨rfl, rfl⟩; apply jjT; exact rfl; rintro w' hq; have := hq.toStep; refine jN rfl rfl rfl ?_; refine jz ?_; exact ⟨rfl, rfl⟩; apply jjT; exact rfl; rintro w' hq; have := hq.toStep; refine jm ?_; refine jn rfl ?_; refine jz ?_; exact ⟨rfl, rfl⟩; apply jjT; exact rfl; rintro w' hq; have := hq.toStep; refine jN rfl rfl rfl ?_; refine jz ?_; exact ⟨rfl, rfl⟩; apply jjT; exact rfl; rintro w' hq; have := hq.toStep; refine jH _ rfl rfl rfl (by omega) ?_; refine jz ?_; exact ⟨rfl, rfl⟩; apply jjT; exact rfl; rintro w' hq; have := hq.toStep; refine jm ?_; refine jn rfl ?_; refine jz ?_; exact ⟨rfl, rfl⟩; apply jjT; exact rfl; rintro w' hq; have := hq.toStep; refine jP rfl rfl rfl ?_; refine jz ?_; exact ⟨rfl, rfl⟩; apply jjT; exact rfl; rintro w' hq; have := hq.toStep; refine jm ?_; refine jn rfl ?_; refine jz ?_; exact ⟨rfl, rfl⟩; apply jjT; exact rfl; rintro w' hq; have := hq.toStep; refine jN rfl rfl rfl ?_; refine jz ?_; exact ⟨rfl, rfl⟩; apply jjT; exact rfl; rintro w' hq; have := hq.toStep; refine jG rfl rfl rfl (by omega) ?_; refine jz ?_; exact ⟨rfl, rfl⟩; apply jjT; exact rfl; rintro w' hq; have := hq.toStep; refine jQ rfl rfl ?_; refine jz ?_; exact ⟨rfl, rfl⟩; apply jjT; exact rfl; rintro w' hq; have := hq.toStep; apply jJ; exact eS rfl; refine jz ?_; exact ⟨rfl, rfl⟩; refine jjU ?_))))
  refine jjX (by decide +kernel) x7 ?_
  have := x7.toStep
  (refine jjF ?_; refine jB rfl rfl ⟨inferInstance, ?_⟩)
  exact rfl
end
end Go.Proofs.YtpbkphaceljclaaGreatDoor

/- leaf: has; the kinds of readings. -/
namespace Go.Proofs.YtpbkphaceljclaaGreatDoor
open Go.RowKit

/-- The table of kinds of readings. -/
abbrev kindsC : List Value := [.int .i64 0, .nilFunc, .nilFunc, .int .i64 0, .func (.func 204) #[] ([] : List Value).toArray, .func (.func 205) #[] ([] : List Value).toArray, .int .i64 1, .func (.func 206) #[] ([] : List Value).toArray, .func (.func 207) #[] ([] : List Value).toArray, .int .i64 0, .func (.func 208) #[] ([] : List Value).toArray, .func (.func 209) #[] ([] : List Value).toArray]
def rgtB (kd : Int) (own put : ByteArray) : Bool := if kd = 1 then decide (put.size = 0) else if kd = 2 then wordB put else wordB put && decide (put ≠ own)
def mkL (kd : Int) (own put : ByteArray) : List ByteArray := if kd = 1 then [] else if kd = 2 then [put, own] else [put]
def behN (kd : Int) : Int := if kd = 2 then 1 else 0
theorem decide_str (s : ByteArray) : decide (s = ⟨#[]⟩) = decide (s.size = 0) := by rw [decide_eq_decide]; exact str_nil
theorem kinds1_leaf (own put : ByteArray) (w : World) : Ct Tryz.prog 204 [.string own, .string put] w fun v _ => v = .bool (rgtB 1 own put) := by
  refine Ct.ofW (by simp) ?_
  (refine jjB ?_; refine jjC ?_; apply jJ; exact eB rfl; refine jz ?_; refine jjB ?_; refine jjC ?_; apply jI; exact eT rfl)
  refine Ops.eqlS rfl rfl ?_
  (apply jJ; exact eB rfl; refine jz ?_; refine jjF ?_; refine jB rfl rfl ⟨inferInstance, ?_⟩)
  rw [rgtB, if_pos rfl, ← decide_str]; exact rfl
theorem kinds2_leaf (own put : ByteArray) (w : World) : Ct Tryz.prog 205 [.string own, .string put] w fun v w' => OwnL w' w.heap.size 9 false 1 v ((mkL 1 own put).map strV) := by
  refine Ct.ofW (by simp) ?_
  (refine jjB ?_; refine jjC ?_; apply jJ; exact eS rfl; refine jz ?_; refine jjB ?_; refine jjC ?_; apply jJ; exact eS rfl; refine jz ?_; refine jjF ?_; refine jB rfl rfl ⟨inferInstance, ?_⟩)
  exact OwnL.nil _ _ _ _ _
theorem kinds3_leaf (own put : ByteArray) (w : World) (hp : put.size ≤ 1000) : Ct Tryz.prog 206 [.string own, .string put] w fun v _ => v = .bool (rgtB 2 own put) := by
  refine Ct.ofW (by simp) ?_
  (refine jjB ?_; refine jjC ?_; apply jJ; exact eB rfl; refine jz ?_; refine jjB ?_; refine jjC ?_; apply jI; exact eT rfl)
  refine jjQ (word_leaf put _ (by omega)) rfl rfl ?_
  rintro _ w2 hS2 rfl
  (apply jJ; exact eB rfl; refine jz ?_; refine jjF ?_; refine jB rfl rfl ⟨inferInstance, ?_⟩)
  exact rfl
theorem Bk.ownS {w : World} {b B : Nat} {ws : List ByteArray} (h : Bk w b (ws.map strV) 9) (hB : B ≤ b) (hl : ws.length ≤ 1000000) : OwnL w B 9 false 1 (.slice (some ⟨b, 0, none⟩) ws.length ws.length) (ws.map strV) :=
  OwnL.ofCells h (List.length_map _) (Nat.le_refl _) (by unfold maxLen; omega) (by rw [List.take_of_length_le]; rw [List.length_map]; exact Nat.le_refl _) (by omega) hB fun x hx => by obtain ⟨y, _, rfl⟩ := List.mem_map.1 hx; rfl
theorem kinds4_leaf (own put : ByteArray) (w : World) : Ct Tryz.prog 207 [.string own, .string put] w fun v w' => OwnL w' w.heap.size 9 false 1 v ((mkL 2 own put).map strV) := by
  refine Ct.ofW (by simp) ?_
  (refine jjB ?_; refine jjC ?_; apply jJ; exact eS rfl; refine jz ?_; refine jjB ?_; refine jjC ?_; apply jI; exact eT rfl; apply jI; exact eT rfl)
  refine Ops.buildSlice2 (u := .string put) (v := .string own) rfl rfl rfl rfl rfl ?_
  intro b3 w3 hb3 hs3 hS3 hk3
  (apply jJ; exact eS rfl; refine jz ?_; refine jjF ?_; refine jB rfl rfl ⟨inferInstance, ?_⟩)
  exact Bk.ownS (ws := [put, own]) hk3 (by omega) (by simp)
theorem kinds5_leaf (own put : ByteArray) (w : World) (hp : put.size ≤ 1000) : Ct Tryz.prog 208 [.string own, .string put] w fun v _ => v = .bool (rgtB 3 own put) := by
  refine Ct.ofW (by simp) ?_
  (refine jjB ?_; refine jjC ?_; apply jJ; exact eB rfl; refine jz ?_; refine jjB ?_; refine jjC ?_; apply jI; exact eT rfl)
  obtain ⟨B, hB⟩ : ∃ B, wordB put = B := ⟨_, rfl⟩
  refine jjQ ((word_leaf put _ (by omega)).mono fun v _ _ h => h.trans (by rw [hB])) rfl rfl ?_
  rintro _ w2 hS2 rfl
  rw [rgtB, if_neg (by decide), if_neg (by decide), hB]
  cases B
  · (apply jI; exact eB rfl; refine jU rfl rfl rfl rfl ?_; refine jU rfl rfl rfl rfl ?_; refine jU rfl rfl rfl rfl ?_; apply jL rfl; exact eB rfl; apply jJ; exact eB rfl; refine jz ?_; refine jjF ?_; refine jB rfl rfl ⟨inferInstance, ?_⟩)
    exact rfl
  · (apply jI; exact eB rfl; refine jT rfl rfl rfl ?_; apply jI; exact eT rfl; refine jT rfl rfl rfl ?_; apply jI; exact eT rfl; refine jT rfl rfl rfl ?_)
    refine Ops.neqS rfl rfl ?_
    (apply jK rfl; exact eB rfl; apply jJ; exact eB rfl; refine jz ?_; refine jjF ?_; refine jB rfl rfl ⟨inferInstance, ?_⟩)
    exact rfl
theorem kinds6_leaf (own put : ByteArray) (w : World) : Ct Tryz.prog 209 [.string own, .string put] w fun v w' => OwnL w' w.heap.size 9 false 1 v ((mkL 3 own put).map strV) := by
  refine Ct.ofW (by simp) ?_
  (refine jjB ?_; refine jjC ?_; apply jJ; exact eS rfl; refine jz ?_; refine jjB ?_; refine jjC ?_; apply jI; exact eT rfl)
  (refine jjP (v := .string _) rfl (by exact rfl) (by exact rfl) (by exact rfl) (by exact rfl) ?_; intro b3 w_b3 hb_b3 hs_b3 hS_b3 hk_b3; have hR_b3 := RowV.one (agg := false) (k := 1) rfl hk_b3)
  (apply jJ; exact eS rfl; refine jz ?_; refine jjF ?_; refine jB rfl rfl ⟨inferInstance, ?_⟩)
  exact OwnL.one rfl (by omega) hk_b3
/-- What the table has for a kind. -/
theorem kindAt (kd : Int) (h : 1 ≤ kd ∧ kd ≤ 3) : ∃ (j fr fm : Nat), kd = (j : Int) ∧ j < 4 ∧ Enters Tryz.prog fr ∧ Enters Tryz.prog fm ∧ (∀ w : World, At w 1 0 kindsC → At w 1 (0 + j * 3) [.int .i64 (behN kd), .func (.func fr) #[] ([] : List Value).toArray, .func (.func fm) #[] ([] : List Value).toArray]) ∧
    (∀ (own put : ByteArray) (w : World), put.size ≤ 1000 → Ct Tryz.prog fr [.string own, .string put] w fun v _ => v = .bool (rgtB kd own put)) ∧ (∀ (own put : ByteArray) (w : World), Ct Tryz.prog fm [.string own, .string put] w fun v w' => OwnL w' w.heap.size 9 false 1 v ((mkL kd own put).map strV)) := by
  have hsd : kd = 1 ∨ kd = 2 ∨ kd = 3 := by omega
  rcases hsd with rfl | rfl | rfl
  · exact ⟨1, _, _, rfl, by omega, inferInstance, inferInstance, fun w h => (h.drop 3).pre (ds := [.int .i64 1, .func (.func 206) #[] ([] : List Value).toArray, .func (.func 207) #[] ([] : List Value).toArray, .int .i64 0, .func (.func 208) #[] ([] : List Value).toArray, .func (.func 209) #[] ([] : List Value).toArray]), fun own put w hp => kinds1_leaf own put w, fun own put w => kinds2_leaf own put w⟩
  · exact ⟨2, _, _, rfl, by omega, inferInstance, inferInstance, fun w h => (h.drop 6).pre (ds := [.int .i64 0, .func (.func 208) #[] ([] : List Value).toArray, .func (.func 209) #[] ([] : List Value).toArray]), fun own put w hp => kinds3_leaf own put w hp, fun own put w => kinds4_leaf own put w⟩
  · exact ⟨3, _, _, rfl, by omega, inferInstance, inferInstance, fun w h => h.drop 9, fun own put w hp => kinds5_leaf own put w hp, fun own put w => kinds6_leaf own put w⟩

theorem lineC_T (cs : List Ch) (p : Pl) : lineT (txF cs) p = (lineC cs p).map (·.2.2) := by
  unfold lineT lineC
  split
  · rw [txF, List.getElem?_map]
    cases cs[p.1.toNat]? with
    | none => rfl
    | some x => simp
  · rfl
theorem lineC_mem {cs : List Ch} {p : Pl} {y : Ln} (h : lineC cs p = some y) : ∃ x ∈ cs, y ∈ x.2.2.2 := by
  unfold lineC at h
  split at h
  · obtain ⟨x, hx, hxy⟩ := Option.bind_eq_some_iff.1 h
    exact ⟨x, List.mem_of_getElem? hx, List.mem_of_getElem? hxy⟩
  · cases h
theorem placeC_B (cs : List Ch) (p : Pl) : placeC cs p = placeB (txF cs) p := by
  unfold placeC placeB
  rw [lineC_T]
  cases lineC cs p <;> rfl
section
variable (a : Option Addr) (c : Nat) (cs : List Ch) (w : World) [hrow : RowI w (.slice a cs.length c) true 2 (cs.map encCh)] [hT : TextI w cs]
set_option maxHeartbeats 1000000 in
theorem has_leaf (bb : Nat) (p : Pl) (hs : SmallT cs) [hb : At w bb 0 [.slice a cs.length c]] : Ct Tryz.prog 113 [.pointer (some ⟨bb, 0, none⟩), encPl p] w fun v _ => v = .bool (placeC cs p) := by
  obtain ⟨o, ho⟩ : ∃ o, lineC cs p = o := ⟨_, rfl⟩
  have hlen : ∃ a' n' c', lnV o = .slice a' n' c' ∧ n' ≤ 1000 ∧ placeC cs p = inB 0 ((n' : Int) - 1) p.2.2 := by
    cases o with
    | none => exact ⟨none, 0, 0, rfl, by omega, by rw [placeC, ho]; simp [inB]; omega⟩
    | some y =>
      obtain ⟨x, hx, hy⟩ := lineC_mem ho
      exact ⟨_, _, _, rfl, ((hs.2 x hx).2 y hy).1, by rw [placeC, ho]⟩
  obtain ⟨a', n', c', e1, hn, e2⟩ := hlen
  rw [e2]
  obtain ⟨B, hB⟩ : ∃ B, inB 0 ((n' : Int) - 1) p.2.2 = B := ⟨_, rfl⟩
  rw [hB]
  refine Ct.ofW (by simp) ?_
  (refine jjB ?_; refine jjC ?_)
  (refine jy rfl ?_; intro b3 w_b3 hb_b3 hs_b3 hS_b3 hk_b3; have hA_b3 := At.ofBlock hk_b3)
  (apply jJ; exact eB rfl; refine jz ?_; refine jjB ?_)
  refine W.draw (fun w' => Ext w_b3 w') ?_
  intro w1 hS1
  have x1 := hS1.ext
  (refine jjV [0, 1, 5, 6] ?_ ?_ ?_; (decide +kernel); (exact x1); (((apply jjT; exact rfl; rintro w' hq; have := hq.toStep; apply jI; exact eP rfl; refine jz ?_; exact ⟨rfl, rfl⟩; apply jjT; exact rfl; rintro w' hq; have := hq.toStep; refine jO rfl rfl rfl rfl ?_; refine jz ?_; exact ⟨rfl, rfl⟩; apply jjT; exact rfl; rintro w' hq; have := hq.toStep; refine jm ?_; refine jn rfl ?_; refine jz ?_; exact ⟨rfl, rfl⟩; apply jjT; exact rfl; rintro w' hq; have := hq.toStep; refine jN rfl rfl rfl ?_; refine jz ?_; exact ⟨rfl, rfl⟩; refine jjU ?_))))
  refine jjl 2 7 (by decide +kernel) rfl rfl x1 ?_ ?_
  · refine jjQ ((line_leaf a c cs _ bb p hs).mono fun v _ _ h => h.trans (by rw [ho, e1])) rfl rfl ?_
    rintro _ w2 hS2 rfl
    refine jz ?_
    have x2 := x1.trans hS2.ext
    (refine jjV [3, 4] ?_ ?_ ?_; (decide +kernel); (exact x2); (((apply jjT; exact rfl; rintro w' hq; have := hq.toStep; refine jh rfl ?_; refine jz ?_; exact ⟨rfl, rfl⟩; apply jjT; exact rfl; rintro w' hq; have := hq.toStep; refine jZ rfl rfl (by omega) ?_; refine jz ?_; exact ⟨rfl, rfl⟩; refine jjU ?_))))
    (apply jjW 7; (decide +kernel); exact rfl; (exact x2))
    (refine jjP (v := .int _ _) rfl (by exact rfl) (by exact rfl) (by exact rfl) (by exact rfl) ?_; intro b9 w_b9 hb_b9 hs_b9 hS_b9 hk_b9; have hR_b9 := RowV.one (agg := false) (k := 1) rfl hk_b9)
    refine jz ?_
    have x3 := x2.trans hS_b9.ext
    (apply jjW 8; (decide +kernel); exact rfl; (exact x3))
    refine jjQ (inOne_leaf 0 ((n' : Int) - 1) p.2.2 b9 _ _ hB hR_b9) rfl rfl ?_
    rintro _ w4 hS4 rfl
    refine jz ?_
    have x4 := x3.trans hS4.ext
    (refine jjV [9] ?_ ?_ ?_; (decide +kernel); (exact x4); (((apply jjT; exact rfl; rintro w' hq; have := hq.toStep; apply jJ; exact eB rfl; refine jz ?_; exact ⟨rfl, rfl⟩; refine jjU ?_))))
    refine jjX (by decide +kernel) x4 ?_
    have := x4.toStep
    (refine jjF ?_; refine jB rfl rfl ⟨inferInstance, ?_⟩)
    exact rfl
  · (refine jjP (v := .int _ _) rfl (by exact rfl) (by exact rfl) (by exact rfl) (by exact rfl) ?_; intro b9 w_b9 hb_b9 hs_b9 hS_b9 hk_b9; have hR_b9 := RowV.one (agg := false) (k := 1) rfl hk_b9)
    refine jz ?_
    have x2 := x1.trans hS_b9.ext
    (apply jjW 2; (decide +kernel); exact rfl; (exact x2))
    refine jjQ ((line_leaf a c cs _ bb p hs).mono fun v _ _ h => h.trans (by rw [ho, e1])) rfl rfl ?_
    rintro _ w2 hS2 rfl
    refine jz ?_
    have x3 := x2.trans hS2.ext
    (refine jjV [3, 4] ?_ ?_ ?_; (decide +kernel); (exact x3); (((apply jjT; exact rfl; rintro w' hq; have := hq.toStep; refine jh rfl ?_; refine jz ?_; exact ⟨rfl, rfl⟩; apply jjT; exact rfl; rintro w' hq; have := hq.toStep; refine jZ rfl rfl (by omega) ?_; refine jz ?_; exact ⟨rfl, rfl⟩; refine jjU ?_))))
    (apply jjW 8; (decide +kernel); exact rfl; (exact x3))
    have hR9 := hR_b9.ext hS2.ext
    refine jjQ (inOne_leaf 0 ((n' : Int) - 1) p.2.2 b9 _ _ hB hR9) rfl rfl ?_
    rintro _ w4 hS4 rfl
    refine jz ?_
    have x4 := x3.trans hS4.ext
    (refine jjV [9] ?_ ?_ ?_; (decide +kernel); (exact x4); (((apply jjT; exact rfl; rintro w' hq; have := hq.toStep; apply jJ; exact eB rfl; refine jz ?_; exact ⟨rfl, rfl⟩; refine jjU ?_))))
    refine jjX (by decide +kernel) x4 ?_
    have := x4.toStep
    (refine jjF ?_; refine jB rfl rfl ⟨inferInstance, ?_⟩)
    exact rfl
end
end Go.Proofs.YtpbkphaceljclaaGreatDoor

/- What readings of copies and slips say; what the table of kinds holds when the call begins; a number that the library keeps. -/
namespace Go.Proofs.YtpbkphaceljclaaGreatDoor
open Go.ChangeShapes Go.WideShapes Go.ChangeAt Go.RowKit Go.WideElems

theorem okInt {P : Program} {w : World} {r : Reach} {base t : Nat} {v : Value} (hu : P.underlying t = some (.int .i64)) (h : Cell.ok P w r base t v) : ∃ m, v = .int .i64 m := by
  unfold Cell.ok at h
  rw [hu] at h
  cases v <;> first | (simp at h; done) | skip
  case int k m => exact ⟨m, by rw [h.1]⟩
set_option maxRecDepth 100000 in
theorem max_shaped {W : World} (h : W.ShapedOpen Tryz.prog) : MxI W := by
  have h0 : ((begin Tryz.prog (fun _ _ => 0) default).world.heap[2]?).bind Obj.row? = some (#[.int .i64 0], 3) := by kernel_rfl
  obtain ⟨cs, hh, hs, hr⟩ := h.1 2 _ _ (of_decide_eq_true (by kernel_rfl)) h0
  obtain ⟨ts, hts, _, hall⟩ := hr (by kernel_rfl)
  have hc : Tryz.prog.cellTypes Tryz.prog.depth 3 = some [ 3 ] := by kernel_rfl
  rw [hc] at hts
  cases hts
  have h1 : 0 < cs.size := by have : cs.size = 1 := hs; omega
  clear h0 h hr
  generalize hv0 : cs[0]'h1 = v0
  obtain ⟨u, hu', hok⟩ := hall 0 v0 (by rw [← hv0]; exact Array.getElem?_eq_getElem h1)
  have hu : u = 3 := (Option.some.inj hu').symm
  subst hu
  have hcell : W.cell? ⟨2, 0, none⟩ = some v0 := by
    unfold World.cell?
    rw [hh, ← hv0]
    exact Array.getElem?_eq_getElem h1
  have hm := okInt Tryz.underlying3 hok
  obtain ⟨m, hm⟩ := hm
  exact ⟨m, ⟨fun i v hv => by
    cases i with
    | zero =>
      have e : v = .int .i64 m := (Option.some.inj hv).symm
      rw [e, ← hm]; exact hcell
    | succ i => simp at hv⟩⟩
theorem list12 {α : Type} {l : List α} (h : l.length = 12) : ∃ a b c d e f g i j k m n, l = [a, b, c, d, e, f, g, i, j, k, m, n] := by
  match l, h with
  | [a, b, c, d, e, f, g, i, j, k, m, n], _ => exact ⟨a, b, c, d, e, f, g, i, j, k, m, n, rfl⟩
theorem int_of_trod {H : Type} {tok : TypeId × Value → H} {W : World} {n : Nat} {v : Value} {m : Int} {q : List MemPlace} (h : DataW.trod tok Tryz.prog W 0 (fun _ => true) true n 3 [v] = some (.lit (.int .i64 m), q)) : v = .int .i64 m := by
  obtain ⟨m', e, h2, _⟩ := DataW.trod_int Tryz.underlying3 h
  cases e
  simp at h2
  obtain ⟨h2, _⟩ := h2
  rw [h2]

theorem g_kinds : Tryz.prog.globalNamed "postil/leaf.kinds" = some 1 := by kernel_rfl
theorem t_kinds : (Tryz.prog.globals[1]?).map (·.type) = some 212 := by kernel_rfl
theorem kinds_laid {W : World} {laid : List (String × DataW Unit)} (h : laidMetH Tryz.prog laid W) (hx : ("postil/leaf.kinds", Rows.laid_postil_leaf_kinds) ∈ laid) : At W 1 0 kindsC := by
  obtain ⟨g, t, cs, fuel, p, hg, ht, hv, hd⟩ := laidMetH.funcs (d := .agg [.agg [.lit (.int .i64 0), .nil, .nil], .agg [.lit (.int .i64 0), .iface "func" (.lit (.string [112, 111, 115, 116, 105, 108, 47, 108, 101, 97, 102, 46, 107, 105, 110, 100, 115, 36, 49])), .iface "func" (.lit (.string [112, 111, 115, 116, 105, 108, 47, 108, 101, 97, 102, 46, 107, 105, 110, 100, 115, 36, 50]))], .agg [.lit (.int .i64 1), .iface "func" (.lit (.string [112, 111, 115, 116, 105, 108, 47, 108, 101, 97, 102, 46, 107, 105, 110, 100, 115, 36, 51])), .iface "func" (.lit (.string [112, 111, 115, 116, 105, 108, 47, 108, 101, 97, 102, 46, 107, 105, 110, 100, 115, 36, 52]))], .agg [.lit (.int .i64 0), .iface "func" (.lit (.string [112, 111, 115, 116, 105, 108, 47, 108, 101, 97, 102, 46, 107, 105, 110, 100, 115, 36, 53])), .iface "func" (.lit (.string [112, 111, 115, 116, 105, 108, 47, 108, 101, 97, 102, 46, 107, 105, 110, 100, 115, 36, 54]))]]) h hx
  obtain rfl := Option.some.inj (g_kinds.symm.trans hg)
  obtain rfl := Option.some.inj (t_kinds.symm.trans ht)
  have hd' : DataW.trod (funcToken Tryz.prog) Tryz.prog W 0 (fun _ => true) true fuel 212 cs.toList = some (.agg [.agg [.lit (.int .i64 0), .nil, .nil], .agg [.lit (.int .i64 0), .held [112, 111, 115, 116, 105, 108, 47, 108, 101, 97, 102, 46, 107, 105, 110, 100, 115, 36, 49], .held [112, 111, 115, 116, 105, 108, 47, 108, 101, 97, 102, 46, 107, 105, 110, 100, 115, 36, 50]], .agg [.lit (.int .i64 1), .held [112, 111, 115, 116, 105, 108, 47, 108, 101, 97, 102, 46, 107, 105, 110, 100, 115, 36, 51], .held [112, 111, 115, 116, 105, 108, 47, 108, 101, 97, 102, 46, 107, 105, 110, 100, 115, 36, 52]], .agg [.lit (.int .i64 0), .held [112, 111, 115, 116, 105, 108, 47, 108, 101, 97, 102, 46, 107, 105, 110, 100, 115, 36, 53], .held [112, 111, 115, 116, 105, 108, 47, 108, 101, 97, 102, 46, 107, 105, 110, 100, 115, 36, 54]]], p) := hd
  obtain ⟨xs, m, _, hxs, hl, hn, hel⟩ := DataW.trod_array Tryz.underlying212 hd'
  have kT : Tryz.prog.cellsOf 212 = 12 := by kernel_rfl
  have kE : Tryz.prog.cellsOf 211 = 3 := by kernel_rfl
  have kI : Tryz.prog.cellsOf 3 = 1 := by kernel_rfl
  have kF : Tryz.prog.cellsOf 209 = 1 := by kernel_rfl
  have kG : Tryz.prog.cellsOf 171 = 1 := by kernel_rfl
  obtain ⟨c0, c1, c2, c3, c4, c5, c6, c7, c8, c9, ca, cb, ecs⟩ := list12 (l := cs.toList) (by simpa [kT] using hl)
  rw [ecs] at hel
  simp only [Prod.mk.injEq, DataW.agg.injEq] at hxs
  have key : ∀ (i : Nat) (u0 u1 u2 : Value) (b0 b1 b2 : DataW (List UInt8)), i < 4 → (([c0, c1, c2, c3, c4, c5, c6, c7, c8, c9, ca, cb].drop (i * 3)).take 3) = [u0, u1, u2] → (xs.map (·.1))[i]? = some (.agg [b0, b1, b2]) →
      (∃ n q, DataW.trod (funcToken Tryz.prog) Tryz.prog W 0 (fun _ => true) true n 3 [u0] = some (b0, q)) ∧ (∃ n q, DataW.trod (funcToken Tryz.prog) Tryz.prog W 0 (fun _ => true) true n 209 [u1] = some (b1, q)) ∧ ∃ n q, DataW.trod (funcToken Tryz.prog) Tryz.prog W 0 (fun _ => true) true n 171 [u2] = some (b2, q) := fun i u0 u1 u2 b0 b1 b2 hi hc hb => by
    have h0 := hel i hi
    rw [kE, hc] at h0
    rw [List.getElem?_map] at hb
    obtain ⟨x, hx1, hx2⟩ := Option.map_eq_some_iff.1 hb
    rw [hx1] at h0
    obtain ⟨y0, y1, y2, n, e, _, h1, h2, h3⟩ := Deep.trod_struct3 Tryz.underlying211 h0
    rw [e] at hx2
    simp only [DataW.agg.injEq, List.cons.injEq, and_true] at hx2
    obtain ⟨y01, y02⟩ := y0
    obtain ⟨y11, y12⟩ := y1
    obtain ⟨y21, y22⟩ := y2
    simp only at hx2
    obtain ⟨rfl, rfl, rfl⟩ := hx2
    exact ⟨⟨n, y02, by simpa [kI] using h1⟩, ⟨n, y12, by simpa [kF] using h2⟩, ⟨n, y22, by simpa [kG] using h3⟩⟩
  obtain ⟨⟨_, _, i0⟩, ⟨_, _, f0⟩, ⟨_, _, g0⟩⟩ := key 0 c0 c1 c2 (.lit (.int .i64 0)) .nil .nil (by omega) rfl (by rw [← hxs.1]; rfl)
  obtain ⟨⟨_, _, i1⟩, ⟨_, _, f1⟩, ⟨_, _, g1⟩⟩ := key 1 c3 c4 c5 (.lit (.int .i64 0)) (.held [112, 111, 115, 116, 105, 108, 47, 108, 101, 97, 102, 46, 107, 105, 110, 100, 115, 36, 49]) (.held [112, 111, 115, 116, 105, 108, 47, 108, 101, 97, 102, 46, 107, 105, 110, 100, 115, 36, 50]) (by omega) rfl (by rw [← hxs.1]; rfl)
  obtain ⟨⟨_, _, i2⟩, ⟨_, _, f2⟩, ⟨_, _, g2⟩⟩ := key 2 c6 c7 c8 (.lit (.int .i64 1)) (.held [112, 111, 115, 116, 105, 108, 47, 108, 101, 97, 102, 46, 107, 105, 110, 100, 115, 36, 51]) (.held [112, 111, 115, 116, 105, 108, 47, 108, 101, 97, 102, 46, 107, 105, 110, 100, 115, 36, 52]) (by omega) rfl (by rw [← hxs.1]; rfl)
  obtain ⟨⟨_, _, i3⟩, ⟨_, _, f3⟩, ⟨_, _, g3⟩⟩ := key 3 c9 ca cb (.lit (.int .i64 0)) (.held [112, 111, 115, 116, 105, 108, 47, 108, 101, 97, 102, 46, 107, 105, 110, 100, 115, 36, 53]) (.held [112, 111, 115, 116, 105, 108, 47, 108, 101, 97, 102, 46, 107, 105, 110, 100, 115, 36, 54]) (by omega) rfl (by rw [← hxs.1]; rfl)
  obtain rfl := int_of_trod i0
  obtain rfl := int_of_trod i1
  obtain rfl := int_of_trod i2
  obtain rfl := int_of_trod i3
  obtain rfl := nilf_of_trod Tryz.underlying209 f0
  obtain rfl := nilf_of_trod Tryz.underlying171 g0
  obtain rfl := func_of_trod (f0 := 204) Tryz.underlying209 (by kernel_rfl) f1
  obtain rfl := func_of_trod (f0 := 205) Tryz.underlying171 (by kernel_rfl) g1
  obtain rfl := func_of_trod (f0 := 206) Tryz.underlying209 (by kernel_rfl) f2
  obtain rfl := func_of_trod (f0 := 207) Tryz.underlying171 (by kernel_rfl) g2
  obtain rfl := func_of_trod (f0 := 208) Tryz.underlying209 (by kernel_rfl) f3
  obtain rfl := func_of_trod (f0 := 209) Tryz.underlying171 (by kernel_rfl) g3
  have ecs' : cs = (kindsC).toArray := Array.ext' (by rw [ecs])
  subst ecs'
  exact ⟨fun i v hv' => by have := World.var?_cell hg hv i; rw [Nat.zero_add, this]; simpa using hv'⟩
end Go.Proofs.YtpbkphaceljclaaGreatDoor

/- Readings of numbers of 16 and of 8 bits. -/
namespace Go.Proofs.YtpbkphaceljclaaGreatDoor
open Go.ChangeShapes Go.WideShapes Go.ChangeAt Go.RowKit
set_option maxRecDepth 100000 in
theorem read_u16 {H : Type} {enc : TypeId × Value → H} {W : World} {base : Nat} {v : Value} {d : DataW H} {p : List MemPlace} (hv : Value.okWide Tryz.prog W .any base 40 v) (h : DataW.Trod enc Tryz.prog W 0 (fun _ => true) true 40 v d p) :
    ∃ m : Nat, v = .int .u16 (m : Int) ∧ m ≤ 65535 := by
  obtain ⟨x, rfl⟩ := okWide_int Tryz.underlying40 hv
  obtain ⟨n, hn⟩ := h
  obtain ⟨m, e, _, hr⟩ := DataW.trod_int Tryz.underlying40 hn
  cases e
  simp only [Lit.wf, Bool.and_eq_true, decide_eq_true_eq] at hr
  have m1 : IntKind.u16.min = 0 := by decide
  have m2 : IntKind.u16.max = 65535 := by decide
  rw [m1, m2] at hr
  exact ⟨x.toNat, congrArg (Value.int .u16) (by omega), by omega⟩
end Go.Proofs.YtpbkphaceljclaaGreatDoor

/- Plain law: runs of words, contexts, the longest context. -/
namespace Go.Proofs.YtpbkphaceljclaaGreatDoor
open Go.RowKit

/-! ### Words and places of a chapter -/
def lnP (k n : Nat) (q : Nat) : List Pl := (List.range q).map fun (w : Nat) => ((k : Int), (n : Int), (w : Int))
def runAn (k : Nat) (x : List (List ByteArray)) (n : Nat) : List Pl := (List.range n).flatMap fun i => lnP k i (x.getD i []).length
def runA (k : Nat) (x : List (List ByteArray)) : List Pl := runAn k x x.length
theorem lnP_succ (k n q : Nat) : lnP k n (q + 1) = lnP k n q ++ [((k : Int), (n : Int), (q : Int))] := by simp [lnP, List.range_succ]
theorem lnP_len (k n q : Nat) : (lnP k n q).length = q := by simp [lnP]
theorem runAn_succ (k : Nat) {x : List (List ByteArray)} {n : Nat} {y : List ByteArray} (h : x[n]? = some y) : runAn k x (n + 1) = runAn k x n ++ lnP k n y.length := by
  simp [runAn, List.range_succ, List.getD_eq_getElem?_getD, h]
theorem runAn_len (k : Nat) {x : List (List ByteArray)} : ∀ {n : Nat}, n ≤ x.length → (runAn k x n).length = (x.take n).flatten.length
  | 0, _ => by simp [runAn]
  | n + 1, h => by
    have hg : x[n]? = some x[n] := List.getElem?_eq_getElem (by omega)
    rw [runAn_succ k hg, take_snoc_get hg, List.length_append, runAn_len k (by omega), lnP_len, List.flatten_append, List.length_append, List.flatten_singleton]
theorem runA_len (k : Nat) (x : List (List ByteArray)) : (runA k x).length = x.flatten.length := by
  rw [runA, runAn_len k (Nat.le_refl _), List.take_length]
theorem flatW_len {m : Nat} : ∀ {x : List (List ByteArray)}, (∀ y ∈ x, y.length ≤ m) → x.flatten.length ≤ x.length * m
  | [], _ => by simp
  | y :: x, h => by
    have := flatW_len (x := x) fun z hz => h z (by simp [hz])
    have := h y (by simp)
    rw [List.flatten_cons, List.length_append, List.length_cons, Nat.add_mul]
    omega
theorem flat_take {m n : Nat} {x : List (List ByteArray)} (h : ∀ y ∈ x, y.length ≤ m) (hn : n ≤ 1000) : (x.take n).flatten.length ≤ 1000 * m := by
  have h1 := flatW_len (x := x.take n) (m := m) fun y hy => h y (List.mem_of_mem_take hy)
  have h2 : (x.take n).length ≤ 1000 := by rw [List.length_take]; omega
  exact Nat.le_trans h1 (Nat.mul_le_mul_right _ h2)
theorem flat_step {x : List (List ByteArray)} {n q : Nat} {y : List ByteArray} {s : ByteArray} (h : y[q]? = some s) : ((x.take n).flatten ++ y.take q) ++ [s] = (x.take n).flatten ++ y.take (q + 1) := by
  rw [take_snoc_get h, List.append_assoc]
theorem flat_next {x : List (List ByteArray)} {n : Nat} {y : List ByteArray} (h : x[n]? = some y) : (x.take n).flatten ++ y = (x.take (n + 1)).flatten := by
  rw [take_snoc_get h]; simp

/-! ### Lengths -/
abbrev Cx := Nat × Nat
def preW (ws : List ByteArray) (k : Nat) : Nat := ((ws.take k).map fun s => s.size + 1).sum
theorem preW_succ {ws : List ByteArray} {k : Nat} (h : k < ws.length) : preW ws (k + 1) = preW ws k + ws[k].size + 1 := by
  rw [preW, preW, take_snoc_get (List.getElem?_eq_getElem h), List.map_append, List.sum_append]; simp only [List.map_cons, List.map_nil, List.sum_cons, List.sum_nil]; omega
theorem preW_mono {ws : List ByteArray} {a b : Nat} (h : a ≤ b) (hb : b ≤ ws.length) : preW ws a + (b - a) ≤ preW ws b := by
  obtain ⟨d, rfl⟩ : ∃ d, b = a + d := ⟨b - a, by omega⟩
  induction d with
  | zero => simp
  | succ d ih =>
    have := ih (by omega) (by omega)
    rw [← Nat.add_assoc, preW_succ (by omega)]
    omega
theorem preW_le {ws : List ByteArray} {m : Nat} (h : ∀ s ∈ ws, s.size ≤ m) : ∀ {k : Nat}, k ≤ ws.length → preW ws k ≤ k * (m + 1)
  | 0, _ => by simp [preW]
  | k + 1, hk => by
    rw [preW_succ hk, Nat.add_mul]
    have := preW_le h (k := k) (by omega)
    have := h _ (List.getElem_mem hk)
    omega
/-- The length of the words from one to another one, with spaces. -/
def lenX (ws : List ByteArray) (x : Cx) : Int := (preW ws (x.2 + 1) : Int) - preW ws x.1 - 1
theorem lenX_to {ws : List ByteArray} {a b : Nat} (h : b + 1 < ws.length) : lenX ws (a, b + 1) = lenX ws (a, b) + (ws[b + 1].size + 1) := by
  simp only [lenX]; rw [preW_succ h]; omega
theorem lenX_from {ws : List ByteArray} {a b : Nat} (h : a < ws.length) : lenX ws (a, b) = lenX ws (a + 1, b) + (ws[a].size + 1) := by
  simp only [lenX]; rw [preW_succ h]; omega
theorem lenX_self {ws : List ByteArray} {a : Nat} (h : a < ws.length) : lenX ws (a, a) = ws[a].size := by
  simp only [lenX]; rw [preW_succ h]; omega
theorem lenX_mono {ws : List ByteArray} {a b a' b' : Nat} (ha : a' ≤ a) (hb : b ≤ b') (hl : b' < ws.length) (hab : a ≤ b) : lenX ws (a, b) ≤ lenX ws (a', b') := by
  simp only [lenX]
  have := preW_mono (ws := ws) ha (by omega)
  have := preW_mono (ws := ws) (a := b + 1) (b := b' + 1) (by omega) (by omega)
  omega
theorem lenX_inj {ws : List ByteArray} {a b b' : Nat} (hb : b < ws.length) (hb' : b' < ws.length) (h : lenX ws (a, b) = lenX ws (a, b')) : b = b' := by
  simp only [lenX] at h
  rcases Nat.lt_trichotomy b b' with hl | he | hl
  · have := preW_mono (ws := ws) (a := b + 1) (b := b' + 1) (by omega) (by omega); omega
  · exact he
  · have := preW_mono (ws := ws) (a := b' + 1) (b := b + 1) (by omega) (by omega); omega
theorem lenX_bound {ws : List ByteArray} {a b : Nat} (hs : ∀ s ∈ ws, s.size ≤ 1000) (hn : ws.length ≤ 1000000) (hab : a ≤ b) (hb : b < ws.length) : 0 ≤ lenX ws (a, b) ∧ lenX ws (a, b) ≤ 1001000000 := by
  have h1 := preW_le hs (k := b + 1) (by omega)
  have h2 := preW_mono (ws := ws) (a := a) (b := b + 1) (by omega) (by omega)
  simp only [lenX]
  have : (b + 1) * 1001 ≤ 1000000 * 1001 := Nat.mul_le_mul_right _ (by omega)
  omega

/-! ### The order of contexts -/
def unE (i : Nat) (x : Cx) : Int := max ((i : Int) - x.1 - ((x.2 : Int) - i)) (-((i : Int) - x.1 - ((x.2 : Int) - i)))
def sdI (side : Int) (i : Nat) (x y : Cx) : Int := if side = 1 then (x.1 : Int) - y.1 else if side = 2 then (y.1 : Int) - x.1 else orF [unE i x - unE i y, (y.1 : Int) - x.1]
def ordI (ws : List ByteArray) (side : Int) (i : Nat) (x y : Cx) : Int := orF [lenX ws y - lenX ws x, sdI side i x y]
theorem orF_1 (a : Int) : orF [a] = a := by unfold orF orF; split <;> omega
theorem orF_2 (a b : Int) : orF [a, b] = if a = 0 then b else a := by rw [orF, orF_1]
theorem ordI_lt (ws : List ByteArray) (side : Int) (i : Nat) (x y : Cx) : ordI ws side i x y < 0 ↔ lenX ws y < lenX ws x ∨ lenX ws y = lenX ws x ∧ sdI side i x y < 0 := by
  rw [ordI, orF_2]; split <;> omega
theorem sdI_lt (side : Int) (i : Nat) (x y : Cx) : sdI side i x y < 0 ↔ (side = 1 ∧ x.1 < y.1) ∨ (side ≠ 1 ∧ side = 2 ∧ y.1 < x.1) ∨ (side ≠ 1 ∧ side ≠ 2 ∧ (unE i x < unE i y ∨ unE i x = unE i y ∧ y.1 < x.1)) := by
  unfold sdI
  split
  · omega
  · split
    · omega
    · rw [orF_2]; split <;> omega
theorem ordI_trans {ws : List ByteArray} {side : Int} {i : Nat} {x y z : Cx} (h1 : ordI ws side i x y < 0) (h2 : ordI ws side i y z < 0) : ordI ws side i x z < 0 := by
  rw [ordI_lt, sdI_lt] at *
  omega
theorem ordI_asymm {ws : List ByteArray} {side : Int} {i : Nat} {x y : Cx} (h1 : ordI ws side i x y < 0) (h2 : ordI ws side i y x < 0) : False := by
  rw [ordI_lt, sdI_lt] at *
  omega
theorem ordI_total {ws : List ByteArray} {side : Int} {i : Nat} {x y : Cx} (hx : x.2 < ws.length) (hy : y.2 < ws.length) (hne : x ≠ y) : ordI ws side i x y < 0 ∨ ordI ws side i y x < 0 := by
  by_cases he : x.1 = y.1
  · have : lenX ws x ≠ lenX ws y := fun h => by
      obtain ⟨a, b⟩ := x
      obtain ⟨a', b'⟩ := y
      simp only at he
      subst he
      exact hne (congrArg _ (lenX_inj hx hy h))
    rw [ordI_lt, ordI_lt]; omega
  · rw [ordI_lt, ordI_lt, sdI_lt, sdI_lt]
    omega

/-! ### The first of a list -/
def bestS (o : Cx → Cx → Int) (b : Option Cx) (x : Cx) : Option Cx := match b with
  | none => some x
  | some y => if o x y < 0 then some x else some y
def fstF (o : Cx → Cx → Int) (l : List Cx) : Option Cx := l.foldl (bestS o) none
def bestR (o : Cx → Cx → Int) (b x : Cx) : Cx := if o x b < 0 then x else b
theorem foldl_some (o : Cx → Cx → Int) : ∀ (l : List Cx) (b : Cx), l.foldl (bestS o) (some b) = some (l.foldl (bestR o) b)
  | [], _ => rfl
  | x :: l, b => by
    rw [List.foldl_cons, List.foldl_cons]
    have : bestS o (some b) x = some (bestR o b x) := by simp only [bestS, bestR]; split <;> rfl
    rw [this, foldl_some o l]
def IsMin (o : Cx → Cx → Int) (l : List Cx) (m : Cx) : Prop := m ∈ l ∧ ∀ y ∈ l, y = m ∨ o m y < 0
theorem foldl_min (o : Cx → Cx → Int) (ht : ∀ x y z, o x y < 0 → o y z < 0 → o x z < 0) : ∀ (l : List Cx) (b : Cx), (∀ x ∈ b :: l, ∀ y ∈ b :: l, x ≠ y → o x y < 0 ∨ o y x < 0) → IsMin o (b :: l) (l.foldl (bestR o) b)
  | [], b, _ => ⟨by simp, fun y hy => by simp at hy; exact .inl hy⟩
  | x :: l, b, hT => by
    rw [List.foldl_cons]
    have hsub : ∀ z, z ∈ bestR o b x :: l → z ∈ b :: x :: l := fun z hz => by
      rcases List.mem_cons.1 hz with rfl | hz
      · unfold bestR; split <;> simp
      · simp [hz]
    obtain ⟨h1, h2⟩ := foldl_min o ht l (bestR o b x) fun u hu v hv => hT u (hsub u hu) v (hsub v hv)
    generalize l.foldl (bestR o) (bestR o b x) = m at h1 h2
    refine ⟨hsub _ h1, fun y hy => ?_⟩
    have hb : bestR o b x = m ∨ o m (bestR o b x) < 0 := h2 _ (by simp)
    have key : y = bestR o b x ∨ o (bestR o b x) y < 0 ∨ y ∈ l := by
      rcases List.mem_cons.1 hy with rfl | hy
      · by_cases e : x = y
        · subst e; left; unfold bestR; split <;> rfl
        · unfold bestR
          split
          · exact .inr (.inl ‹_›)
          · exact .inl rfl
      · rcases List.mem_cons.1 hy with rfl | hy
        · by_cases e : y = b
          · subst e; left; unfold bestR; split <;> rfl
          · unfold bestR
            split
            · exact .inl rfl
            · rename_i hn
              rcases hT y (by simp) b (by simp) e with h | h
              · exact absurd h hn
              · exact .inr (.inl h)
        · exact .inr (.inr hy)
    rcases key with rfl | h | h
    · rcases hb with e | h
      · exact .inl e
      · exact .inr h
    · rcases hb with e | h'
      · rw [← e]; exact .inr h
      · exact .inr (ht _ _ _ h' h)
    · exact h2 _ (by simp [h])
theorem min_unique {o : Cx → Cx → Int} (ha : ∀ x y, o x y < 0 → o y x < 0 → False) {l l' : List Cx} {m m' : Cx} (h : IsMin o l m) (h' : IsMin o l' m') (e : ∀ x, x ∈ l ↔ x ∈ l') : m = m' := by
  rcases h.2 m' ((e _).2 h'.1) with h1 | h1
  · exact h1.symm
  · rcases h'.2 m ((e _).1 h.1) with h2 | h2
    · exact h2
    · exact (ha _ _ h1 h2).elim

/-! ### Contexts -/
def okX (ws : List ByteArray) (W : Int) (x : Cx) : Bool := decide (lenX ws x ≤ W)
def ctxTo (ws : List ByteArray) (i : Nat) (W : Int) (a m : Nat) : List Cx := ((List.range m).map fun t => (a, i + t)).filter (okX ws W)
def ctxN (ws : List ByteArray) (i : Nat) (W : Int) (f : Nat) : List Cx := (List.range f).flatMap fun j => ctxTo ws i W (i - j) (ws.length - i)
def ctxA (ws : List ByteArray) (i : Nat) (W : Int) : List Cx := ctxN ws i W (i + 1)
theorem range_split {j m : Nat} (h : j < m) : ∃ r, List.range m = List.range j ++ j :: r := by
  refine ⟨(List.range m).drop (j + 1), ?_⟩
  have h1 := List.take_append_drop j (List.range m)
  rw [List.take_range, Nat.min_eq_left (by omega)] at h1
  rw [List.drop_eq_getElem_cons (by simpa using h), List.getElem_range] at h1
  exact h1.symm
theorem ctxTo_succ (ws : List ByteArray) (i : Nat) (W : Int) (a t : Nat) : ctxTo ws i W a (t + 1) = ctxTo ws i W a t ++ (if okX ws W (a, i + t) then [(a, i + t)] else []) := by
  simp only [ctxTo, List.range_succ, List.map_append, List.filter_append, List.map_cons, List.map_nil]
  congr 1
  by_cases h : okX ws W (a, i + t) = true
  · rw [if_pos h]; simp [h]
  · rw [if_neg h]; simp [h]
theorem ctxTo_split (ws : List ByteArray) (i : Nat) (W : Int) (a : Nat) {t m : Nat} (h : t < m) (hok : okX ws W (a, i + t) = true) : ∃ r, ctxTo ws i W a m = ctxTo ws i W a t ++ (a, i + t) :: r := by
  obtain ⟨r, hr⟩ := range_split h
  refine ⟨(r.map fun t => (a, i + t)).filter (okX ws W), ?_⟩
  rw [ctxTo, hr, List.map_append, List.filter_append, List.map_cons, List.filter_cons_of_pos hok]; rfl
theorem ctx_get {ws : List ByteArray} {i : Nat} {W : Int} {j t : Nat} (hj : j ≤ i) (ht : i + t < ws.length) (hok : lenX ws (i - j, i + t) ≤ W) :
    (ctxA ws i W)[(ctxN ws i W j ++ ctxTo ws i W (i - j) t).length]? = some (i - j, i + t) := by
  obtain ⟨r, hr⟩ := range_split (j := j) (m := i + 1) (by omega)
  obtain ⟨q, hq⟩ := ctxTo_split ws i W (i - j) (t := t) (m := ws.length - i) (by omega) (decide_eq_true hok)
  have : ctxA ws i W = (ctxN ws i W j ++ ctxTo ws i W (i - j) t) ++ (i - j, i + t) :: (q ++ r.flatMap fun j => ctxTo ws i W (i - j) (ws.length - i)) := by
    rw [ctxA, ctxN, hr, List.flatMap_append, List.flatMap_cons, hq]
    simp [ctxN]
  rw [this]
  simp
theorem ctxTo_stop {ws : List ByteArray} {i : Nat} {W : Int} {a : Nat} (hai : a ≤ i) {t m : Nat} (hm : i + m ≤ ws.length) (htm : t ≤ m) (h : W < lenX ws (a, i + t)) : ctxTo ws i W a m = ctxTo ws i W a t := by
  obtain ⟨d, rfl⟩ : ∃ d, m = t + d := ⟨m - t, by omega⟩
  induction d with
  | zero => rfl
  | succ d ih =>
    rw [← Nat.add_assoc, ctxTo_succ, ih (by omega) (by omega), if_neg, List.append_nil]
    have := lenX_mono (ws := ws) (a := a) (a' := a) (b := i + t) (b' := i + (t + d)) (Nat.le_refl _) (by omega) (by omega) (by omega)
    simp only [okX, decide_eq_true_eq]; omega
theorem ctxN_succ (ws : List ByteArray) (i : Nat) (W : Int) (j : Nat) : ctxN ws i W (j + 1) = ctxN ws i W j ++ ctxTo ws i W (i - j) (ws.length - i) := by
  simp [ctxN, List.range_succ]
theorem ctxN_stop {ws : List ByteArray} {i : Nat} {W : Int} {j m : Nat} (hi : i < ws.length) (hjm : j ≤ m) (h : W < lenX ws (i - j, i)) : ctxN ws i W m = ctxN ws i W j := by
  obtain ⟨d, rfl⟩ : ∃ d, m = j + d := ⟨m - j, by omega⟩
  induction d with
  | zero => rfl
  | succ d ih =>
    have h0 : ctxTo ws i W (i - (j + d)) (ws.length - i) = ctxTo ws i W (i - (j + d)) 0 := by
      refine ctxTo_stop (by omega) (by omega) (by omega) ?_
      have := lenX_mono (ws := ws) (a := i - j) (a' := i - (j + d)) (b := i) (b' := i) (by omega) (Nat.le_refl _) hi (by omega)
      rw [Nat.add_zero]; omega
    rw [← Nat.add_assoc, ctxN_succ, ih (by omega), h0]
    simp [ctxTo]
theorem mem_ctxTo {ws : List ByteArray} {i : Nat} {W : Int} {a m : Nat} {x : Cx} : x ∈ ctxTo ws i W a m ↔ x.1 = a ∧ i ≤ x.2 ∧ x.2 < i + m ∧ lenX ws x ≤ W := by
  simp only [ctxTo, List.mem_filter, List.mem_map, List.mem_range, okX, decide_eq_true_eq]
  constructor
  · rintro ⟨⟨t, ht, rfl⟩, h⟩; exact ⟨rfl, by simp, by simp; omega, h⟩
  · rintro ⟨rfl, h1, h2, h3⟩
    exact ⟨⟨x.2 - i, by omega, by ext <;> simp; omega⟩, h3⟩
theorem mem_ctxA {ws : List ByteArray} {i : Nat} {W : Int} {x : Cx} (hi : i < ws.length) : x ∈ ctxA ws i W ↔ x.1 ≤ i ∧ i ≤ x.2 ∧ x.2 < ws.length ∧ lenX ws x ≤ W := by
  simp only [ctxA, ctxN, List.mem_flatMap, List.mem_range, mem_ctxTo]
  constructor
  · rintro ⟨j, hj, h1, h2, h3, h4⟩; exact ⟨by omega, h2, by omega, h4⟩
  · rintro ⟨h1, h2, h3, h4⟩; exact ⟨i - x.1, by omega, by omega, h2, by omega, h4⟩
/-- The reference's contexts, in its order. -/
def refN (ws : List ByteArray) (i : Nat) (W : Int) (f : Nat) : List Cx := (List.range f).flatMap fun a => ctxTo ws i W a (ws.length - i)
def refA (ws : List ByteArray) (i : Nat) (W : Int) : List Cx := refN ws i W (i + 1)
theorem mem_refA {ws : List ByteArray} {i : Nat} {W : Int} {x : Cx} (hi : i < ws.length) : x ∈ refA ws i W ↔ x.1 ≤ i ∧ i ≤ x.2 ∧ x.2 < ws.length ∧ lenX ws x ≤ W := by
  simp only [refA, refN, List.mem_flatMap, List.mem_range, mem_ctxTo]
  constructor
  · rintro ⟨j, hj, h1, h2, h3, h4⟩; exact ⟨by omega, h2, by omega, h4⟩
  · rintro ⟨h1, h2, h3, h4⟩; exact ⟨x.1, by omega, rfl, h2, by omega, h4⟩
def bestA (ws : List ByteArray) (side W : Int) (i : Nat) : Cx := (refA ws i W).foldl (bestR (ordI ws side i)) (i, i)
/-- The law: the first of the code's contexts is the reference's. -/
theorem fst_best {ws : List ByteArray} {side W : Int} {i : Nat} (hi : i < ws.length) (hW : (ws[i].size : Int) ≤ W) : fstF (ordI ws side i) (ctxA ws i W) = some (bestA ws side W i) := by
  have hself : lenX ws (i, i) ≤ W := by rw [lenX_self hi]; exact hW
  have hne : ctxA ws i W ≠ [] := fun h => by
    have : (i, i) ∈ ctxA ws i W := (mem_ctxA hi).2 ⟨Nat.le_refl _, Nat.le_refl _, hi, hself⟩
    rw [h] at this; cases this
  obtain ⟨c, cs, hc⟩ := List.exists_cons_of_ne_nil hne
  rw [fstF, hc, List.foldl_cons, show bestS (ordI ws side i) none c = some c from rfl, foldl_some]
  congr 1
  have ht : ∀ x y z, ordI ws side i x y < 0 → ordI ws side i y z < 0 → ordI ws side i x z < 0 := fun _ _ _ => ordI_trans
  have m1 := foldl_min (ordI ws side i) ht cs c fun x hx y hy hne => by
    rw [← hc, mem_ctxA hi] at hx hy
    exact ordI_total hx.2.2.1 hy.2.2.1 hne
  have hin : ∀ x, x ∈ (i, i) :: refA ws i W ↔ x ∈ ctxA ws i W := fun x => by
    rw [List.mem_cons, mem_refA hi, mem_ctxA hi]
    constructor
    · rintro (rfl | h)
      · exact ⟨Nat.le_refl _, Nat.le_refl _, hi, hself⟩
      · exact h
    · exact .inr
  have m2 := foldl_min (ordI ws side i) ht (refA ws i W) (i, i) fun x hx y hy hne => by
    rw [hin, mem_ctxA hi] at hx hy
    exact ordI_total hx.2.2.1 hy.2.2.1 hne
  refine min_unique (fun _ _ => ordI_asymm) m1 m2 fun x => ?_
  rw [← hc, hin]
end Go.Proofs.YtpbkphaceljclaaGreatDoor

/- Plain law: places of a chapter, lengths of parts of it, its slips. -/
namespace Go.Proofs.YtpbkphaceljclaaGreatDoor
open Go.RowKit

theorem runA_nodup (k : Nat) (x : List (List ByteArray)) : (runA k x).Nodup := by
  unfold runA runAn List.Nodup
  rw [List.pairwise_flatMap]
  refine ⟨fun i _ => ?_, ?_⟩
  · refine List.pairwise_map.2 (List.Pairwise.imp (R := (· < ·)) ?_ List.pairwise_lt_range)
    intro a b h e
    simp only [Prod.mk.injEq] at e
    omega
  · refine List.Pairwise.imp (R := (· < ·)) ?_ List.pairwise_lt_range
    intro a b h p hp q hq e
    simp only [lnP, List.mem_map] at hp hq
    obtain ⟨_, _, rfl⟩ := hp
    obtain ⟨_, _, rfl⟩ := hq
    simp only [Prod.mk.injEq] at e
    omega
theorem nodup_inj {α : Type} {l : List α} (h : l.Nodup) {i j : Nat} {x : α} (hi : l[i]? = some x) (hj : l[j]? = some x) : i = j := by
  obtain ⟨hi1, hi2⟩ := List.getElem?_eq_some_iff.1 hi
  obtain ⟨hj1, hj2⟩ := List.getElem?_eq_some_iff.1 hj
  rcases Nat.lt_trichotomy i j with hl | he | hl
  · exact absurd (hi2.trans hj2.symm) (List.pairwise_iff_getElem.1 h i j hi1 hj1 hl)
  · exact he
  · exact absurd (hj2.trans hi2.symm) (List.pairwise_iff_getElem.1 h j i hj1 hi1 hl)
/-- The slip of the word i of a run, at place p. -/
def slipX (ws : List ByteArray) (side W : Int) (i : Nat) (p : Pl) : Slp :=
  (p, ws.getD i ⟨#[]⟩, joinB ((ws.take i).drop (bestA ws side W i).1), joinB ((ws.take ((bestA ws side W i).2 + 1)).drop (i + 1)))
/-- The state of the reference's search. -/
def stA (ws : List ByteArray) (side W : Int) (i a : Nat) : Cx := (refN ws i W a).foldl (bestR (ordI ws side i)) (i, i)
def stB (ws : List ByteArray) (side W : Int) (i a m : Nat) : Cx := (ctxTo ws i W a m).foldl (bestR (ordI ws side i)) (stA ws side W i a)
theorem stA_end (ws : List ByteArray) (side W : Int) (i : Nat) : stA ws side W i (i + 1) = bestA ws side W i := rfl
theorem stB_zero (ws : List ByteArray) (side W : Int) (i a : Nat) : stB ws side W i a 0 = stA ws side W i a := rfl
theorem foldl_inv {α β : Type} (P : β → Prop) (f : β → α → β) : ∀ (l : List α) (b : β), P b → (∀ b x, x ∈ l → P b → P (f b x)) → P (l.foldl f b)
  | [], _, h, _ => h
  | x :: l, b, h, hf => foldl_inv P f l (f b x) (hf b x (by simp) h) fun b y hy => hf b y (by simp [hy])
theorem stB_in {ws : List ByteArray} {side W : Int} {i a m : Nat} (hi : i < ws.length) (ha : a ≤ i + 1) (hm : i + m ≤ ws.length) (ham : a ≤ i ∨ m = 0) : (stB ws side W i a m).1 ≤ i ∧ i ≤ (stB ws side W i a m).2 ∧ (stB ws side W i a m).2 < ws.length := by
  have h1 : ∀ (b x : Cx), (x.1 ≤ i ∧ i ≤ x.2 ∧ x.2 < ws.length) → (b.1 ≤ i ∧ i ≤ b.2 ∧ b.2 < ws.length) → ((bestR (ordI ws side i) b x).1 ≤ i ∧ i ≤ (bestR (ordI ws side i) b x).2 ∧ (bestR (ordI ws side i) b x).2 < ws.length) := fun b x hx hb => by
    unfold bestR; split
    · exact hx
    · exact hb
  refine foldl_inv (fun y : Cx => y.1 ≤ i ∧ i ≤ y.2 ∧ y.2 < ws.length) _ _ _ (foldl_inv (fun y : Cx => y.1 ≤ i ∧ i ≤ y.2 ∧ y.2 < ws.length) _ _ _ ⟨Nat.le_refl _, Nat.le_refl _, hi⟩ ?_) ?_
  · intro b x hx hb
    simp only [refN, List.mem_flatMap, List.mem_range, mem_ctxTo] at hx
    obtain ⟨j, hj, h2, h3, h4, _⟩ := hx
    exact h1 b x ⟨by omega, h3, by omega⟩ hb
  · intro b x hx hb
    rw [mem_ctxTo] at hx
    exact h1 b x ⟨by omega, hx.2.1, by omega⟩ hb
end Go.Proofs.YtpbkphaceljclaaGreatDoor

/- slip: the run of a chapter. -/
namespace Go.Proofs.YtpbkphaceljclaaGreatDoor
open Go.RowKit

abbrev chW (x : Ch) : List (List ByteArray) := x.2.2.2.map (·.2.2)
/-- The words of a chapter. -/
abbrev rnW (x : Ch) : List ByteArray := (chW x).flatten
theorem one_str (s : ByteArray) : [strV s].all (fun v => v.cells.toList.all (·.oneCell')) = true := rfl
theorem one_pl (p : Pl) : [encPl p].all (fun v => v.cells.toList.all (·.oneCell')) = true := rfl
theorem chW_get {x : Ch} {n : Nat} (h : n < x.2.2.2.length) : (chW x)[n]? = some x.2.2.2[n].2.2 := by simp [chW, h]
theorem chW_small {x : Ch} (h : ∀ y ∈ x.2.2.2, y.2.2.length ≤ 1000) : ∀ y ∈ chW x, y.length ≤ 1000 := fun y hy => by
  obtain ⟨l, hl, rfl⟩ := List.mem_map.1 hy
  exact h l hl

section
variable (a : Option Addr) (c : Nat) (cs : List Ch) (w : World) [hrow : RowI w (.slice a cs.length c) true 2 (cs.map encCh)] [hT : TextI w cs]
set_option maxHeartbeats 4000000 in
theorem runs_slip (hs : SmallT cs) (width side : Int) (k : Nat) (hk : k < cs.length) : Ct Tryz.prog 76 [.agg #[.slice a cs.length c], .agg #[.int .i64 width, .int .u8 side], .int .i64 (k : Int)] w fun v w' =>
    ∃ wv av, v = .agg #[.int .i64 width, .int .u8 side, wv, av] ∧ OwnL w' w.heap.size 9 false 1 wv ((rnW cs[k]).map strV) ∧ OwnL w' w.heap.size 44 true 3 av ((runA k (chW cs[k])).map encPl) := by
  have hs1 := hs.1
  have hsk := hs.2 _ (List.getElem_mem hk)
  have hsl := hsk.1
  have hsm := chW_small fun y hy => (hsk.2 y hy).1
  have hcl : (chW cs[k]).length = cs[k].2.2.2.length := by simp [chW]
  refine Ct.ofW (by simp) ?_
  (refine jjB ?_; refine jjC ?_)
  (refine jy rfl ?_; intro b3 w_b3 hb_b3 hs_b3 hS_b3 hk_b3; have hA_b3 := At.ofBlock hk_b3)
  skip
  (refine jy rfl ?_; intro b4 w_b4 hb_b4 hs_b4 hS_b4 hk_b4; have hA_b4 := At.ofBlock hk_b4)
  ((skip); refine jjY ?_; intro b6 w_b6 hb_b6 hs_b6 hS_b6 hk_b6; have hA_b6 := Bk.of hk_b6)
  (refine jz ?_; refine jjB ?_; refine jjC ?_; refine jO rfl rfl rfl rfl ?_)
  (refine jjS (cells := [.int .i64 width, .int .u8 side, .slice none 0 0, .slice none 0 0]) ?_ ?_; exact rfl)
  (apply jjR rfl; (intro _; first|exact eI rfl|exact eB rfl|exact eP rfl|exact eS rfl|exact eT rfl|exact eA rfl|exact eU rfl|exact eF rfl|exact eM rfl|exact eN rfl|exact rfl); exact rfl; exact rfl; exact rfl; exact rfl; intro b7 w_b7 hb_b7 hs_b7 hS_b7 hk_b7; have hA_b7 := Bk.of hk_b7)
  have hgk := List.getElem?_eq_getElem hk
  (refine jz ?_; refine jjB ?_; refine jjB ?_; refine jjC ?_; refine jm ?_; refine jn rfl ?_; refine jN rfl rfl rfl ?_; apply jI; exact eI rfl; refine jF rfl rfl rfl (map_get (by omega)) ?_; intro _ _ _; refine jm ?_; refine jn rfl ?_; refine jP rfl rfl rfl ?_; refine jh rfl ?_; apply jI; exact eI rfl; refine jz ?_; refine jjD ?_)
  have z7 := hS_b7.size
  have z6 := hS_b6.size
  have hE7 : Ext w w_b7 := inferInstance
  have i1 := hT.line hk
  have hB6 : Bk w_b7 b6 [.int .i64 0, .int .u8 0, .slice none 0 0, .slice none 0 0] 140 := hA_b6.ext hS_b7.ext
  refine W.keep0 [(2, .int .i64 ((k : Nat) : Int)), (6, .pointer (some ⟨b6, 0, none⟩)), (7, .pointer (some ⟨b7, 0, none⟩)), (18, .slice cs[k].2.1 cs[k].2.2.2.length cs[k].2.2.1), (19, .int .i64 ((cs[k].2.2.2.length : Nat) : Int)), (20, .int .i64 ((0 : Nat) : Int))] ⟨eI rfl, eP rfl, eP rfl, eS rfl, eI rfl, eI rfl, trivial⟩ fun s0 => ?_
  refine W.loopG (21 :: 22 :: 23 :: 24 :: 8 :: 9 :: 25 :: 26 :: 27 :: 28 :: 29 :: 10 :: 30 :: 31 :: 32 :: 33 :: 34 :: 35 :: 36 :: 37 :: 38 :: 39 :: 40 :: 41 :: 42 :: 43 :: 44 :: 45 :: 46 :: 47 :: 48 :: 49 :: 20 :: []) (fun g s' V => ∃ (n : Nat) (wv av : Value), s' 20 = .int .i64 ((n : Nat) : Int) ∧ g = cs[k].2.2.2.length - n ∧ n ≤ cs[k].2.2.2.length ∧ Ext w V ∧ w_b7.heap.size ≤ V.heap.size ∧ Bk V b6 [.int .i64 0, .int .u8 0, .slice none 0 0, .slice none 0 0] 140 ∧ Bk V b7 [.int .i64 width, .int .u8 side, wv, av] 140 ∧ OwnL V w_b7.heap.size 9 false 1 wv (((chW cs[k]).take n).flatten.map strV) ∧ OwnL V w_b7.heap.size 44 true 3 av ((runAn k (chW cs[k]) n).map encPl)) cs[k].2.2.2.length ⟨0, _, _, rfl, rfl, Nat.zero_le _, hE7, Nat.le_refl _, hB6, hA_b7, OwnL.nil _ _ _ _ _, OwnL.nil _ _ _ _ _⟩ ?_
  rintro _ sd V ⟨n, wv, av, h20, rfl, hn, hE, hz, hV6, hV7, hOw, hOa⟩
  refine W.fix h20 ?_
  clear h20
  by_cases hnl : n < cs[k].2.2.2.length
  rotate_left
  · obtain rfl : n = cs[k].2.2.2.length := by omega
    rw [← hcl, List.take_length] at hOw
    rw [← hcl] at hOa
    obtain ⟨wa, wc, rfl⟩ := hOw.slice
    obtain ⟨aa, ac, rfl⟩ := hOa.slice
    have := Bk.toAt (h := hV7)
    (refine jjB ?_; refine jjC ?_; refine jja rfl rfl (by omega) ?_; refine jz ?_; refine jjB ?_; refine jjK rfl ?_; refine jjE ?_; refine jjB ?_; refine jjC ?_; refine jO rfl rfl rfl rfl ?_)
    refine Ops.store rfl rfl rfl rfl rfl ?_
    intro V2 hp2
    have hA2 : At V2 b6 0 [.int .i64 width, .int .u8 side, .slice wa _ wc, .slice aa _ ac] := Bk.toAt (h := ⟨hp2.new⟩)
    (refine jz ?_; refine jjF ?_)
    refine fin1C rfl rfl rfl rfl rfl ⟨hp2.ext hE (by omega), _, _, rfl, ?_, ?_⟩
    · exact (hOw.put hp2 fun e => by have := (hOw.block _ e).1; omega).mono (by omega)
    · exact (hOa.put hp2 fun e => by have := (hOa.block _ e).1; omega).mono (by omega)
  have hsn := hsk.2 _ (List.getElem_mem hnl)
  have hgn := chW_get hnl
  have hTV : TextI V cs := hT.ext hE
  have i2 := hTV.line hk
  (refine jjB ?_; refine jjC ?_; refine jjZ rfl rfl (by omega) ?_; refine jz ?_; refine jjB ?_; refine jjJ rfl ?_; refine jjG ?_; refine jjB ?_; refine jjD ?_; refine jjB ?_; refine jjC ?_; apply jI; exact eI rfl; refine jF rfl rfl rfl (map_get (by omega)) ?_; intro _ _ _; refine jQ rfl rfl ?_; apply jJ; exact eI rfl; apply jJ; exact eS rfl; refine jz ?_; refine jjB ?_; refine jjC ?_; apply jI; exact eS rfl; refine jh rfl ?_; apply jI; exact eI rfl; refine jz ?_; refine jjD ?_)
  refine W.keep [(2, .int .i64 ((k : Nat) : Int)), (6, .pointer (some ⟨b6, 0, none⟩)), (7, .pointer (some ⟨b7, 0, none⟩)), (18, .slice cs[k].2.1 cs[k].2.2.2.length cs[k].2.2.1), (19, .int .i64 ((cs[k].2.2.2.length : Nat) : Int)), (20, .int .i64 ((n : Nat) : Int)), (8, .int .i64 ((n : Nat) : Int)), (9, .slice cs[k].2.2.2[n].1 cs[k].2.2.2[n].2.2.length cs[k].2.2.2[n].2.1), (26, .int .i64 ((cs[k].2.2.2[n].2.2.length : Nat) : Int)), (27, .int .i64 ((0 : Nat) : Int))] (D := (21 :: 22 :: 23 :: 24 :: 8 :: 9 :: 25 :: 26 :: 27 :: 28 :: 29 :: 10 :: 30 :: 31 :: 32 :: 33 :: 34 :: 35 :: 36 :: 37 :: 38 :: 39 :: 40 :: 41 :: 42 :: 43 :: 44 :: 45 :: 46 :: 47 :: 48 :: 49 :: 20 :: [])) (sO := upds s0 _) (by ((refine Same.upd rfl ?_; refine Same.upd rfl ?_; refine Same.upd rfl ?_; refine Same.upd rfl ?_; refine Same.upd rfl ?_; refine Same.upd rfl ?_; refine Same.upd rfl ?_; refine Same.upd rfl ?_; refine Same.upd rfl ?_; refine Same.upd rfl ?_; exact Same.ovN))) ⟨eI rfl, eP rfl, eP rfl, eS rfl, eI rfl, eI rfl, eI rfl, eS rfl, eI rfl, eI rfl, trivial⟩ fun s1 hs1' => ?_
  refine W.loopG (28 :: 29 :: 10 :: 30 :: 31 :: 32 :: 33 :: 34 :: 35 :: 36 :: 37 :: 38 :: 39 :: 40 :: 41 :: 42 :: 43 :: 44 :: 45 :: 46 :: 47 :: 48 :: 27 :: []) (fun g s' V => ∃ (q : Nat) (wv av : Value), s' 27 = .int .i64 ((q : Nat) : Int) ∧ g = cs[k].2.2.2[n].2.2.length - q ∧ q ≤ cs[k].2.2.2[n].2.2.length ∧ Ext w V ∧ w_b7.heap.size ≤ V.heap.size ∧ Bk V b6 [.int .i64 0, .int .u8 0, .slice none 0 0, .slice none 0 0] 140 ∧ Bk V b7 [.int .i64 width, .int .u8 side, wv, av] 140 ∧ OwnL V w_b7.heap.size 9 false 1 wv ((((chW cs[k]).take n).flatten ++ cs[k].2.2.2[n].2.2.take q).map strV) ∧ OwnL V w_b7.heap.size 44 true 3 av ((runAn k (chW cs[k]) n ++ lnP k n q).map encPl)) cs[k].2.2.2[n].2.2.length ⟨0, wv, av, rfl, rfl, Nat.zero_le _, hE, hz, hV6, hV7, by simpa using hOw, by simpa [lnP] using hOa⟩ ?_
  rintro _ sd2 V2 ⟨q, wv, av, h27, rfl, hq, hE, hz, hV6, hV7, hOw, hOa⟩
  refine W.fix h27 ?_
  clear h27
  by_cases hql : q < cs[k].2.2.2[n].2.2.length
  rotate_left
  · obtain rfl : q = cs[k].2.2.2[n].2.2.length := by omega
    rw [List.take_length, flat_next hgn] at hOw
    rw [← runAn_succ k hgn] at hOa
    (refine jjB ?_; refine jjC ?_; refine jja rfl rfl (by omega) ?_; refine jz ?_; refine jjB ?_; refine jjK rfl ?_; refine jjE ?_; refine jjC ?_; refine jY rfl rfl (by omega) ?_; apply jI; exact eI rfl; refine jz ?_)
    exact ⟨rfl, by ((refine Same.upd rfl ?_; refine Same.upd rfl ?_; refine Same.upd rfl ?_; refine Same.upd rfl ?_; refine Same.ovN' rfl ?_; assumption)), cs[k].2.2.2.length - (n + 1), by omega, n + 1, wv, av, congrArg (Value.int .i64) (by omega), rfl, by omega, hE, hz, hV6, hV7, hOw, hOa⟩
  have hTV2 : TextI V2 cs := hT.ext hE
  obtain ⟨bl, ol, el, hAl⟩ := (hT.word hk hnl).h.place' (map_get hql)
  rw [Nat.mul_one] at hAl
  have hl1 : (((chW cs[k]).take n).flatten ++ cs[k].2.2.2[n].2.2.take q).length ≤ 1001000 := by
    have := flat_take hsm (n := n) (by omega)
    rw [List.length_append, List.length_take]; omega
  have hl2 : (runAn k (chW cs[k]) n ++ lnP k n q).length ≤ 1001000 := by
    have := flat_take hsm (n := n) (by omega)
    rw [List.length_append, lnP_len, runAn_len k (by omega)]; omega
  (refine jjB ?_; refine jjC ?_; refine jjZ rfl rfl (by omega) ?_; refine jz ?_; refine jjB ?_; refine jjJ rfl ?_; refine jjG ?_; refine jjB ?_; refine jjD ?_; refine jjB ?_; refine jjC ?_; apply jI; exact eI rfl; apply jJ; exact eI rfl; refine jz ?_; refine jjB ?_)
  refine W.draw (fun w' => Ext w w') ?_
  intro w1 hS1
  (refine jjV [0, 2, 3] ?_ ?_ ?_; (decide +kernel); (exact hE.trans hS1.ext); (((apply jjT; exact rfl; rintro w' q1; have := q1.toStep; refine jm ?_; refine jn rfl ?_; refine jz ?_; exact ⟨rfl, rfl⟩; apply jjT; exact rfl; rintro w' q1; have := q1.toStep; apply jI; exact eS rfl; refine jz ?_; exact ⟨rfl, rfl⟩; apply jjT; exact rfl; rintro w' q1; have := q1.toStep; apply jI; exact eI rfl; refine jz ?_; exact ⟨rfl, rfl⟩; refine jjU ?_))))
  refine jjV [4] (by decide +kernel) (hE.trans hS1.ext) (jjT (v := .pointer (some ⟨bl, ol + q, none⟩)) rfl (fun w' q1 => ?_) (jjU ?_))
  · refine jG (b := bl) (o := ol) (j := q) (by rw [← el]; exact rfl) rfl rfl hql ?_
    refine jz ?_
    exact ⟨rfl, rfl⟩
  (refine jjV [5] ?_ ?_ ?_; (decide +kernel); (exact hE.trans hS1.ext); (((apply jjT; exact rfl; rintro w' q1; have := q1.toStep; refine jQ rfl rfl ?_; refine jz ?_; exact ⟨rfl, rfl⟩; refine jjU ?_))))
  have h71 : Bk w1 b7 [.int .i64 width, .int .u8 side, wv, av] 140 := hV7.ext hS1.ext
  refine jjl 1 6 (by decide +kernel) rfl rfl (hE.trans hS1.ext) ?b1 ?b2
  case b1 =>
    have := Bk.toAt (h := h71)
    (refine jN rfl rfl rfl ?_)
    refine jz ?_
    (apply jjW 6; (decide +kernel); exact rfl; (exact hE.trans hS1.ext))
    (refine jjP (v := .string _) rfl (by exact rfl) (by exact rfl) (by exact rfl) (by exact rfl) ?_; intro b36 w_b36 hb_b36 hs_b36 hS_b36 hk_b36; have hR_b36 := RowV.one (agg := false) (k := 1) rfl hk_b36)
    refine jz ?_
    have hE36 : Ext V2 w_b36 := hS1.ext.trans hS_b36.ext
    have z36 := hE36.size
    (apply jjW 7; (decide +kernel); exact rfl; (exact hE.trans hE36))
    refine Ops.appendL (hOw.ext hE36) (by omega) hR_b36 rfl rfl rfl rfl (one_str _) ?_ ?_ ?_
    · rw [List.length_map]; simp only [List.length_cons, List.length_nil]; omega
    · rw [List.length_map]; simp only [List.length_cons, List.length_nil]; omega
    intro wv2 w37 hA37 hO37 _ hown37
    have hn7 : wv.ownBlock ≠ some b7 := fun e => by have := (hOw.block _ e).1; omega
    have hE37 : Ext w w37 := hA37.ext (hE.trans hE36) (by omega)
    have h37 : Bk w37 b7 [.int .i64 width, .int .u8 side, wv, av] 140 := hA37.bk (hV7.ext hE36) hn7
    refine jz ?_
    (refine jjV [8] ?_ ?_ ?_; (decide +kernel); (exact hE37); (((apply jjT; exact rfl; rintro w' q1; have := q1.toStep; refine jm ?_; refine jn rfl ?_; refine jz ?_; exact ⟨rfl, rfl⟩; refine jjU ?_))))
    (apply jjW 9; (decide +kernel); exact rfl; (exact hE37))
    rw [← List.map_singleton, ← List.map_append, flat_step (List.getElem?_eq_getElem hql)] at hO37
    obtain ⟨wa2, wc2, rfl⟩ := hO37.slice
    refine Ops.storeC (cs := [.int .i64 width, .int .u8 side, wv, av]) (j := 2) (v := .slice wa2 _ wc2) rfl rfl rfl rfl (show 2 < 4 by omega) ?_
    intro w38 hp38
    refine jz ?_
    have hE38 : Ext w w38 := hp38.ext hE37 (by omega)
    have hn7' : (Value.slice wa2 (List.map strV (((chW cs[k]).take n).flatten ++ cs[k].2.2.2[n].2.2.take (q + 1))).length wc2).ownBlock ≠ some b7 := fun e => by have := (hO37.block _ e).1; omega
    have h38 : Bk w38 b7 [.int .i64 width, .int .u8 side, .slice wa2 _ wc2, av] 140 := ⟨hp38.new⟩
    have z37 := hA37.g.size
    have z38 := hp38.size
    have hO38 := hO37.put hp38 hn7'
    have hna : av.ownBlock ≠ some b7 := fun e => by have := (hOa.block _ e).1; omega
    have hOa38 : OwnL w38 w_b7.heap.size 44 true 3 av ((runAn k (chW cs[k]) n ++ lnP k n q).map encPl) := ((hOa.ext hE36).app hA37 (OwnL.ne (hOa.ext hE36) (hOw.ext hE36) (by decide))).put hp38 hna
    refine jjX (by decide +kernel) hE38 ?_
    have h6a : Bk w38 b6 _ _ := hp38.bk (hA37.bk (hV6.ext hE36) fun e => by have := (hOw.block _ e).1; omega) (show b6 ≠ b7 by omega)
    (refine jjC ?_; refine jm ?_; refine jn rfl ?_; refine jN rfl rfl rfl ?_; apply jI; exact eI rfl; apply jI; exact eI rfl; apply jI; exact eI rfl)
    (refine jjS (cells := [.int .i64 (k : Int), .int .i64 (n : Int), .int .i64 (q : Int)]) ?_ ?_; exact rfl)
    skip
    (refine jjP (v := .agg _) rfl (by exact rfl) (by exact rfl) (by exact rfl) (by exact rfl) ?_; intro b45 w_b45 hb_b45 hs_b45 hS_b45 hk_b45; have hR_b45 := RowV.one (agg := true) (k := 3) rfl hk_b45)
    skip
    refine Ops.appendL (hOa38.ext hS_b45.ext) (by have := hS_b45.size; omega) hR_b45 rfl rfl rfl rfl (one_pl ((k : Int), (n : Int), (q : Int))) ?_ ?_ ?_
    · rw [List.length_map]; simp only [List.length_cons, List.length_nil]; omega
    · rw [List.length_map]; simp only [List.length_cons, List.length_nil]; omega
    intro av2 w46 hA46 hO46 _ hown46
    have z45 := hS_b45.size
    have z46 := hA46.g.size
    have hE46 : Ext w w46 := hA46.ext (hE38.trans hS_b45.ext) (by omega)
    have h46 : Bk w46 b7 _ _ := hA46.bk (h38.ext hS_b45.ext) hna
    have e46 : (runAn k (chW cs[k]) n ++ lnP k n q).map encPl ++ [encPl ((k : Int), (n : Int), (q : Int))] = (runAn k (chW cs[k]) n ++ lnP k n (q + 1)).map encPl := by rw [lnP_succ]; simp
    rw [e46] at hO46
    obtain ⟨aa2, ac2, rfl⟩ := hO46.slice
    have hna' : (Value.slice aa2 (List.map encPl (runAn k (chW cs[k]) n ++ lnP k n (q + 1))).length ac2).ownBlock ≠ some b7 := fun e => by have := (hO46.block _ e).1; omega
    (refine jm ?_; refine jn rfl ?_)
    refine Ops.storeC (cs := [.int .i64 width, .int .u8 side, .slice wa2 _ wc2, av]) (j := 3) (v := .slice aa2 _ ac2) rfl rfl rfl rfl (show 3 < 4 by omega) ?_
    intro w47 hp47
    have z47 := hp47.size
    (refine jz ?_; refine jjC ?_; refine jY rfl rfl (by omega) ?_; apply jI; exact eI rfl; refine jz ?_)
    refine ⟨rfl, by ((refine Same.upd rfl ?_; refine Same.upd rfl ?_; refine Same.upd rfl ?_; refine Same.upd rfl ?_; refine Same.upd rfl ?_; refine Same.upd rfl ?_; refine Same.upd rfl ?_; refine Same.upd rfl ?_; refine Same.upd rfl ?_; refine Same.upd rfl ?_; refine Same.upd rfl ?_; refine Same.upd rfl ?_; refine Same.upd rfl ?_; refine Same.upd rfl ?_; refine Same.upd rfl ?_; refine Same.upd rfl ?_; refine Same.upd rfl ?_; refine Same.upd rfl ?_; refine Same.upd rfl ?_; refine Same.upd rfl ?_; refine Same.upd rfl ?_; refine Same.upd rfl ?_; refine Same.upd rfl ?_; refine Same.upd rfl ?_; exact Same.ovN)), cs[k].2.2.2[n].2.2.length - (q + 1), by omega, q + 1, _, _, congrArg (Value.int .i64) (by omega), rfl, by omega, hp47.ext hE46 (by omega), by omega, ?_, ⟨hp47.new⟩, ?_, hO46.put hp47 hna'⟩
    · exact hp47.bk (hA46.bk (h6a.ext hS_b45.ext) fun e => by have := (hOa.block _ e).1; omega) (show b6 ≠ b7 by omega)
    · exact ((hO38.ext hS_b45.ext).app hA46 (OwnL.ne (hO38.ext hS_b45.ext) (hOa38.ext hS_b45.ext) (by decide))).put hp47 hn7'
  case b2 =>
    (refine jjP (v := .string _) rfl (by exact rfl) (by exact rfl) (by exact rfl) (by exact rfl) ?_; intro b36 w_b36 hb_b36 hs_b36 hS_b36 hk_b36; have hR_b36 := RowV.one (agg := false) (k := 1) rfl hk_b36)
    refine jz ?_
    have hE36 : Ext V2 w_b36 := hS1.ext.trans hS_b36.ext
    have z36 := hE36.size
    (apply jjW 1; (decide +kernel); exact rfl; (exact hE.trans hE36))
    have := Bk.toAt (h := hV7.ext hE36)
    (refine jN rfl rfl rfl ?_)
    refine jz ?_
    (apply jjW 7; (decide +kernel); exact rfl; (exact hE.trans hE36))
    refine Ops.appendL (hOw.ext hE36) (by omega) hR_b36 rfl rfl rfl rfl (one_str _) ?_ ?_ ?_
    · rw [List.length_map]; simp only [List.length_cons, List.length_nil]; omega
    · rw [List.length_map]; simp only [List.length_cons, List.length_nil]; omega
    intro wv2 w37 hA37 hO37 _ hown37
    have hn7 : wv.ownBlock ≠ some b7 := fun e => by have := (hOw.block _ e).1; omega
    have hE37 : Ext w w37 := hA37.ext (hE.trans hE36) (by omega)
    have h37 : Bk w37 b7 [.int .i64 width, .int .u8 side, wv, av] 140 := hA37.bk (hV7.ext hE36) hn7
    refine jz ?_
    (refine jjV [8] ?_ ?_ ?_; (decide +kernel); (exact hE37); (((apply jjT; exact rfl; rintro w' q1; have := q1.toStep; refine jm ?_; refine jn rfl ?_; refine jz ?_; exact ⟨rfl, rfl⟩; refine jjU ?_))))
    (apply jjW 9; (decide +kernel); exact rfl; (exact hE37))
    rw [← List.map_singleton, ← List.map_append, flat_step (List.getElem?_eq_getElem hql)] at hO37
    obtain ⟨wa2, wc2, rfl⟩ := hO37.slice
    refine Ops.storeC (cs := [.int .i64 width, .int .u8 side, wv, av]) (j := 2) (v := .slice wa2 _ wc2) rfl rfl rfl rfl (show 2 < 4 by omega) ?_
    intro w38 hp38
    refine jz ?_
    have hE38 : Ext w w38 := hp38.ext hE37 (by omega)
    have hn7' : (Value.slice wa2 (List.map strV (((chW cs[k]).take n).flatten ++ cs[k].2.2.2[n].2.2.take (q + 1))).length wc2).ownBlock ≠ some b7 := fun e => by have := (hO37.block _ e).1; omega
    have h38 : Bk w38 b7 [.int .i64 width, .int .u8 side, .slice wa2 _ wc2, av] 140 := ⟨hp38.new⟩
    have z37 := hA37.g.size
    have z38 := hp38.size
    have hO38 := hO37.put hp38 hn7'
    have hna : av.ownBlock ≠ some b7 := fun e => by have := (hOa.block _ e).1; omega
    have hOa38 : OwnL w38 w_b7.heap.size 44 true 3 av ((runAn k (chW cs[k]) n ++ lnP k n q).map encPl) := ((hOa.ext hE36).app hA37 (OwnL.ne (hOa.ext hE36) (hOw.ext hE36) (by decide))).put hp38 hna
    refine jjX (by decide +kernel) hE38 ?_
    have h6a : Bk w38 b6 _ _ := hp38.bk (hA37.bk (hV6.ext hE36) fun e => by have := (hOw.block _ e).1; omega) (show b6 ≠ b7 by omega)
    (refine jjC ?_; refine jm ?_; refine jn rfl ?_; refine jN rfl rfl rfl ?_; apply jI; exact eI rfl; apply jI; exact eI rfl; apply jI; exact eI rfl)
    (refine jjS (cells := [.int .i64 (k : Int), .int .i64 (n : Int), .int .i64 (q : Int)]) ?_ ?_; exact rfl)
    skip
    (refine jjP (v := .agg _) rfl (by exact rfl) (by exact rfl) (by exact rfl) (by exact rfl) ?_; intro b45 w_b45 hb_b45 hs_b45 hS_b45 hk_b45; have hR_b45 := RowV.one (agg := true) (k := 3) rfl hk_b45)
    skip
    refine Ops.appendL (hOa38.ext hS_b45.ext) (by have := hS_b45.size; omega) hR_b45 rfl rfl rfl rfl (one_pl ((k : Int), (n : Int), (q : Int))) ?_ ?_ ?_
    · rw [List.length_map]; simp only [List.length_cons, List.length_nil]; omega
    · rw [List.length_map]; simp only [List.length_cons, List.length_nil]; omega
    intro av2 w46 hA46 hO46 _ hown46
    have z45 := hS_b45.size
    have z46 := hA46.g.size
    have hE46 : Ext w w46 := hA46.ext (hE38.trans hS_b45.ext) (by omega)
    have h46 : Bk w46 b7 _ _ := hA46.bk (h38.ext hS_b45.ext) hna
    have e46 : (runAn k (chW cs[k]) n ++ lnP k n q).map encPl ++ [encPl ((k : Int), (n : Int), (q : Int))] = (runAn k (chW cs[k]) n ++ lnP k n (q + 1)).map encPl := by rw [lnP_succ]; simp
    rw [e46] at hO46
    obtain ⟨aa2, ac2, rfl⟩ := hO46.slice
    have hna' : (Value.slice aa2 (List.map encPl (runAn k (chW cs[k]) n ++ lnP k n (q + 1))).length ac2).ownBlock ≠ some b7 := fun e => by have := (hO46.block _ e).1; omega
    (refine jm ?_; refine jn rfl ?_)
    refine Ops.storeC (cs := [.int .i64 width, .int .u8 side, .slice wa2 _ wc2, av]) (j := 3) (v := .slice aa2 _ ac2) rfl rfl rfl rfl (show 3 < 4 by omega) ?_
    intro w47 hp47
    have z47 := hp47.size
    (refine jz ?_; refine jjC ?_; refine jY rfl rfl (by omega) ?_; apply jI; exact eI rfl; refine jz ?_)
    refine ⟨rfl, by ((refine Same.upd rfl ?_; refine Same.upd rfl ?_; refine Same.upd rfl ?_; refine Same.upd rfl ?_; refine Same.upd rfl ?_; refine Same.upd rfl ?_; refine Same.upd rfl ?_; refine Same.upd rfl ?_; refine Same.upd rfl ?_; refine Same.upd rfl ?_; refine Same.upd rfl ?_; refine Same.upd rfl ?_; refine Same.upd rfl ?_; refine Same.upd rfl ?_; refine Same.upd rfl ?_; refine Same.upd rfl ?_; refine Same.upd rfl ?_; refine Same.upd rfl ?_; refine Same.upd rfl ?_; refine Same.upd rfl ?_; refine Same.upd rfl ?_; refine Same.upd rfl ?_; refine Same.upd rfl ?_; refine Same.upd rfl ?_; exact Same.ovN)), cs[k].2.2.2[n].2.2.length - (q + 1), by omega, q + 1, _, _, congrArg (Value.int .i64) (by omega), rfl, by omega, hp47.ext hE46 (by omega), by omega, ?_, ⟨hp47.new⟩, ?_, hO46.put hp47 hna'⟩
    · exact hp47.bk (hA46.bk (h6a.ext hS_b45.ext) fun e => by have := (hOa.block _ e).1; omega) (show b6 ≠ b7 by omega)
    · exact ((hO38.ext hS_b45.ext).app hA46 (OwnL.ne (hO38.ext hS_b45.ext) (hOa38.ext hS_b45.ext) (by decide))).put hp47 hn7'
end
end Go.Proofs.YtpbkphaceljclaaGreatDoor

/- Plain law: the slips of a text. -/
namespace Go.Proofs.YtpbkphaceljclaaGreatDoor
open Go.RowKit

def wsT (t : Tx) (k : Nat) : List (List ByteArray) := (t.getD k (0, [])).2
theorem wsT_get {cs : List Ch} {k : Nat} (hk : k < cs.length) : wsT (txF cs) k = chW cs[k] := by
  simp [wsT, txF, hk, chW]
/-- Where a place is in a list. -/
noncomputable def idP (l : List Pl) (p : Pl) : Option Nat := open Classical in if h : ∃ i, l[i]? = some p then some (Classical.choose h) else none
theorem idP_some {l : List Pl} {p : Pl} {i : Nat} (hn : l.Nodup) (h : l[i]? = some p) : idP l p = some i := by
  have hx : ∃ i, l[i]? = some p := ⟨i, h⟩
  rw [idP, dif_pos hx, nodup_inj hn (Classical.choose_spec hx) h]
theorem idP_none {l : List Pl} {p : Pl} (h : p ∉ l) : idP l p = none := by
  rw [idP, dif_neg]
  rintro ⟨i, hi⟩
  exact h (List.mem_of_getElem? hi)
theorem idP_get {l : List Pl} {p : Pl} {i : Nat} (h : idP l p = some i) : l[i]? = some p := by
  unfold idP at h
  split at h
  · rename_i hx
    cases h
    exact Classical.choose_spec hx
  · cases h
theorem mem_runA {k : Nat} {x : List (List ByteArray)} {p : Pl} : p ∈ runA k x ↔ ∃ (n q : Nat) (hn : n < x.length), q < x[n].length ∧ p = ((k : Int), (n : Int), (q : Int)) := by
  simp only [runA, runAn, lnP, List.mem_flatMap, List.mem_range, List.mem_map]
  constructor
  · rintro ⟨n, hn, q, hq, rfl⟩
    refine ⟨n, q, hn, ?_, rfl⟩
    rwa [List.getD_eq_getElem?_getD, List.getElem?_eq_getElem hn, Option.getD_some] at hq
  · rintro ⟨n, q, hn, hq, rfl⟩
    refine ⟨n, hn, q, ?_, rfl⟩
    rwa [List.getD_eq_getElem?_getD, List.getElem?_eq_getElem hn, Option.getD_some]
theorem runA_fst {k : Nat} {x : List (List ByteArray)} {p : Pl} (h : p ∈ runA k x) : p.1 = (k : Int) := by
  obtain ⟨n, q, _, _, rfl⟩ := mem_runA.1 h
  rfl
/-- The slip of the word i of a chapter. -/
def slK (side W : Int) (k : Nat) (x : List (List ByteArray)) (i : Nat) : Slp := slipX x.flatten side W i ((runA k x).getD i (0, 0, 0))
theorem slK_eq {side W : Int} {k : Nat} {x : List (List ByteArray)} {i : Nat} {p : Pl} (h : (runA k x)[i]? = some p) : slK side W k x i = slipX x.flatten side W i p := by
  rw [slK, List.getD_eq_getElem?_getD, h, Option.getD_some]
/-- The slip of a place, if it is one of a text. -/
noncomputable def makeF (t : Tx) (side W : Int) (p : Pl) : Option Slp := if 0 ≤ p.1 ∧ p.1 < t.length then (idP (runA p.1.toNat (wsT t p.1.toNat)) p).map (slK side W p.1.toNat (wsT t p.1.toNat)) else none
theorem makeF_no {t : Tx} {side W : Int} {p : Pl} (h : ¬ (0 ≤ p.1 ∧ p.1 < t.length)) : makeF t side W p = none := by rw [makeF, if_neg h]
theorem makeF_in {t : Tx} {side W : Int} {p : Pl} {k : Nat} (hk : k < t.length) (hp : p.1 = (k : Int)) : makeF t side W p = (idP (runA k (wsT t k)) p).map (slK side W k (wsT t k)) := by
  rw [makeF, if_pos (by omega), hp, Int.toNat_natCast]
theorem makeF_yes {t : Tx} {side W : Int} {p : Pl} {k i : Nat} (hk : k < t.length) (h : (runA k (wsT t k))[i]? = some p) : makeF t side W p = some (slipX (wsT t k).flatten side W i p) := by
  rw [makeF_in hk (runA_fst (List.mem_of_getElem? h)), idP_some (runA_nodup _ _) h, Option.map_some, slK_eq h]
theorem makeF_some {t : Tx} {side W : Int} {p : Pl} {s : Slp} (h : makeF t side W p = some s) : ∃ k i, k < t.length ∧ (runA k (wsT t k))[i]? = some p ∧ s = slipX (wsT t k).flatten side W i p := by
  unfold makeF at h
  split at h
  · rename_i hc
    obtain ⟨i, hi, e⟩ := Option.map_eq_some_iff.1 h
    have hg := idP_get hi
    exact ⟨p.1.toNat, i, by omega, hg, by rw [← e, slK_eq hg]⟩
  · cases h
theorem makeF_at {t : Tx} {side W : Int} {p : Pl} {s : Slp} (h : makeF t side W p = some s) : s.1 = p := by
  obtain ⟨_, _, _, _, rfl⟩ := makeF_some h; rfl
/-- All places of a text, of its first n chapters. -/
def allP (t : Tx) (n : Nat) : List Pl := (List.range n).flatMap fun k => runA k (wsT t k)
theorem allP_succ (t : Tx) (n : Nat) : allP t (n + 1) = allP t n ++ runA n (wsT t n) := by simp [allP, List.range_succ, List.flatMap_append]
noncomputable def slP (t : Tx) (side W : Int) (p : Pl) : Slp := (makeF t side W p).getD (p, ⟨#[]⟩, ⟨#[]⟩, ⟨#[]⟩)
theorem slP_at (t : Tx) (side W : Int) (p : Pl) : (slP t side W p).1 = p := by
  rw [slP]
  cases h : makeF t side W p with
  | none => rfl
  | some s => exact makeF_at h
theorem slP_eq {t : Tx} {side W : Int} {p : Pl} {k i : Nat} (hk : k < t.length) (h : (runA k (wsT t k))[i]? = some p) : slP t side W p = slipX (wsT t k).flatten side W i p := by
  rw [slP, makeF_yes hk h, Option.getD_some]
/-- All slips of a text. -/
noncomputable def allS (t : Tx) (side W : Int) : List Slp := (allP t t.length).map (slP t side W)
noncomputable def slA (t : Tx) (side W : Int) (n : Nat) : List Slp := (allP t n).map (slP t side W)
noncomputable def slsN (t : Tx) (side W : Int) (k i : Nat) : List Slp := ((runA k (wsT t k)).take i).map (slP t side W)
theorem slA_succ (t : Tx) (side W : Int) (n : Nat) : slA t side W (n + 1) = slA t side W n ++ slsN t side W n (wsT t n).flatten.length := by
  rw [slA, allP_succ, List.map_append, ← slA, slsN, ← runA_len n, List.take_length]
theorem slA_get {t : Tx} {side W : Int} {k i n : Nat} {p : Pl} (hk : k < n) (h : (runA k (wsT t k))[i]? = some p) : (slA t side W n)[(slA t side W k).length + i]? = some (slP t side W p) := by
  have : ∀ d, (slA t side W (k + 1 + d))[(slA t side W k).length + i]? = some (slP t side W p) := by
    intro d
    induction d with
    | zero =>
      have hi := (List.getElem?_eq_some_iff.1 h).1
      rw [Nat.add_zero, slA_succ, List.getElem?_append_right (by omega), Nat.add_sub_cancel_left, slsN, ← runA_len k, List.take_length, List.getElem?_map, h, Option.map_some]
    | succ d ih =>
      rw [← Nat.add_assoc, slA_succ]
      have hl := (List.getElem?_eq_some_iff.1 ih).1
      rw [List.getElem?_append_left hl, ih]
  have := this (n - (k + 1))
  rwa [show k + 1 + (n - (k + 1)) = n by omega] at this
theorem slA_end (t : Tx) (side W : Int) : slA t side W t.length = allS t side W := rfl
theorem slsN_len {t : Tx} {side W : Int} {k i : Nat} (h : i ≤ (wsT t k).flatten.length) : (slsN t side W k i).length = i := by
  rw [slsN, List.length_map, List.length_take, runA_len]; omega
theorem mem_allP {t : Tx} {n : Nat} {p : Pl} : p ∈ allP t n ↔ ∃ k, k < n ∧ p ∈ runA k (wsT t k) := by
  simp [allP]
/-! Words of a valid text are short. -/
theorem word_short {t : Tx} {k : Nat} (h : textB t = true) {s : ByteArray} (hk : k < t.length) (hs : s ∈ (wsT t k).flatten) : s.size ≤ 12 := by
  simp only [textB, Bool.and_eq_true, List.all_eq_true] at h
  have hm : t.getD k (0, []) ∈ t := by rw [List.getD_eq_getElem?_getD, List.getElem?_eq_getElem hk, Option.getD_some]; exact List.getElem_mem hk
  have h1 := h.1.2 _ hm
  simp only [chapB, Bool.and_eq_true, List.all_eq_true] at h1
  obtain ⟨y, hy, hsy⟩ := List.mem_flatten.1 hs
  have h2 := h1.2 y hy
  simp only [lineB, Bool.and_eq_true, List.all_eq_true] at h2
  have h3 := h2.2 s hsy
  simp only [wordB, Bool.and_eq_true, decide_eq_true_eq] at h3
  omega
theorem cutB_width {W side : Int} (h : (inB 12 80 W && inB 1 3 side) = true) : 12 ≤ W ∧ W ≤ 80 ∧ 1 ≤ side ∧ side ≤ 3 := by
  simp only [inB, Bool.and_eq_true, decide_eq_true_eq] at h
  omega
theorem rnW_small {cs : List Ch} (hs : SmallT cs) {k : Nat} (hk : k < cs.length) : (rnW cs[k]).length ≤ 1000000 ∧ ∀ s ∈ rnW cs[k], s.size ≤ 1000 := by
  have h1 := hs.2 _ (List.getElem_mem hk)
  refine ⟨?_, fun s h => ?_⟩
  · have := flatW_len (x := chW cs[k]) (m := 1000) (chW_small fun y hy => (h1.2 y hy).1)
    have h2 : (chW cs[k]).length ≤ 1000 := by simp [chW]; exact h1.1
    have := Nat.mul_le_mul_right 1000 h2
    show (chW cs[k]).flatten.length ≤ _
    omega
  · obtain ⟨y, hy, hs'⟩ := List.mem_flatten.1 h
    obtain ⟨l, hl, rfl⟩ := List.mem_map.1 hy
    exact (h1.2 l hl).2 s hs'
end Go.Proofs.YtpbkphaceljclaaGreatDoor

/- Plain law: the context of a slip is the first of all that fit; its words, its length. -/
namespace Go.Proofs.YtpbkphaceljclaaGreatDoor
open Go.RowKit

theorem best_spec {ws : List ByteArray} {side W : Int} {i : Nat} (hi : i < ws.length) (hW : (ws[i].size : Int) ≤ W) :
    ((bestA ws side W i).1 ≤ i ∧ i ≤ (bestA ws side W i).2 ∧ (bestA ws side W i).2 < ws.length ∧ lenX ws (bestA ws side W i) ≤ W) ∧
    ∀ y : Cx, y.1 ≤ i → i ≤ y.2 → y.2 < ws.length → lenX ws y ≤ W → y = bestA ws side W i ∨ ordI ws side i (bestA ws side W i) y < 0 := by
  have hself : lenX ws (i, i) ≤ W := by rw [lenX_self hi]; exact hW
  have hin : ∀ x, x ∈ (i, i) :: refA ws i W ↔ x.1 ≤ i ∧ i ≤ x.2 ∧ x.2 < ws.length ∧ lenX ws x ≤ W := fun x => by
    rw [List.mem_cons, mem_refA hi]
    constructor
    · rintro (rfl | h)
      · exact ⟨Nat.le_refl _, Nat.le_refl _, hi, hself⟩
      · exact h
    · exact .inr
  have m2 := foldl_min (ordI ws side i) (fun _ _ _ => ordI_trans) (refA ws i W) (i, i) fun x hx y hy hne => by
    rw [hin] at hx hy
    exact ordI_total hx.2.2.1 hy.2.2.1 hne
  exact ⟨(hin _).1 m2.1, fun y h1 h2 h3 h4 => m2.2 y ((hin y).2 ⟨h1, h2, h3, h4⟩)⟩
/-! ### Words with a space between them -/
abbrev noSp (l : List UInt8) : Prop := ∀ c ∈ l, c ≠ 32
theorem spl_word : ∀ {l : List UInt8}, noSp l → spl l = [l]
  | [], _ => rfl
  | c :: l, h => by
    rw [spl, if_neg (h c (by simp)), spl_word (l := l) fun x hx => h x (by simp [hx])]
theorem spl_app : ∀ {l : List UInt8} (r : List UInt8), noSp l → spl (l ++ 32 :: r) = l :: spl r
  | [], r, _ => by simp [spl]
  | c :: l, r, h => by
    rw [List.cons_append, spl, if_neg (h c (by simp)), spl_app (l := l) r fun x hx => h x (by simp [hx])]
theorem join_cc (x y : List UInt8) (r : List (List UInt8)) : Lib.join (x :: y :: r) [32] = x ++ 32 :: Lib.join (y :: r) [32] := by
  rw [Lib.join_cons, Lib.join_cons]; simp [Lib.joinTail]
theorem spl_join : ∀ {ws : List (List UInt8)}, ws ≠ [] → (∀ w ∈ ws, noSp w) → spl (Lib.join ws [32]) = ws
  | [], h, _ => absurd rfl h
  | [x], _, h => by rw [Lib.join_one, spl_word (h x (by simp))]
  | x :: y :: r, _, h => by
    rw [join_cc, spl_app _ (h x (by simp)), spl_join (by simp) fun w hw => h w (by simp only [List.mem_cons] at hw ⊢; exact .inr hw)]
theorem word_noSp {s : ByteArray} (h : wordB s = true) : noSp s.data.toList := by
  simp only [wordB, Bool.and_eq_true, List.all_eq_true] at h
  intro c hc e
  have := h.2 c hc
  subst e
  simp [lowB] at this
theorem word_size {s : ByteArray} (h : wordB s = true) : 1 ≤ s.size ∧ s.size ≤ 12 := by
  simp only [wordB, Bool.and_eq_true, decide_eq_true_eq] at h
  exact h.1
theorem splB_join {ws : List ByteArray} (hne : ws ≠ []) (h : ∀ w ∈ ws, wordB w = true) : splB (joinB ws) = ws := by
  have e : (joinB ws).data.toList = Lib.join (ws.map (·.data.toList)) [32] := by simp [joinB]
  rw [splB, e, spl_join (by simpa using hne) (fun w hw => by
    obtain ⟨y, hy, rfl⟩ := List.mem_map.1 hw
    exact word_noSp (h y hy)), List.map_map]
  exact (List.map_congr_left fun s _ => bytesL_data s).trans (List.map_id _)
theorem joinB_len : ∀ {ws : List ByteArray}, ws ≠ [] → (joinB ws).size + 1 = (ws.map fun s => s.size + 1).sum
  | [], h => absurd rfl h
  | [x], _ => by
    have : (joinB [x]).size = x.size := by show (joinB [x]).data.size = x.data.size; simp [joinB, Lib.join_one]
    rw [this]; simp
  | x :: y :: r, _ => by
    have ih := joinB_len (ws := y :: r) (by simp)
    have : (joinB (x :: y :: r)).size = x.size + 1 + (joinB (y :: r)).size := by
      show (joinB (x :: y :: r)).data.size = x.data.size + 1 + (joinB (y :: r)).data.size
      simp only [joinB, List.map_cons, join_cc]
      simp; omega
    rw [this, List.map_cons, List.sum_cons, ← ih]; omega
theorem wordsB_join {ws : List ByteArray} (h : ∀ w ∈ ws, wordB w = true) (h80 : (joinB ws).size ≤ 80) : wordsB (joinB ws) = true := by
  by_cases hne : ws = []
  · subst hne; rfl
  · rw [wordsB, splB_join hne h, List.all_eq_true.2 h, decide_eq_true h80]; simp
theorem joinB_zero {ws : List ByteArray} (h : ∀ w ∈ ws, wordB w = true) : (joinB ws).size = 0 ↔ ws = [] := by
  constructor
  · intro h0
    refine Decidable.by_contra fun hne => ?_
    have hl := joinB_len hne
    obtain ⟨x, r, rfl⟩ := List.exists_cons_of_ne_nil hne
    have := word_size (h x (by simp))
    rw [List.map_cons, List.sum_cons] at hl; omega
  · rintro rfl; rfl
theorem sum_pre {ws : List ByteArray} {a b : Nat} (hab : a ≤ b) (hb : b ≤ ws.length) : preW ws b = preW ws a + (((ws.take b).drop a).map fun s => s.size + 1).sum := by
  have e : ws.take b = ws.take a ++ (ws.take b).drop a := by
    have := List.take_append_drop a (ws.take b)
    rw [List.take_take, Nat.min_eq_left hab] at this
    exact this.symm
  rw [preW, preW]
  conv => lhs; rw [e]
  rw [List.map_append, List.sum_append]
/-- What a part of a run comes to with the space beside it. -/
def gapN (s : ByteArray) : Nat := if s.size = 0 then 0 else s.size + 1
theorem gap_join {ws : List ByteArray} (h : ∀ w ∈ ws, wordB w = true) {a b : Nat} (hab : a ≤ b) (hb : b ≤ ws.length) : preW ws b = preW ws a + gapN (joinB ((ws.take b).drop a)) := by
  rw [sum_pre hab hb, gapN]
  have hs : ∀ w ∈ (ws.take b).drop a, wordB w = true := fun w hw => h w (List.mem_of_mem_take (List.mem_of_mem_drop hw))
  by_cases h0 : (joinB ((ws.take b).drop a)).size = 0
  · rw [if_pos h0, (joinB_zero hs).1 h0]; rfl
  · rw [if_neg h0, joinB_len fun e => h0 ((joinB_zero hs).2 e)]
/-- The length of a slip's context. -/
def widthN (s : Slp) : Nat := s.2.1.size + gapN s.2.2.1 + gapN s.2.2.2
theorem width_cut {ws : List ByteArray} (h : ∀ w ∈ ws, wordB w = true) {i : Nat} (hi : i < ws.length) {x : Cx} (h1 : x.1 ≤ i) (h2 : i ≤ x.2) (h3 : x.2 < ws.length) (p : Pl) :
    (widthN (p, ws[i], joinB ((ws.take i).drop x.1), joinB ((ws.take (x.2 + 1)).drop (i + 1))) : Int) = lenX ws x := by
  have e1 := gap_join h h1 (Nat.le_of_lt hi)
  have e2 := gap_join h (a := i + 1) (b := x.2 + 1) (by omega) (by omega)
  have e3 := preW_succ hi
  simp only [widthN, lenX]
  omega
end Go.Proofs.YtpbkphaceljclaaGreatDoor

/- slip: words of a text, slips that are right. -/
namespace Go.Proofs.YtpbkphaceljclaaGreatDoor
open Go.RowKit

theorem wordsB_len {s : ByteArray} (h0 : s.size ≠ 0) (h : ¬ s.size ≤ 80) : wordsB s = false := by simp [wordsB, h0, h]
theorem wordsB_all {s : ByteArray} (h0 : s.size ≠ 0) (h : s.size ≤ 80) : wordsB s = (splB s).all wordB := by simp [wordsB, h0, h]
section
variable (w : World) [hm : MxI w]
set_option maxHeartbeats 1000000 in
theorem words_slip (s : ByteArray) (hs : s.size ≤ 1000) : Ct Tryz.prog 74 [.string s] w fun v w' => ∃ sv, v = .tuple #[sv, .bool (wordsB s)] ∧ OwnL w' w.heap.size 9 false 1 sv ((wordsL s).map strV) := by
  refine Ct.ofW (by simp) ?_
  (refine jjB ?_; refine jjC ?_; apply jJ; exact eS rfl; apply jJ; exact eB rfl; refine jz ?_; refine jjH ?_; refine jjB ?_; refine jjB ?_; refine jjC ?_; apply jI; exact eT rfl)
  refine Ops.eqlS rfl rfl ?_
  by_cases h0 : s.size = 0
  · have e0 := str_nil.2 h0
    subst e0
    rw [decide_eq_true rfl]
    (refine jz ?_; refine jjJ rfl ?_; refine jjB ?_; refine jjC ?_; apply jJ; exact eS rfl; apply jJ; exact eB rfl; refine jz ?_; refine jjF ?_; refine jC rfl rfl rfl ⟨inferInstance, ?_⟩)
    exact ⟨_, rfl, OwnL.nil _ _ _ _ _⟩
  have hne : ¬ s = ⟨#[]⟩ := fun e => h0 (str_nil.1 e)
  rw [decide_eq_false hne]
  have hb := splB_bound s
  (refine jz ?_; refine jjK rfl ?_; refine jjG ?_; refine jjB ?_; refine jjC ?_; apply jI; exact eT rfl)
  refine jjQ (Split_str s _ (by omega)) rfl rfl ?_
  rintro _ w2 hS2 ⟨sv, rfl, hO⟩
  obtain ⟨a, c, rfl⟩ := hO.slice
  rw [List.length_map] at hO ⊢
  have hE2 : Ext w w2 := inferInstance
  have hL : wordsL s = splB s := by rw [wordsL, if_neg h0]
  rw [hL]
  by_cases h80 : s.size ≤ 80
  · have hwb := wordsB_all h0 h80
    (apply jJ; exact eS rfl; refine jz ?_; refine jjB ?_; refine jjC ?_; apply jI; exact eT rfl; refine ji rfl ?_; refine jjb rfl rfl (by omega) ?_; apply jJ; exact eB rfl; refine jz ?_; refine jjB ?_; refine jjI ?_; refine jjB ?_; refine jjB ?_; refine jjC ?_; apply jI; exact eS rfl; refine jh rfl ?_; apply jI; exact eI rfl; refine jz ?_; refine jjD ?_)
    refine W.keep0 [(4, .slice a (splB s).length c), (5, .bool true), (15, .slice a (splB s).length c), (16, .int .i64 (((splB s).length : Nat) : Int)), (17, .int .i64 ((0 : Nat) : Int))] ⟨eS rfl, eB rfl, eS rfl, eI rfl, eI rfl, trivial⟩ fun s0 => ?_
    refine W.loop (18 :: 19 :: 20 :: 7 :: 21 :: 22 :: 23 :: 5 :: 24 :: 17 :: []) (fun g s' V => ∃ k : Nat, s' 17 = .int .i64 ((k : Nat) : Int) ∧ s' 5 = .bool true ∧ g = (splB s).length - k ∧ k ≤ (splB s).length ∧ ∀ (j : Nat) (hj : j < (splB s).length), j < k → wordB (splB s)[j] = true) (splB s).length ⟨0, rfl, rfl, rfl, Nat.zero_le _, by intros; omega⟩ ?_
    rintro _ sd w3 hS3 ⟨k, h17, h5, rfl, hk, hpre⟩
    refine W.fix h17 (W.fix (d := 5) h5 ?_)
    clear h17 h5
    by_cases hkl : k < (splB s).length
    rotate_left
    · have hall : (splB s).all wordB = true := all_yes fun j hj => hpre j hj (by omega)
      (refine jjB ?_; refine jjC ?_; refine jja rfl rfl (by omega) ?_; refine jz ?_; refine jjB ?_; refine jjK rfl ?_; refine jjE ?_; refine jjB ?_; refine jjC ?_; apply jI; exact eS rfl; apply jI; exact eB rfl; apply jJ; exact eS rfl; apply jJ; exact eB rfl; refine jz ?_; refine jjF ?_; refine jC rfl rfl rfl ⟨inferInstance, ?_⟩)
      rw [hwb, hall]
      exact ⟨_, rfl, (hO.ext hS3.ext)⟩
    have hsz := hb.2 _ (List.getElem_mem hkl)
    have i3 : RowI w3 (.slice a (splB s).length c) false 1 ((splB s).map strV) := ⟨(hO.ext hS3.ext).row⟩
    obtain ⟨B, hB⟩ : ∃ B, wordB (splB s)[k] = B := ⟨_, rfl⟩
    (refine jjB ?_; refine jjC ?_; refine jjZ rfl rfl (by omega) ?_; refine jz ?_; refine jjB ?_; refine jjJ rfl ?_; refine jjG ?_; refine jjB ?_; refine jjD ?_; refine jjB ?_; refine jjC ?_; refine jF rfl rfl rfl (map_get (by omega)) ?_; intro _ _ _; refine jQ rfl rfl ?_; apply jJ; exact eT rfl; refine jz ?_; refine jjB ?_; refine jjC ?_; apply jI; exact eT rfl)
    refine jjQ ((word_slip (splB s)[k] _ (by omega)).mono fun v _ _ e => e.trans (by rw [hB])) rfl rfl ?_
    rintro _ w4 hS4 rfl
    cases B
    · have hall : (splB s).all wordB = false := all_no hkl hB
      (refine jq rfl ?_; refine jz ?_; refine jjJ rfl ?_; refine jjB ?_; refine jjC ?_; apply jJ; exact eB rfl; refine jz ?_; refine jjE ?_; refine jjB ?_; refine jjC ?_; apply jI; exact eS rfl; apply jI; exact eB rfl; apply jJ; exact eS rfl; apply jJ; exact eB rfl; refine jz ?_; refine jjF ?_; refine jC rfl rfl rfl ⟨inferInstance, ?_⟩)
      rw [hwb, hall]
      exact ⟨_, rfl, hO.ext (hS3.ext.trans hS4.ext)⟩
    · (refine jp rfl ?_; refine jz ?_; refine jjK rfl ?_; refine jjG ?_; refine jjC ?_; refine jY rfl rfl (by omega) ?_; apply jI; exact eI rfl; refine jz ?_)
      refine ⟨rfl, by ((refine Same.upd rfl ?_; refine Same.upd rfl ?_; refine Same.upd rfl ?_; refine Same.upd rfl ?_; refine Same.upd rfl ?_; refine Same.upd rfl ?_; refine Same.upd rfl ?_; refine Same.upd rfl ?_; refine Same.upd rfl ?_; refine Same.upd rfl ?_; refine Same.upd rfl ?_; exact Same.ovN)), (splB s).length - (k + 1), by omega, inferInstance, k + 1, congrArg (Value.int .i64) (by omega), rfl, rfl, by omega, fun j hj hjk => ?_⟩
      by_cases e : j = k
      · subst e; exact hB
      · exact hpre j hj (by omega)
  · have hwb := wordsB_len h0 h80
    (apply jJ; exact eS rfl; refine jz ?_; refine jjB ?_; refine jjC ?_; apply jI; exact eT rfl; refine ji rfl ?_; refine jjc rfl rfl (by omega) ?_; apply jJ; exact eB rfl; refine jz ?_; refine jjB ?_; refine jjI ?_; refine jjB ?_; refine jjB ?_; refine jjC ?_; apply jI; exact eS rfl; refine jh rfl ?_; apply jI; exact eI rfl; refine jz ?_; refine jjD ?_)
    refine W.keep0 [(4, .slice a (splB s).length c), (5, .bool false), (15, .slice a (splB s).length c), (16, .int .i64 (((splB s).length : Nat) : Int)), (17, .int .i64 ((0 : Nat) : Int))] ⟨eS rfl, eB rfl, eS rfl, eI rfl, eI rfl, trivial⟩ fun s0 => ?_
    refine W.loop (18 :: 19 :: 20 :: 7 :: 21 :: 22 :: 23 :: 5 :: 24 :: 17 :: []) (fun g s' V => ∃ k : Nat, s' 17 = .int .i64 ((k : Nat) : Int) ∧ s' 5 = .bool false ∧ g = (splB s).length - k ∧ k ≤ (splB s).length) (splB s).length ⟨0, rfl, rfl, rfl, Nat.zero_le _⟩ ?_
    rintro _ sd w3 hS3 ⟨k, h17, h5, rfl, hk⟩
    refine W.fix h17 (W.fix (d := 5) h5 ?_)
    clear h17 h5
    by_cases hkl : k < (splB s).length
    rotate_left
    · (refine jjB ?_; refine jjC ?_; refine jja rfl rfl (by omega) ?_; refine jz ?_; refine jjB ?_; refine jjK rfl ?_; refine jjE ?_; refine jjB ?_; refine jjC ?_; apply jI; exact eS rfl; apply jI; exact eB rfl; apply jJ; exact eS rfl; apply jJ; exact eB rfl; refine jz ?_; refine jjF ?_; refine jC rfl rfl rfl ⟨inferInstance, ?_⟩)
      rw [hwb]
      exact ⟨_, rfl, (hO.ext hS3.ext)⟩
    have hsz := hb.2 _ (List.getElem_mem hkl)
    have i3 : RowI w3 (.slice a (splB s).length c) false 1 ((splB s).map strV) := ⟨(hO.ext hS3.ext).row⟩
    obtain ⟨B, hB⟩ : ∃ B, wordB (splB s)[k] = B := ⟨_, rfl⟩
    (refine jjB ?_; refine jjC ?_; refine jjZ rfl rfl (by omega) ?_; refine jz ?_; refine jjB ?_; refine jjJ rfl ?_; refine jjG ?_; refine jjB ?_; refine jjD ?_; refine jjB ?_; refine jjC ?_; refine jF rfl rfl rfl (map_get (by omega)) ?_; intro _ _ _; refine jQ rfl rfl ?_; apply jJ; exact eT rfl; refine jz ?_; refine jjB ?_; refine jjC ?_; apply jI; exact eT rfl)
    refine jjQ ((word_slip (splB s)[k] _ (by omega)).mono fun v _ _ e => e.trans (by rw [hB])) rfl rfl ?_
    rintro _ w4 hS4 rfl
    cases B
    · (refine jq rfl ?_; refine jz ?_; refine jjJ rfl ?_; refine jjB ?_; refine jjC ?_; apply jJ; exact eB rfl; refine jz ?_; refine jjE ?_; refine jjB ?_; refine jjC ?_; apply jI; exact eS rfl; apply jI; exact eB rfl; apply jJ; exact eS rfl; apply jJ; exact eB rfl; refine jz ?_; refine jjF ?_; refine jC rfl rfl rfl ⟨inferInstance, ?_⟩)
      rw [hwb]
      exact ⟨_, rfl, hO.ext (hS3.ext.trans hS4.ext)⟩
    · (refine jp rfl ?_; refine jz ?_; refine jjK rfl ?_; refine jjG ?_; refine jjC ?_; refine jY rfl rfl (by omega) ?_; apply jI; exact eI rfl; refine jz ?_)
      exact ⟨rfl, by ((refine Same.upd rfl ?_; refine Same.upd rfl ?_; refine Same.upd rfl ?_; refine Same.upd rfl ?_; refine Same.upd rfl ?_; refine Same.upd rfl ?_; refine Same.upd rfl ?_; refine Same.upd rfl ?_; refine Same.upd rfl ?_; refine Same.upd rfl ?_; refine Same.upd rfl ?_; exact Same.ovN)), (splB s).length - (k + 1), by omega, inferInstance, k + 1, congrArg (Value.int .i64) (by omega), rfl, rfl, by omega⟩
end
end Go.Proofs.YtpbkphaceljclaaGreatDoor
