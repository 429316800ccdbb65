/- Texts of the proof, part 6: Wd1, Cw2, LoP, LwP, LsP, Eng33, Eng30, Lg1, Eng29, Lg2, Eng18, Pc1, Rdy, PlY, LawSi. -/
import Derived.Laws.Small
import Derived.ChangeKeysEq
import Derived.Test.YtpbkphaceljclaaGreatDoorSD5
/- width: the length of a slip's context. -/
namespace Go.Proofs.YtpbkphaceljclaaGreatDoor
open Go.RowKit

/-- Texts of a chapter's length at most. -/
def SmallZ (x : Slp) : Prop := x.2.1.size ≤ 100000 ∧ x.2.2.1.size ≤ 100000 ∧ x.2.2.2.size ≤ 100000
set_option maxHeartbeats 4000000 in
theorem width_law3 (s : Slp) (w : World) (hs : SmallZ s) : Ct Tryz.prog 18 [encSl s] w fun v _ => v = .int .i64 (widthN s : Int) := by
  obtain ⟨h1, h2, h3⟩ := hs
  refine Ct.ofW (by simp) ?_
  (refine jjB ?_; refine jjC ?_)
  (refine jy rfl ?_; intro b1 w_b1 hb_b1 hs_b1 hS_b1 hk_b1; have hA_b1 := At.ofBlock hk_b1)
  have hx1 : At w_b1 b1 0 [.int .i64 s.1.1, .int .i64 s.1.2.1, .int .i64 s.1.2.2, .string s.2.1, .string s.2.2.1, .string s.2.2.2] := hA_b1
  (apply jJ; exact eI rfl; refine jz ?_; refine jjB ?_; refine jjC ?_; refine jm ?_; refine jn rfl ?_; refine jN rfl rfl rfl ?_; refine ji rfl ?_; apply jJ; exact eI rfl; refine jz ?_; refine jjB ?_; refine jjB ?_; refine jjC ?_; refine jm ?_; refine jn rfl ?_; refine jN rfl rfl rfl ?_; refine jm ?_; refine jn rfl ?_; refine jN rfl rfl rfl ?_)
  refine Ops.buildSliceF (cells := [.string s.2.2.1, .string s.2.2.2]) rfl rfl rfl ?_
  intro b13 w7 hb13 hs13 hS7 hk13
  have hR : RowV w7 false 1 (.slice (some ⟨b13, 0, none⟩) 2 2) ([s.2.2.1, s.2.2.2].map strV) := Bk.rows (xs := [s.2.2.1, s.2.2.2].map strV) hk13 (by simp [fitsV, strV]) (by simp)
  have iR := RowI.mk hR
  (refine jh rfl ?_; apply jI; exact eI rfl; refine jz ?_; refine jjD ?_)
  refine W.keep0 [(3, .int .i64 ((s.2.1.size : Nat) : Int)), (13, .slice (some ⟨b13, 0, none⟩) 2 2), (14, .int .i64 2), (15, .int .i64 ((0 : Nat) : Int))] ⟨eI rfl, eS rfl, eI rfl, eI rfl, trivial⟩ fun s0 => ?_
  refine W.loop (16 :: 17 :: 18 :: 5 :: 19 :: 20 :: 21 :: 22 :: 23 :: 24 :: 25 :: 3 :: 26 :: 15 :: []) (fun g s' V => ∃ k : Nat, s' 15 = .int .i64 ((k : Nat) : Int) ∧ g = 2 - k ∧ k ≤ 2 ∧ s' 3 = .int .i64 ((s.2.1.size + (([s.2.2.1, s.2.2.2].take k).map gapN).sum : Nat) : Int)) 2 ⟨0, rfl, rfl, Nat.zero_le _, rfl⟩ ?_
  rintro _ sd V hS ⟨k, h15, rfl, hk, h3'⟩
  by_cases hk2 : k < 2
  · have hkl : k < [s.2.2.1, s.2.2.2].length := hk2
    obtain ⟨u, hu⟩ : ∃ u, [s.2.2.1, s.2.2.2][k] = u := ⟨_, rfl⟩
    have hus : u.size ≤ 100000 := by
      rcases k with _ | _ | k
      · rw [← hu]; exact h2
      · rw [← hu]; exact h3
      · omega
    have hsum : (([s.2.2.1, s.2.2.2].take (k + 1)).map gapN).sum = (([s.2.2.1, s.2.2.2].take k).map gapN).sum + gapN u := by
      rw [List.take_add_one, List.getElem?_eq_getElem hkl, hu, List.map_append, List.sum_append]; simp
    have hsm : (([s.2.2.1, s.2.2.2].take k).map gapN).sum ≤ 400000 := by
      rcases k with _ | _ | k
      · simp
      · simp only [List.take, List.map_cons, List.map_nil, List.sum_cons, List.sum_nil, gapN]; split <;> omega
      · omega
    obtain ⟨z, hz⟩ : ∃ z, (([s.2.2.1, s.2.2.2].take k).map gapN).sum = z := ⟨_, rfl⟩
    rw [hz] at h3' hsum hsm
    refine W.fix (d := 3) h3' (W.fix (d := 15) h15 ?_)
    clear h3' h15
    (refine jjB ?_; refine jjC ?_; refine jjZ rfl rfl (by omega) ?_; refine jz ?_; refine jjB ?_; refine jjJ rfl ?_; refine jjG ?_; refine jjB ?_; refine jjD ?_; refine jjB ?_; refine jjC ?_; refine jF rfl rfl rfl (map_get (by omega)) ?_; intro _ _ _; refine jQ rfl rfl ?_; apply jJ; exact eT rfl; refine jz ?_; refine jjB ?_; refine jjC ?_; apply jI; exact eT rfl)
    rw [hu]
    skip
    refine Ops.neqS rfl rfl ?_
    by_cases hn : u.size = 0
    · rw [decide_eq_false (p := ¬ u = ⟨#[]⟩) (by rw [str_nil]; simp [hn])]
      (refine jz ?_; refine jjK rfl ?_; refine jjG ?_; refine jjC ?_; refine jY rfl rfl (by omega) ?_; apply jI; exact eI rfl; refine jz ?_)
      refine ⟨rfl, by ((refine Same.upd rfl ?_; refine Same.upd rfl ?_; refine Same.upd rfl ?_; refine Same.upd rfl ?_; refine Same.upd rfl ?_; refine Same.upd rfl ?_; refine Same.upd rfl ?_; refine Same.upd rfl ?_; refine Same.upd rfl ?_; refine Same.upd rfl ?_; exact Same.ovN)), 2 - (k + 1), by omega, inferInstance, k + 1, congrArg (Value.int .i64) (by omega), rfl, by omega, congrArg (Value.int .i64) ?_⟩
      rw [hsum, gapN, if_pos hn]; omega
    · rw [decide_eq_true (p := ¬ u = ⟨#[]⟩) (by rw [str_nil]; exact hn)]
      (refine jz ?_; refine jjJ rfl ?_; refine jjC ?_; apply jI; exact eI rfl; apply jI; exact eT rfl; refine ji rfl ?_; refine jY rfl rfl (by omega) ?_; refine jY rfl rfl (by omega) ?_; apply jJ; exact eI rfl; refine jz ?_; refine jjC ?_; refine jY rfl rfl (by omega) ?_; apply jI; exact eI rfl; refine jz ?_)
      refine ⟨rfl, by ((refine Same.upd rfl ?_; refine Same.upd rfl ?_; refine Same.upd rfl ?_; refine Same.upd rfl ?_; refine Same.upd rfl ?_; refine Same.upd rfl ?_; refine Same.upd rfl ?_; refine Same.upd rfl ?_; refine Same.upd rfl ?_; refine Same.upd rfl ?_; refine Same.upd rfl ?_; refine Same.upd rfl ?_; refine Same.upd rfl ?_; refine Same.upd rfl ?_; refine Same.upd rfl ?_; refine Same.upd rfl ?_; exact Same.ovN)), 2 - (k + 1), by omega, inferInstance, k + 1, congrArg (Value.int .i64) (by omega), rfl, by omega, congrArg (Value.int .i64) ?_⟩
      rw [hsum, gapN, if_neg hn]; omega
  obtain rfl : k = 2 := by omega
  refine W.fix (d := 3) h3' (W.fix (d := 15) h15 ?_)
  clear h3' h15
  (refine jjB ?_; refine jjC ?_; refine jja rfl rfl (by omega) ?_; refine jz ?_; refine jjB ?_; refine jjK rfl ?_; refine jjE ?_; refine jjB ?_; refine jjC ?_; apply jI; exact eI rfl; apply jJ; exact eI rfl; refine jz ?_; refine jjF ?_; refine jB rfl rfl ⟨inferInstance, ?_⟩)
  exact congrArg (Value.int .i64) (by simp only [widthN, List.take, List.map_cons, List.map_nil, List.sum_cons, List.sum_nil]; omega)
end Go.Proofs.YtpbkphaceljclaaGreatDoor

/- The law's helpers: how many words a text has, and how uneven a slip is (SlipSides). -/
namespace Go.Proofs.YtpbkphaceljclaaGreatDoor
open Go.RowKit

set_option maxHeartbeats 4000000 in
theorem count_sides (s : ByteArray) (w : World) (hz : s.size ≤ 100000) (ha : AscB s) (h0 : ∀ h : 0 < s.size, s[0] ≠ 32) : Ct Tryz.prog 21 [.string s] w fun v _ => v = .int .i64 (nW s : Int) := by
  refine Ct.ofW (by simp) ?_
  (refine jjB ?_; refine jjC ?_; apply jJ; exact eI rfl; refine jz ?_; refine jjB ?_; refine jjC ?_; apply jJ; exact eI rfl; refine jz ?_; refine jjB ?_; refine jjB ?_; refine jjC ?_; apply jI; exact eT rfl)
  refine Ops.rangeS rfl ?_
  intro kb w1 hkb hS1 hIt
  (refine jz ?_; refine jjD ?_)
  have hE1 : Ext w w1 := inferInstance
  refine W.keep0 [(3, .int .i64 ((0 : Nat) : Int)), (7, .pointer (some ⟨kb, 0, none⟩))] ⟨eI rfl, eP rfl, trivial⟩ fun s0 => ?_
  refine W.loopG (8 :: 9 :: 10 :: 11 :: 4 :: 5 :: 12 :: 13 :: 14 :: 15 :: 16 :: 17 :: 18 :: 19 :: 3 :: []) (fun g s' V => ∃ p c : Nat, s' 3 = .int .i64 ((c : Nat) : Int) ∧ g = s.size - p ∧ p ≤ s.size ∧ Ext w V ∧ ItS V kb s p ∧ c = if p = 0 then 0 else (s.data.toList.take p).count 32 + 1) s.size ⟨0, 0, rfl, rfl, Nat.zero_le _, hE1, hIt, rfl⟩ ?_
  rintro _ sd V ⟨p, c, h3, rfl, hp, hE, hI, hc⟩
  refine W.fix (d := 3) h3 ?_
  clear h3
  have hcl : (s.data.toList.take p).count 32 ≤ 100000 := Nat.le_trans List.count_le_length (by rw [List.length_take]; omega)
  by_cases hps : p < s.size
  · have hct := take_count hps
    have hax := ha p hps
    by_cases hp0 : p = 0
    · subst p
      rw [if_pos rfl] at hc
      have h32 := h0 hps
      rw [if_neg h32, List.take_zero, List.count_nil] at hct
      have hi := nat32 h32
      (refine jjB ?_; refine jjC ?_)
      refine Ops.nextY rfl hI hps hax ?_
      intro V2 hp2 hI2
      have hE2 : Ext w V2 := hp2.ext hE (by omega)
      (refine ju rfl rfl ?_; refine jz ?_; refine jjB ?_; refine jjJ rfl ?_; refine jjG ?_; refine jjD ?_; refine jjB ?_; refine jjC ?_; refine ju rfl rfl ?_; refine ju rfl rfl ?_; apply jJ; exact eI rfl; apply jJ; exact eI rfl; refine jz ?_; refine jjB ?_; refine jjC ?_; apply jI; exact eI rfl; refine jji rfl rfl (by omega) ?_; apply jI; exact eB rfl; refine jT rfl rfl rfl ?_; apply jI; exact eI rfl; refine jT rfl rfl rfl ?_; refine jjh rfl rfl (by omega) ?_; apply jL rfl; exact eB rfl; refine jz ?_; refine jjJ rfl ?_; refine jjC ?_; apply jI; exact eI rfl; refine jY rfl rfl (by omega) ?_; apply jJ; exact eI rfl; refine jz ?_)
      exact ⟨rfl, by ((refine Same.upd rfl ?_; refine Same.upd rfl ?_; refine Same.upd rfl ?_; refine Same.upd rfl ?_; refine Same.upd rfl ?_; refine Same.upd rfl ?_; refine Same.upd rfl ?_; refine Same.upd rfl ?_; refine Same.upd rfl ?_; refine Same.upd rfl ?_; refine Same.upd rfl ?_; refine Same.upd rfl ?_; refine Same.upd rfl ?_; refine Same.upd rfl ?_; refine Same.upd rfl ?_; refine Same.upd rfl ?_; exact Same.ovN)), s.size - (0 + 1), by omega, 0 + 1, c + 1, congrArg (Value.int .i64) (by omega), rfl, by omega, hE2, hI2, by rw [if_neg (by omega), hct, hc]⟩
    · rw [if_neg hp0] at hc
      (refine jjB ?_; refine jjC ?_)
      refine Ops.nextY rfl hI hps hax ?_
      intro V2 hp2 hI2
      have hE2 : Ext w V2 := hp2.ext hE (by omega)
      by_cases h32 : s[p] = 32
      · rw [if_pos h32] at hct
        have hi : ((s[p].toNat : Nat) : Int) = 32 := by rw [h32]; rfl
        (refine ju rfl rfl ?_; refine jz ?_; refine jjB ?_; refine jjJ rfl ?_; refine jjG ?_; refine jjD ?_; refine jjB ?_; refine jjC ?_; refine ju rfl rfl ?_; refine ju rfl rfl ?_; apply jJ; exact eI rfl; apply jJ; exact eI rfl; refine jz ?_; refine jjB ?_; refine jjC ?_; apply jI; exact eI rfl; refine jjh rfl rfl (by omega) ?_; apply jI; exact eB rfl; refine jU rfl rfl rfl rfl ?_; refine jU rfl rfl rfl rfl ?_; apply jK rfl; exact eB rfl; refine jz ?_; refine jjJ rfl ?_; refine jjC ?_; apply jI; exact eI rfl; refine jY rfl rfl (by omega) ?_; apply jJ; exact eI rfl; refine jz ?_)
        exact ⟨rfl, by ((refine Same.upd rfl ?_; refine Same.upd rfl ?_; refine Same.upd rfl ?_; refine Same.upd rfl ?_; refine Same.upd rfl ?_; refine Same.upd rfl ?_; refine Same.upd rfl ?_; refine Same.upd rfl ?_; refine Same.upd rfl ?_; refine Same.upd rfl ?_; refine Same.upd rfl ?_; refine Same.upd rfl ?_; refine Same.upd rfl ?_; refine Same.upd rfl ?_; refine Same.upd rfl ?_; refine Same.upd rfl ?_; exact Same.ovN)), s.size - (p + 1), by omega, p + 1, c + 1, congrArg (Value.int .i64) (by omega), rfl, by omega, hE2, hI2, by rw [if_neg (by omega), hct, hc]⟩
      · rw [if_neg h32] at hct
        have hi := nat32 h32
        (refine ju rfl rfl ?_; refine jz ?_; refine jjB ?_; refine jjJ rfl ?_; refine jjG ?_; refine jjD ?_; refine jjB ?_; refine jjC ?_; refine ju rfl rfl ?_; refine ju rfl rfl ?_; apply jJ; exact eI rfl; apply jJ; exact eI rfl; refine jz ?_; refine jjB ?_; refine jjC ?_; apply jI; exact eI rfl; refine jji rfl rfl (by omega) ?_; apply jI; exact eB rfl; refine jT rfl rfl rfl ?_; apply jI; exact eI rfl; refine jT rfl rfl rfl ?_; refine jji rfl rfl (by omega) ?_; apply jL rfl; exact eB rfl; refine jz ?_; refine jjK rfl ?_; refine jjG ?_)
        exact ⟨rfl, by ((refine Same.upd rfl ?_; refine Same.upd rfl ?_; refine Same.upd rfl ?_; refine Same.upd rfl ?_; refine Same.upd rfl ?_; refine Same.upd rfl ?_; refine Same.upd rfl ?_; refine Same.upd rfl ?_; refine Same.upd rfl ?_; refine Same.upd rfl ?_; refine Same.upd rfl ?_; refine Same.upd rfl ?_; refine Same.upd rfl ?_; exact Same.ovN)), s.size - (p + 1), by omega, p + 1, c, rfl, rfl, by omega, hE2, hI2, by rw [if_neg (by omega), hct, hc]⟩
  obtain rfl : p = s.size := by omega
  (refine jjB ?_; refine jjC ?_)
  refine Ops.nextN rfl hI hps ?_
  (refine ju rfl rfl ?_; refine jz ?_; refine jjB ?_; refine jjK rfl ?_; refine jjE ?_; refine jjB ?_; refine jjC ?_; apply jI; exact eI rfl; apply jJ; exact eI rfl; refine jz ?_; refine jjF ?_; refine jB rfl rfl ⟨inferInstance, ?_⟩)
  rw [take_all] at hc
  rw [nW, ← hc]
  exact rfl
def uneN (x : Slp) : Int := max ((nW x.2.2.1 : Int) - nW x.2.2.2) (-((nW x.2.2.1 : Int) - nW x.2.2.2))
/-- The contexts of a slip are texts of words. -/
def CtxB (s : ByteArray) : Prop := AscB s ∧ ∀ h : 0 < s.size, s[0] ≠ 32
theorem nW_le (s : ByteArray) : nW s ≤ s.size + 1 := by
  rw [nW]
  split
  · omega
  · have := List.count_le_length (a := (32 : UInt8)) (l := s.data.toList)
    rw [Array.length_toList] at this
    have e : s.size = s.data.size := rfl
    omega
set_option maxHeartbeats 4000000 in
theorem uneven_sides (x : Slp) (bw : Nat) (w : World) (hz : SmallZ x) (h1 : CtxB x.2.2.1) (h2 : CtxB x.2.2.2) [hb : At w bw 0 [.func (.func 21) #[] ([] : List Value).toArray]] :
    Ct Tryz.prog 22 [encSl x, .pointer (some ⟨bw, 0, none⟩)] w fun v _ => v = .int .i64 (uneN x) := by
  have hn1 := nW_le x.2.2.1
  have hn2 := nW_le x.2.2.2
  obtain ⟨z1, z2, z3⟩ := hz
  refine Ct.ofW (by simp) ?_
  (refine jjB ?_; refine jjC ?_)
  (refine jy rfl ?_; intro b2 w_b2 hb_b2 hs_b2 hS_b2 hk_b2; have hA_b2 := At.ofBlock hk_b2)
  have hx2 : At w_b2 b2 0 [.int .i64 x.1.1, .int .i64 x.1.2.1, .int .i64 x.1.2.2, .string x.2.1, .string x.2.2.1, .string x.2.2.2] := hA_b2
  (apply jJ; exact eI rfl; refine jz ?_; refine jjB ?_)
  (skip)
  refine W.draw (fun w' => Ext w_b2 w') ?_
  intro w1 hS1
  (refine jjV [0, 1, 2, 4, 5, 6] ?_ ?_ ?_; (decide +kernel); (exact hS1.ext); (((apply jjT; exact rfl; rintro w' hq; have := hq.toStep; refine jN rfl rfl rfl ?_; refine jz ?_; exact ⟨rfl, rfl⟩; apply jjT; exact rfl; rintro w' hq; have := hq.toStep; refine jm ?_; refine jn rfl ?_; refine jz ?_; exact ⟨rfl, rfl⟩; apply jjT; exact rfl; rintro w' hq; have := hq.toStep; refine jN rfl rfl rfl ?_; refine jz ?_; exact ⟨rfl, rfl⟩; apply jjT; exact rfl; rintro w' hq; have := hq.toStep; refine jN rfl rfl rfl ?_; refine jz ?_; exact ⟨rfl, rfl⟩; apply jjT; exact rfl; rintro w' hq; have := hq.toStep; refine jm ?_; refine jn rfl ?_; refine jz ?_; exact ⟨rfl, rfl⟩; apply jjT; exact rfl; rintro w' hq; have := hq.toStep; refine jN rfl rfl rfl ?_; refine jz ?_; exact ⟨rfl, rfl⟩; refine jjU ?_))))
  (apply jjW 3; (decide +kernel); exact rfl; (exact inferInstance))
  refine jjQ (count_sides x.2.2.1 _ z2 h1.1 h1.2) rfl rfl ?_
  rintro _ w2 hS2 rfl
  refine jz ?_
  (apply jjW 7; (decide +kernel); exact rfl; (exact inferInstance))
  refine jjQ (count_sides x.2.2.2 _ z3 h2.1 h2.2) rfl rfl ?_
  rintro _ w3 hS3 rfl
  refine jz ?_
  (refine jjV [8, 9] ?_ ?_ ?_; (decide +kernel); (exact inferInstance); (((apply jjT; exact rfl; rintro w' hq; have := hq.toStep; refine jZ rfl rfl (by omega) ?_; refine jz ?_; exact ⟨rfl, rfl⟩; apply jjT; exact rfl; rintro w' hq; have := hq.toStep; apply jJ; exact eI rfl; refine jz ?_; exact ⟨rfl, rfl⟩; refine jjU ?_))))
  refine jjX (by decide +kernel) inferInstance ?_
  (refine jjB ?_; refine jjC ?_; apply jI; exact eI rfl; apply jI; exact eI rfl)
  refine jjm rfl (by omega) ?_
  (refine jk rfl rfl ?_; apply jJ; exact eI rfl; refine jz ?_; refine jjF ?_; refine jB rfl rfl ⟨inferInstance, ?_⟩)
  exact rfl
end Go.Proofs.YtpbkphaceljclaaGreatDoor

/- Plain law: words put one behind the other, with a space between them. -/
namespace Go.Proofs.YtpbkphaceljclaaGreatDoor
open Go.RowKit

/-- What is cut out around a word. -/
def cutS (p : Pl) (wi : ByteArray) (ws : List ByteArray) (i : Nat) (y : Cx) : Slp := (p, wi, joinB ((ws.take i).drop y.1), joinB ((ws.take (y.2 + 1)).drop (i + 1)))
theorem cutS_small (p : Pl) {wi : ByteArray} {ws : List ByteArray} (i : Nat) (y : Cx) (hl : ws.length ≤ 100) (hw : ∀ w ∈ ws, w.size ≤ 12) (hwi : wi.size ≤ 12) : SmallZ (cutS p wi ws i y) := by
  refine ⟨Nat.le_trans hwi (by decide), ?_, ?_⟩
  · have := joinB_size ((ws.take i).drop y.1) fun s hs => hw s (List.mem_of_mem_take (List.mem_of_mem_drop hs))
    have h2 : ((ws.take i).drop y.1).length ≤ 100 := by rw [List.length_drop, List.length_take]; omega
    show (joinB _).size ≤ 100000
    have h3 := Nat.mul_le_mul_right 13 h2
    omega
  · have := joinB_size ((ws.take (y.2 + 1)).drop (i + 1)) fun s hs => hw s (List.mem_of_mem_take (List.mem_of_mem_drop hs))
    have h2 : ((ws.take (y.2 + 1)).drop (i + 1)).length ≤ 100 := by rw [List.length_drop, List.length_take]; omega
    show (joinB _).size ≤ 100000
    have h3 := Nat.mul_le_mul_right 13 h2
    omega
end Go.Proofs.YtpbkphaceljclaaGreatDoor

/- Plain law: what a wider cut makes. -/
namespace Go.Proofs.YtpbkphaceljclaaGreatDoor
open Go.RowKit

theorem mem_join32 : ∀ {ws : List (List UInt8)} {x : UInt8}, x ∈ Lib.join ws [32] → x = 32 ∨ ∃ w ∈ ws, x ∈ w
  | [], x, h => by simp [Lib.join] at h
  | [w], x, h => by rw [Lib.join_one] at h; exact .inr ⟨w, by simp, h⟩
  | w :: y :: r, x, h => by
    rw [join_cc, List.mem_append, List.mem_cons] at h
    rcases h with h | h | h
    · exact .inr ⟨w, by simp, h⟩
    · exact .inl h
    · rcases mem_join32 h with h | ⟨v, hv, hx⟩
      · exact .inl h
      · exact .inr ⟨v, List.mem_cons_of_mem _ hv, hx⟩
theorem joinB_data (ws : List ByteArray) : (joinB ws).data.toList = Lib.join (ws.map (·.data.toList)) [32] := by simp [joinB]
theorem joinB_ctx {ws : List ByteArray} (h : ∀ w ∈ ws, wordB w = true) : CtxB (joinB ws) := by
  have hlow : ∀ w ∈ ws, ∀ x ∈ w.data.toList, lowB x = true := fun w hw x hx => by
    have := h w hw
    simp only [wordB, Bool.and_eq_true, List.all_eq_true] at this
    exact this.2 x hx
  refine ⟨fun i hi => ?_, fun h0 => ?_⟩
  · have hm : (joinB ws)[i] ∈ Lib.join (ws.map (·.data.toList)) [32] := by
      rw [← joinB_data, ByteArray.getElem_eq_getElem_data]
      exact Array.getElem_mem_toList _
    rcases mem_join32 hm with e | ⟨v, hv, hx⟩
    · rw [e]; decide
    · obtain ⟨w, hw, rfl⟩ := List.mem_map.1 hv
      have := hlow w hw _ hx
      simp only [lowB, decide_eq_true_eq] at this
      omega
  · cases ws with
    | nil => exact absurd h0 (by decide)
    | cons w r =>
      have hw := h w (by simp)
      have hsz := (word_size hw).1
      have hsz' : 0 < w.data.toList.length := by rw [Array.length_toList]; exact hsz
      have e : (joinB (w :: r))[0] = w.data.toList[0] := by
        have e1 : (joinB (w :: r)).data.toList[0]? = some w.data.toList[0] := by
          rw [joinB_data]
          cases r with
          | nil => rw [List.map_cons, List.map_nil, Lib.join_one]; exact List.getElem?_eq_getElem hsz'
          | cons y r => rw [List.map_cons, List.map_cons, join_cc, List.getElem?_append_left hsz']; exact List.getElem?_eq_getElem hsz'
        have e2 : (joinB (w :: r)).data.toList[0]? = some (joinB (w :: r))[0] := by
          rw [ByteArray.getElem_eq_getElem_data, Array.getElem?_toList]
          exact Array.getElem?_eq_getElem _
        exact Option.some.inj (e2.symm.trans e1)
      rw [e]
      exact fun hx => word_noSp hw _ (List.getElem_mem hsz') hx
/-- What is made is cut out around the word. -/
theorem make_cut {cs : List Ch} {k i : Nat} (hk : k < cs.length) {p : Pl} (hki : (runA k (chW cs[k]))[i]? = some p) {wd side : Int} {so : Slp} (ht : textB (txF cs) = true) (hc : cutB wd side = true) (h : makeF (txF cs) side wd p = some so) :
    ∃ hi : i < (rnW cs[k]).length, so = cutS p (rnW cs[k])[i] (rnW cs[k]) i (bestA (rnW cs[k]) side wd i) ∧ ((rnW cs[k])[i].size : Int) ≤ wd ∧ (rnW cs[k]).length ≤ 100 ∧ (∀ s ∈ rnW cs[k], wordB s = true) ∧ (runA k (chW cs[k])).length = (rnW cs[k]).length ∧ p.1 = (k : Int) := by
  obtain ⟨k', i', hi', hk', hki', hww, hiw, hsoE⟩ := make_open ht hc h
  have e1 := runA_fst (List.mem_of_getElem? hki)
  have e2 := runA_fst (List.mem_of_getElem? hki')
  obtain rfl : k' = k := by omega
  have hl := chap_len ht hk'
  have ew : wsT (txF cs) k' = chW cs[k'] := wsT_get hk
  have hrl := runA_len k' (wsT (txF cs) k')
  generalize wsT (txF cs) k' = z at *
  subst ew
  obtain rfl : i' = i := nodup_inj (runA_nodup _ _) hki' hki
  exact ⟨hi', hsoE, hiw, hl, hww, hrl, e1⟩
section
variable {ws : List ByteArray} (hw : ∀ w ∈ ws, wordB w = true) {i : Nat} (hi : i < ws.length) {side wd : Int} (hW : (ws[i].size : Int) ≤ wd) (p : Pl)
include hw hW
/-- The contexts of what is cut out. -/
theorem cut_facts : ∃ y : Cx, bestA ws side wd i = y ∧ y.1 ≤ i ∧ i ≤ y.2 ∧ y.2 < ws.length ∧ (widthN (cutS p ws[i] ws i y) : Int) = lenX ws y ∧ nW (cutS p ws[i] ws i y).2.2.1 = i - y.1 ∧ nW (cutS p ws[i] ws i y).2.2.2 = y.2 - i ∧ CtxB (cutS p ws[i] ws i y).2.2.1 ∧ CtxB (cutS p ws[i] ws i y).2.2.2 := by
  obtain ⟨⟨b1, b2, b3, b4⟩, -⟩ := best_spec (side := side) hi hW
  have ha : ∀ a b, ∀ w ∈ (ws.take b).drop a, wordB w = true := fun a b => take_words hw
  refine ⟨_, rfl, b1, b2, b3, width_cut hw hi b1 b2 b3 p, ?_, ?_, joinB_ctx (ha _ _), joinB_ctx (ha _ _)⟩
  · exact (nW_join (ha _ _)).trans (cut_len b1 (by omega))
  · exact (nW_join (ha _ _)).trans ((cut_len (by omega) (by omega)).trans (by omega))
end
theorem sum_drop_le (l : List Nat) (a : Nat) : (l.drop a).sum ≤ l.sum := by
  conv => rhs; rw [← List.take_append_drop a l]
  rw [List.sum_append]
  omega
/-- A longer context is longer as a text too. -/
theorem join_mono {ws : List ByteArray} {i a b : Nat} (h : a ≤ b) : (joinB ((ws.take i).drop b)).size ≤ (joinB ((ws.take i).drop a)).size := by
  have e : (ws.take i).drop b = ((ws.take i).drop a).drop (b - a) := by rw [List.drop_drop]; congr 1; omega
  rw [e]
  generalize (ws.take i).drop a = l
  generalize b - a = m
  by_cases h1 : l.drop m = []
  · rw [h1]; exact Nat.zero_le _
  · have h2 : l ≠ [] := fun e => h1 (by rw [e, List.drop_nil])
    have e1 := joinB_len h1
    have e2 := joinB_len h2
    have := sum_drop_le (l.map fun s => s.size + 1) m
    rw [← List.map_drop] at this
    omega
theorem make_idx {cs : List Ch} {p : Pl} {wd side : Int} {so : Slp} (ht : textB (txF cs) = true) (hc : cutB wd side = true) (h : makeF (txF cs) side wd p = some so) : ∃ (k i : Nat) (hk : k < cs.length), (runA k (chW cs[k]))[i]? = some p := by
  obtain ⟨k, i, hi, hk, hki, -⟩ := make_open ht hc h
  have hkc : k < cs.length := by rw [← txF_len]; exact hk
  rw [wsT_get hkc] at hki
  exact ⟨k, i, hkc, hki⟩
end Go.Proofs.YtpbkphaceljclaaGreatDoor

/- Plain law: the three sides. -/
namespace Go.Proofs.YtpbkphaceljclaaGreatDoor
open Go.RowKit

theorem cut_sides {wd side : Int} (h : cutB wd side = true) {s : Int} (h1 : 1 ≤ s) (h2 : s ≤ 3) : cutB wd s = true := by
  simp only [cutB, inB, Bool.and_eq_true, decide_eq_true_eq] at h ⊢
  omega
theorem si_facts {cs : List Ch} {p : Pl} {wd : Int} {f : Int → Slp} (ht : textB (txF cs) = true) (hc : ∀ s, 1 ≤ s → s ≤ 3 → cutB wd s = true) (h : ∀ s, 1 ≤ s → s ≤ 3 → makeF (txF cs) s wd p = some (f s)) :
    ∀ s, 1 ≤ s → s ≤ 3 → widthN (f s) = widthN (f 1) ∧ (f s).2.2.1.size ≤ (f 1).2.2.1.size ∧ (f 2).2.2.1.size ≤ (f s).2.2.1.size ∧ uneN (f 3) ≤ uneN (f s) ∧ CtxB (f s).2.2.1 ∧ CtxB (f s).2.2.2 ∧ SmallZ (f s) ∧ (f s).1 = p := by
  intro s s1 s2
  obtain ⟨k, i, hk, hki⟩ := make_idx ht (hc 1 (by omega) (by omega)) (h 1 (by omega) (by omega))
  have hm : ∀ s, 1 ≤ s → s ≤ 3 → ∃ hi : i < (rnW cs[k]).length, f s = cutS p (rnW cs[k])[i] (rnW cs[k]) i (bestA (rnW cs[k]) s wd i) := fun s s1 s2 => by
    obtain ⟨hi, hso, -⟩ := make_cut hk hki ht (hc s s1 s2) (h s s1 s2)
    exact ⟨hi, hso⟩
  obtain ⟨hi, -, hW, hl, hw, -⟩ := make_cut hk hki ht (hc s s1 s2) (h s s1 s2)
  have hat := makeF_at (h s s1 s2)
  obtain ⟨_, e1⟩ := hm 1 (by omega) (by omega)
  obtain ⟨_, e2⟩ := hm 2 (by omega) (by omega)
  obtain ⟨_, e3⟩ := hm 3 (by omega) (by omega)
  obtain ⟨_, es⟩ := hm s s1 s2
  generalize rnW cs[k] = ws at *
  have b1 := best_sides hi hW s 1
  have b2 := best_sides hi hW s 2
  have b3 := best_sides hi hW s 3
  obtain ⟨y1, hy1, a1, a2, a3, a4, a5, a6, -⟩ := cut_facts hw hi (side := 1) hW p
  obtain ⟨y2, hy2, c1, c2, c3, c4, c5, c6, -⟩ := cut_facts hw hi (side := 2) hW p
  obtain ⟨y3, hy3, d1, d2, d3, d4, d5, d6, -⟩ := cut_facts hw hi (side := 3) hW p
  obtain ⟨y, hy, g1, g2, g3, g4, g5, g6, g7, g8⟩ := cut_facts hw hi (side := s) hW p
  rw [hy1] at e1 b1
  rw [hy2] at e2 b2
  rw [hy3] at e3 b3
  rw [hy] at es b1 b2 b3
  have hsz : SmallZ (f s) := by rw [es]; exact cutS_small p i _ hl (fun w h => (word_size (hw w h)).2) (word_size (hw _ (List.getElem_mem hi))).2
  rw [← e1] at a4 a5 a6
  rw [← e3] at d4 d5 d6
  rw [← es] at g4 g5 g6 g7 g8
  refine ⟨by have := b1.1; omega, ?_, ?_, ?_, g7, g8, hsz, hat⟩
  · rw [es, e1]; exact join_mono (b1.2.1 rfl)
  · rw [es, e2]; exact join_mono (b2.2.2.1 rfl)
  · have hu := b3.2.2.2 (by decide) (by decide)
    rw [uneN, uneN, g5, g6, d5, d6, Int.ofNat_sub g1, Int.ofNat_sub g2, Int.ofNat_sub d1, Int.ofNat_sub d2]
    exact hu
end Go.Proofs.YtpbkphaceljclaaGreatDoor

/- The proof engine, part 33: ends of slices, told outright; rows beside what is appended. -/
namespace Go.Proofs.YtpbkphaceljclaaGreatDoor
open Go.RowKit

theorem App.row {B : Nat} {w w' : World} {u v : Value} {agg : Bool} {k : Nat} {xs : List Value} (a : App B w w' u) (h : RowV w agg k v xs) (hne : ∀ g, u.ownBlock = some g → v.ownBlock ≠ some g) : RowV w' agg k v xs :=
  ⟨h.len, h.fit, h.at_.imp id fun ⟨b, o, c, hv, hl, hc⟩ => ⟨b, o, c, hv, hl, fun j x hx => a.at_ (hc j x hx) (fun e => hne b e (by rw [hv]; rfl))⟩⟩
section rules
variable {P : Program} {ro : Option Nat} {n : Nat} {all rest : List Oper} {K : Sl → World → Prop} {s : Sl} {w : World} {d t e ty : Nat} {pos : String} {af : Array Edge} {x : Operand}
end rules
end Go.Proofs.YtpbkphaceljclaaGreatDoor

/- The proof engine, part 30: comparisons of booleans; >= of strings. -/
namespace Go.Proofs.YtpbkphaceljclaaGreatDoor
open Go.RowKit
section rules
variable {P : Program} {ro : Option Nat} {n : Nat} {all rest : List Oper} {K : Sl → World → Prop} {s : Sl} {w : World} {d : Nat} {ty : Nat} {pos : String} {af : Array Edge}
variable {x y : Operand} {t t' : Nat}
end rules
end Go.Proofs.YtpbkphaceljclaaGreatDoor

/- leaf: all places with their words; Words, PlaceOf. -/
namespace Go.Proofs.YtpbkphaceljclaaGreatDoor
open Go.RowKit

abbrev encPW (x : Pl × ByteArray) : List Value := [encPl x.1, .string x.2]
structure BkF (bx bk : Nat) (a : Option Addr) (c : Nat) (cs : List Ch) (w : World) : Prop where
  bx : At w bx 0 [.pointer (some ⟨bk, 0, none⟩)]
  bk : At w bk 0 [.slice a cs.length c]
  row : RowV w true 2 (.slice a cs.length c) (cs.map encCh)
  tx : TextI w cs
set_option maxHeartbeats 4000000 in
theorem all1_leaf (bx bk : Nat) (a : Option Addr) (c : Nat) (cs : List Ch) (hs : SmallT cs) :
    Iter Tryz.prog 93 [.pointer (some ⟨bx, 0, none⟩)] (allW (txF cs) (txF cs).length) encPW (BkF bx bk a c cs) := by
  intro l J Jx M w hJ hJx hF hM1 hM2 hY h0
  have hs1 := hs.1
  have hF0 := hF 0 w h0
  have := hF0.bx
  have := hF0.bk
  refine Calls.ofW (by simp) ?_
  (refine jjB ?_; refine jjC ?_; refine jN rfl rfl rfl ?_; refine jw rfl ?_; refine jm ?_; refine jn rfl ?_; refine jm ?_; refine jn rfl ?_; refine jN rfl rfl rfl ?_; refine jh rfl ?_; apply jI; exact eI rfl; refine jz ?_; refine jjD ?_)
  refine W.keep0 [(0, .func (.yield l) #[] #[]), (13, .slice a cs.length c), (14, .int .i64 (cs.length : Int)), (15, .int .i64 ((0 : Nat) : Int))] ⟨eF rfl, eS rfl, eI rfl, eI rfl, trivial⟩ fun s0 => ?_
  refine W.loopG (16 :: 17 :: 18 :: 19 :: 4 :: 3 :: 20 :: 21 :: 22 :: 23 :: 24 :: 25 :: 26 :: 27 :: 5 :: 6 :: 28 :: 29 :: 30 :: 31 :: 32 :: 33 :: 34 :: 7 :: 8 :: 35 :: 36 :: 37 :: 38 :: 39 :: 40 :: 41 :: 42 :: 43 :: 44 :: 45 :: 15 :: []) (fun g s' w' => ∃ k : Nat, s' 15 = .int .i64 ((k : Nat) : Int) ∧ k ≤ cs.length ∧ g = cs.length - k ∧ J (allW (txF cs) k).length w') cs.length ⟨0, rfl, by omega, rfl, h0⟩ ?_
  rintro _ sd w' ⟨k, h15, hk, rfl, hJk⟩
  refine W.fix h15 ?_
  clear h15
  have hFk := hF _ _ hJk
  by_cases hkc : k < cs.length
  rotate_left
  · obtain rfl : k = cs.length := by omega
    (refine jjB ?_; refine jjC ?_; refine jja rfl rfl (by omega) ?_; refine jz ?_; refine jjB ?_; refine jjK rfl ?_; refine jjE ?_; refine jA rfl ⟨⟨_, rfl⟩, ?_⟩)
    refine .inl ?_
    rw [txF_len]; exact hJk
  have hsk := hs.2 _ (List.getElem_mem hkc)
  have hsl := hsk.1
  have hcl : (chW cs[k]).length = cs[k].2.2.2.length := by simp [chW]
  have hws := wsT_get hkc
  obtain ⟨ba, oa, rfl, hAk⟩ := hFk.row.place' (map_get hkc)
  have htk : k < (txF cs).length := by rw [txF_len]; exact hkc
  (refine jjB ?_; refine jjC ?_; refine jjZ rfl rfl (by omega) ?_; refine jz ?_; refine jjB ?_; refine jjJ rfl ?_; refine jjG ?_; refine jjB ?_; refine jjD ?_; refine jjB ?_; refine jjC ?_; apply jI; exact eI rfl)
  refine jH k rfl rfl rfl hkc ?_
  (refine jQ rfl rfl ?_)
  ((skip); refine jjY ?_; intro b4 w_b4 hb_b4 hs_b4 hS_b4 hk_b4; have hA_b4 := Bk.of hk_b4)
  (apply jJ; exact eI rfl)
  refine Ops.store rfl rfl rfl rfl rfl ?_
  intro wA hpA
  have hEA : Ext w' wA := hpA.ext hS_b4.ext (by omega)
  have hA4 : At wA b4 0 [.int .i64 cs[k].1, .slice cs[k].2.1 cs[k].2.2.2.length cs[k].2.2.1] := Bk.toAt (h := Bk.of hpA.new)
  have hJA := hJ _ _ _ hJk hEA
  (refine jz ?_; refine jjB ?_; refine jjC ?_; refine jm ?_; refine jn rfl ?_; refine jN rfl rfl rfl ?_; refine jh rfl ?_; apply jI; exact eI rfl; refine jz ?_; refine jjD ?_)
  refine W.keep [(0, .func (.yield l) #[] #[]), (13, .slice (some ⟨ba, oa, none⟩) cs.length c), (14, .int .i64 (cs.length : Int)), (15, .int .i64 ((k : Nat) : Int)), (3, .int .i64 ((k : Nat) : Int)), (21, .slice cs[k].2.1 cs[k].2.2.2.length cs[k].2.2.1), (22, .int .i64 (cs[k].2.2.2.length : Int)), (23, .int .i64 ((0 : Nat) : Int))] (D := (16 :: 17 :: 18 :: 19 :: 4 :: 3 :: 20 :: 21 :: 22 :: 23 :: 24 :: 25 :: 26 :: 27 :: 5 :: 6 :: 28 :: 29 :: 30 :: 31 :: 32 :: 33 :: 34 :: 7 :: 8 :: 35 :: 36 :: 37 :: 38 :: 39 :: 40 :: 41 :: 42 :: 43 :: 44 :: 45 :: 15 :: [])) (sO := upds s0 _) (by ((refine Same.upd rfl ?_; refine Same.upd rfl ?_; refine Same.upd rfl ?_; refine Same.upd rfl ?_; refine Same.upd rfl ?_; refine Same.upd rfl ?_; refine Same.upd rfl ?_; refine Same.upd rfl ?_; refine Same.upd rfl ?_; refine Same.upd rfl ?_; refine Same.upd rfl ?_; exact Same.ovN))) ⟨eF rfl, eS rfl, eI rfl, eI rfl, eI rfl, eS rfl, eI rfl, eI rfl, trivial⟩ fun s1 hs1' => ?_
  refine W.loopG (24 :: 25 :: 26 :: 27 :: 5 :: 6 :: 28 :: 29 :: 30 :: 31 :: 32 :: 33 :: 34 :: 7 :: 8 :: 35 :: 36 :: 37 :: 38 :: 39 :: 40 :: 41 :: 42 :: 43 :: 44 :: 23 :: []) (fun g s' V => ∃ n : Nat, s' 23 = .int .i64 ((n : Nat) : Int) ∧ n ≤ cs[k].2.2.2.length ∧ g = cs[k].2.2.2.length - n ∧ J ((allW (txF cs) k).length + ((chW cs[k]).take n).flatten.length) V) cs[k].2.2.2.length ⟨0, rfl, by omega, rfl, hJA⟩ ?_
  rintro _ sd2 V ⟨n, h23, hn, rfl, hJn⟩
  refine W.fix h23 ?_
  clear h23
  have hFn := hF _ _ hJn
  by_cases hnl : n < cs[k].2.2.2.length
  rotate_left
  · obtain rfl : n = cs[k].2.2.2.length := by omega
    rw [← hcl, List.take_length, ← hws, ← allW_succ] at hJn
    (refine jjB ?_; refine jjC ?_; refine jja rfl rfl (by omega) ?_; refine jz ?_; refine jjB ?_; refine jjK rfl ?_; refine jjE ?_; refine jjC ?_; refine jY rfl rfl (by omega) ?_; apply jI; exact eI rfl; refine jz ?_)
    exact ⟨rfl, by ((refine Same.upd rfl ?_; refine Same.upd rfl ?_; refine Same.upd rfl ?_; refine Same.upd rfl ?_; refine Same.ovN' rfl ?_; assumption)), cs.length - (k + 1), by omega, k + 1, congrArg (Value.int .i64) (by omega), by omega, rfl, hJn⟩
  have hsn := hsk.2 _ (List.getElem_mem hnl)
  have hsq := hsn.1
  have hnc : n < (chW cs[k]).length := by rw [hcl]; exact hnl
  have hcn : (chW cs[k])[n] = cs[k].2.2.2[n].2.2 := by simp [chW]
  have hnx := flat_len_succ hnc
  rw [hcn] at hnx
  have iL := hFn.tx.line hkc
  (refine jjB ?_; refine jjC ?_; refine jjZ rfl rfl (by omega) ?_; refine jz ?_; refine jjB ?_; refine jjJ rfl ?_; refine jjG ?_; refine jjB ?_; refine jjD ?_; refine jjB ?_; refine jjC ?_; apply jI; exact eI rfl; refine jF rfl rfl rfl (map_get (by omega)) ?_; intro _ _ _; refine jQ rfl rfl ?_; apply jJ; exact eI rfl; apply jJ; exact eS rfl; refine jz ?_; refine jjB ?_; refine jjC ?_; apply jI; exact eS rfl; refine jh rfl ?_; apply jI; exact eI rfl; refine jz ?_; refine jjD ?_)
  refine W.keep [(0, .func (.yield l) #[] #[]), (13, .slice (some ⟨ba, oa, none⟩) cs.length c), (14, .int .i64 (cs.length : Int)), (15, .int .i64 ((k : Nat) : Int)), (3, .int .i64 ((k : Nat) : Int)), (21, .slice cs[k].2.1 cs[k].2.2.2.length cs[k].2.2.1), (22, .int .i64 (cs[k].2.2.2.length : Int)), (23, .int .i64 ((n : Nat) : Int)), (5, .int .i64 ((n : Nat) : Int)), (28, .slice cs[k].2.2.2[n].1 cs[k].2.2.2[n].2.2.length cs[k].2.2.2[n].2.1), (29, .int .i64 (cs[k].2.2.2[n].2.2.length : Int)), (30, .int .i64 ((0 : Nat) : Int))] (D := (24 :: 25 :: 26 :: 27 :: 5 :: 6 :: 28 :: 29 :: 30 :: 31 :: 32 :: 33 :: 34 :: 7 :: 8 :: 35 :: 36 :: 37 :: 38 :: 39 :: 40 :: 41 :: 42 :: 43 :: 44 :: 23 :: [])) (sO := upds s1 _) (by ((refine Same.upd rfl ?_; refine Same.upd rfl ?_; refine Same.upd rfl ?_; refine Same.upd rfl ?_; refine Same.upd rfl ?_; refine Same.upd rfl ?_; refine Same.upd rfl ?_; refine Same.upd rfl ?_; refine Same.upd rfl ?_; refine Same.upd rfl ?_; exact Same.ovN))) ⟨eF rfl, eS rfl, eI rfl, eI rfl, eI rfl, eS rfl, eI rfl, eI rfl, eI rfl, eS rfl, eI rfl, eI rfl, trivial⟩ fun s2 hs2' => ?_
  refine W.loopG (31 :: 32 :: 33 :: 34 :: 7 :: 8 :: 35 :: 36 :: 37 :: 38 :: 39 :: 40 :: 41 :: 42 :: 43 :: 30 :: []) (fun g s' V => ∃ q : Nat, s' 30 = .int .i64 ((q : Nat) : Int) ∧ q ≤ cs[k].2.2.2[n].2.2.length ∧ g = cs[k].2.2.2[n].2.2.length - q ∧ J ((allW (txF cs) k).length + (((chW cs[k]).take n).flatten.length + q)) V) cs[k].2.2.2[n].2.2.length ⟨0, rfl, by omega, rfl, hJn⟩ ?_
  rintro _ sd3 V2 ⟨q, h30, hq, rfl, hJq⟩
  refine W.fix h30 ?_
  clear h30
  have hFq := hF _ _ hJq
  by_cases hql : q < cs[k].2.2.2[n].2.2.length
  rotate_left
  · obtain rfl : q = cs[k].2.2.2[n].2.2.length := by omega
    (refine jjB ?_; refine jjC ?_; refine jja rfl rfl (by omega) ?_; refine jz ?_; refine jjB ?_; refine jjK rfl ?_; refine jjE ?_; refine jjC ?_; refine jY rfl rfl (by omega) ?_; apply jI; exact eI rfl; refine jz ?_)
    exact ⟨rfl, by ((refine Same.upd rfl ?_; refine Same.upd rfl ?_; refine Same.upd rfl ?_; refine Same.upd rfl ?_; refine Same.ovN' rfl ?_; assumption)), cs[k].2.2.2.length - (n + 1), by omega, n + 1, congrArg (Value.int .i64) (by omega), by omega, rfl, by rw [hnx]; exact hJq⟩
  have hqc : q < ((wsT (txF cs) k)[n]'(by rw [hws]; exact hnc)).length := by simp only [hws, hcn]; exact hql
  have hall := allW_at htk (by rw [hws]; exact hnc) hqc
  simp only [hws, hcn] at hall
  have iW := hFq.tx.word hkc hnl
  (refine jjB ?_; refine jjC ?_; refine jjZ rfl rfl (by omega) ?_; refine jz ?_; refine jjB ?_; refine jjJ rfl ?_; refine jjG ?_; refine jjB ?_; refine jjD ?_; refine jjB ?_; refine jjC ?_; apply jI; exact eI rfl; refine jF rfl rfl rfl (map_get (by omega)) ?_; intro _ _ _; refine jQ rfl rfl ?_; apply jJ; exact eI rfl; apply jJ; exact eT rfl; refine jz ?_; refine jjB ?_; refine jjC ?_; apply jI; exact eF rfl; apply jI; exact eI rfl; apply jI; exact eI rfl; apply jI; exact eI rfl)
  (refine jjS (cells := [.int .i64 (k : Int), .int .i64 (n : Int), .int .i64 (q : Int)]) ?_ ?_; exact rfl)
  (apply jI; exact eT rfl)
  refine Ops.yield (hY _ _ _ hall hJq) rfl rfl ?_
  rintro e V3 (⟨rfl, hJ3, hFr⟩ | ⟨rfl, hJx3⟩)
  · refine ⟨_, rfl, ?_⟩
    (refine jp rfl ?_; refine jz ?_; refine jjK rfl ?_; refine jjG ?_; refine jjC ?_; refine jY rfl rfl (by omega) ?_; apply jI; exact eI rfl; refine jz ?_)
    exact ⟨rfl, by ((refine Same.upd rfl ?_; refine Same.upd rfl ?_; refine Same.upd rfl ?_; refine Same.upd rfl ?_; refine Same.upd rfl ?_; refine Same.upd rfl ?_; refine Same.upd rfl ?_; refine Same.upd rfl ?_; refine Same.upd rfl ?_; refine Same.upd rfl ?_; refine Same.upd rfl ?_; refine Same.upd rfl ?_; refine Same.upd rfl ?_; refine Same.upd rfl ?_; refine Same.upd rfl ?_; refine Same.upd rfl ?_; refine Same.upd rfl ?_; exact Same.ovN)), cs[k].2.2.2[n].2.2.length - (q + 1), by omega, q + 1, congrArg (Value.int .i64) (by omega), by omega, rfl, hJ3⟩
  · refine ⟨_, rfl, ?_⟩
    (refine jq rfl ?_; refine jz ?_; refine jjJ rfl ?_; refine jjF ?_; refine jA rfl ⟨⟨_, rfl⟩, ?_⟩)
    exact .inr ⟨_, (List.getElem?_eq_some_iff.1 hall).1, hJx3⟩
theorem all_leaf (bk : Nat) (w : World) : Ct Tryz.prog 61 [.pointer (some ⟨bk, 0, none⟩)] w fun v w' => ∃ bx, v = .func (.func 93) #[] ([.pointer (some ⟨bx, 0, none⟩)] : List Value).toArray ∧ w.heap.size ≤ bx ∧ At w' bx 0 [.pointer (some ⟨bk, 0, none⟩)] := by
  refine Ct.ofW (by simp) ?_
  (refine jjB ?_; refine jjC ?_)
  (refine jy rfl ?_; intro bx w_bx hb_bx hs_bx hS_bx hk_bx; have hA_bx := At.ofBlock hk_bx)
  (apply jJ; exact rfl; refine jz ?_; refine jjB ?_; refine jjC ?_; refine jv ?_; apply jJ; exact eF rfl; refine jz ?_; refine jjF ?_; refine jB rfl rfl ⟨inferInstance, ?_⟩)
  exact ⟨bx, rfl, by omega, inferInstance⟩
end Go.Proofs.YtpbkphaceljclaaGreatDoor

/- The proof engine, part 29: two results in variables, where marks lie. -/
namespace Go.Proofs.YtpbkphaceljclaaGreatDoor
open Go.RowKit

theorem fin2CCM {P : Program} {fn : Func} {n N t ty b size bytes t1 ty1 b1 : Nat} {R : Value → World → Prop} {s : Sl} {ds : List Deferred} {w : World} {cs : List Value} {dd dd1 : TypeDesc} {z v1 : Value} {e e1 : Nat} (hf : fn.results = #[.cell t ty, .cell t1 ty1]) (ht : Nat.blt t n = true) (h1 : Nat.blt t1 n = true)
    (hs : s t = .pointer (some ⟨b, 0, none⟩)) (hs1 : s t1 = .pointer (some ⟨b1, 0, none⟩)) (hb : Bk w b cs e) (hb1 : Bk w b1 [v1] e1) [hu : TU P ty dd] (hag : TypeDesc.isAgg dd = true) [hz : TS P ty z size bytes] (hl : cs.length = size) [hu1 : TU P ty1 dd1] (hag1 : TypeDesc.isAgg dd1 = false) (hm : Mks N w ds)
    (h : ∀ w', Grow N w w' → R (.tuple #[.agg cs.toArray, v1]) w') : finM P fn n N R s ds w := by
  unfold finM
  refine ⟨hm, fun w' g => ⟨.tuple #[.agg cs.toArray, v1], ?_, h w' g⟩⟩
  have e0 : (mkA n s []).tmps[t]?.getD undef = .pointer (some ⟨b, 0, none⟩) := by
    rw [mkA_getElem?, if_pos (by simpa using ht)]; exact hs
  have e1 : (mkA n s []).tmps[t1]?.getD undef = .pointer (some ⟨b1, 0, none⟩) := by
    rw [mkA_getElem?, if_pos (by simpa using h1)]; exact hs1
  have hA := Bk.toAt (h := hb.grow g)
  have r0 := run_loadVar_agg (P := P) (t := ty) (w := w') (b := b) (o := 0) hu hag hz (cs := cs) hl (fun i v hv => by have := hA.h i v hv; simpa using this)
  have hc1 : w'.cell? ⟨b1, 0, none⟩ = some v1 := Bk.cell1 (hb1.grow g)
  have r1 := run_loadVar_cell (P := P) (w := w') hu1 hag1 hc1
  simp [results, hf, e0, e1, asAddr, r0, r1]
end Go.Proofs.YtpbkphaceljclaaGreatDoor

/- leaf: Words, PlaceOf. -/
namespace Go.Proofs.YtpbkphaceljclaaGreatDoor
open Go.RowKit

def wordsR (t : Tx) : Int × Int := if textB t then ((allW t t.length).length, 0) else (0, 10)
theorem allW_small {cs : List Ch} (ht : textB (txF cs) = true) : (allW (txF cs) (txF cs).length).length ≤ 600 := by
  have h := allS_len (side := 1) (wd := 12) ht
  rw [allS, List.length_map] at h
  rw [allW_len]; exact h
section
variable (a : Option Addr) (c : Nat) (cs : List Ch) (w : World) [hrow : RowI w (.slice a cs.length c) true 2 (cs.map encCh)] [hT : TextI w cs]
set_option maxHeartbeats 2000000 in
theorem Words_leaf (hs : SmallT cs) : Ct Tryz.prog 47 [.agg #[.slice a cs.length c]] w fun v _ => v = .tuple #[.int .i64 (wordsR (txF cs)).1, .int .i64 (wordsR (txF cs)).2] := by
  refine Ct.ofWM (by simp) ?_
  (refine jjB ?_; refine jjC ?_)
  (refine jy rfl ?_; intro b1 w_b1 hb_b1 hs_b1 hS_b1 hk_b1; have hA_b1 := At.ofBlock hk_b1)
  (apply jJ; exact eI rfl; apply jJ; exact eI rfl; refine jz ?_; refine jjB ?_; refine jjC ?_; refine jO rfl rfl rfl rfl ?_)
  obtain ⟨B, hB⟩ : ∃ B, textB (txF cs) = B := ⟨_, rfl⟩
  refine jjQ ((open_leaf a c cs _ hs).mono fun v _ _ h => by rw [hB] at h; exact h) rfl rfl ?_
  rintro _ w2 hS2 ⟨o, rfl, ho⟩
  have hE2 : Ext w w2 := inferInstance
  rw [wordsR, hB]
  cases B with
  | false =>
    (apply jI; exact eU rfl; refine ju rfl rfl ?_; refine ju rfl rfl ?_; apply jJ; exact rfl; apply jJ; exact eI rfl; refine jz ?_; refine jjB ?_; refine jjB ?_; refine jjC ?_; apply jI; exact eI rfl; refine jc rfl rfl ?_; refine jz ?_; refine jjJ rfl ?_; refine jjB ?_; refine jjC ?_; apply jI; exact eI rfl; apply jJ; exact eI rfl; apply jJ; exact eI rfl; refine jz ?_; refine jjF ?_)
    refine fin2M rfl rfl rfl inferInstance fun w' g => ⟨hE2.ofGrow g (Nat.le_refl _), rfl⟩
  | true =>
  obtain ⟨bk, hbk, rfl, hAk⟩ := ho rfl
  have hal := allW_small hB
  rw [if_pos rfl]
  (apply jI; exact eU rfl; refine ju rfl rfl ?_; refine ju rfl rfl ?_; apply jJ; exact eP rfl; apply jJ; exact eI rfl; refine jz ?_; refine jjB ?_; refine jjB ?_; refine jjC ?_; apply jI; exact eI rfl; refine jc rfl rfl ?_; refine jz ?_; refine jjK rfl ?_; refine jjG ?_; refine jjB ?_; refine jjC ?_)
  (apply jjR rfl; (intro _; first|exact eI rfl|exact eB rfl|exact eP rfl|exact eS rfl|exact eT rfl|exact eA rfl|exact eU rfl|exact eF rfl|exact eM rfl|exact eN rfl|exact rfl); exact rfl; exact rfl; exact rfl; exact rfl; intro b6 w_b6 hb_b6 hs_b6 hS_b6 hk_b6; have hA_b6 := Bk.of hk_b6)
  (refine jz ?_; refine jjB ?_; refine jjB ?_; refine jjC ?_; apply jI; exact eP rfl)
  refine jjQ (all_leaf bk _) rfl rfl ?_
  rintro _ w7 hS7 ⟨bx, rfl, hbx, hAx⟩
  (refine jz ?_; refine jjD ?_)
  have hE7 : Ext w w7 := inferInstance
  have zz := hE7.size
  have z2 := hE2.size
  have z6 := hS_b6.size
  have z7 := hS7.size
  have hB6 : Bk w7 b6 [.int .i64 0] 3 := inferInstance
  have hAk7 : At w7 bk 0 [.slice a cs.length c] := (hAk.ext hS_b6.ext).ext hS7.ext
  have hlk := hAk.lt
  have hlx := hAx.lt
  refine W.range w.heap.size (allW (txF cs) (txF cs).length) encPW (all1_leaf bx bk a c cs hs) rfl (fun _ => rfl) trivial inferInstance hE7.size
    (fun i V => Ext w V ∧ w7.heap.size ≤ V.heap.size ∧ Bk V b6 [.int .i64 ((i : Nat) : Int)] 3 ∧ At V bx 0 [.pointer (some ⟨bk, 0, none⟩)] ∧ At V bk 0 [.slice a cs.length c])
    (fun _ _ _ => False) ?hJ (fun _ _ _ _ h _ => h) ?hF ?h0 (fun x s' _ => s' 6 = .pointer (some ⟨b6, 0, none⟩)) (fun _ _ _ _ h _ => h) ?hassign ?hbody ?hdone (fun _ _ _ _ _ _ _ h => h.elim)
  case hJ =>
    rintro i V V' ⟨h1, h2, h3, h4, h5⟩ g
    exact ⟨h1.ofGrow g zz, Nat.le_trans h2 g.size, h3.grow g, h4.grow g, h5.grow g⟩
  case hF =>
    rintro i V ⟨h1, h2, h3, h4, h5⟩
    exact ⟨h2, h4, h5, hrow.h.ext h1, hT.ext h1⟩
  case h0 => exact ⟨hE7, Nat.le_refl _, hB6, hAx, hAk7⟩
  case hassign =>
    intro l i x V hx hJ hl hr
    (refine jjG ?_)
    exact ⟨rfl, Tr.refl _, Fr.refl _ _, hJ, rfl⟩
  case hbody =>
    rintro l i x s' V hx ⟨h1, h2, h3, h4, h5⟩ ha6 hl hr
    have hlt := (List.getElem?_eq_some_iff.1 hx).1
    refine W.fix (d := 6) ha6 ?_
    (refine jjD ?_; refine jjC ?_; refine jN rfl rfl rfl ?_; refine jY rfl rfl (by omega) ?_)
    refine Ops.store rfl rfl rfl rfl rfl ?_
    intro V2 hp2
    (refine jz ?_)
    refine ⟨hp2.tr ⟨_, h3.h, rfl⟩, hp2.frS (by omega), hp2.ext h1 (by omega), by rw [hp2.size]; exact h2, ?_, hp2.at_ h4 (by omega), hp2.at_ h5 (by omega)⟩
    have e : (((i + 1 : Nat) : Nat) : Int) = (i : Int) + 1 := by omega
    rw [e]; exact ⟨hp2.new⟩
  case hdone =>
    rintro ds' V hmk htr ⟨h1, h2, h3, h4, h5⟩
    (refine jjB ?_; refine jjC ?_; refine jN rfl rfl rfl ?_; apply jJ; exact eI rfl; apply jJ; exact eI rfl; refine jz ?_; refine jjF ?_)
    refine fin2M rfl rfl rfl hmk fun w' g => ⟨h1.ofGrow g (Nat.le_refl _), rfl⟩
set_option maxHeartbeats 4000000 in
theorem PlaceOf_leaf (hs : SmallT cs) (ht : textB (txF cs) = true) (m : Nat) (p : Pl) (hm : (allP (txF cs) (txF cs).length)[m]? = some p) : Ct Tryz.prog 48 [.agg #[.slice a cs.length c], .int .i64 (m : Int)] w fun v _ => v = .tuple #[encPl p, .int .i64 0] := by
  have hml := (List.getElem?_eq_some_iff.1 hm).1
  have hal := allW_small ht
  have hll := allW_len (txF cs) (txF cs).length
  refine Ct.ofWM (by simp) ?_
  (refine jjB ?_; refine jjC ?_)
  (refine jy rfl ?_; intro b2 w_b2 hb_b2 hs_b2 hS_b2 hk_b2; have hA_b2 := At.ofBlock hk_b2)
  skip
  (refine jy rfl ?_; intro b3 w_b3 hb_b3 hs_b3 hS_b3 hk_b3; have hA_b3 := At.ofBlock hk_b3)
  ((skip); refine jjY ?_; intro b4 w_b4 hb_b4 hs_b4 hS_b4 hk_b4; have hA_b4 := Bk.of hk_b4)
  ((skip); refine jjY ?_; intro b5 w_b5 hb_b5 hs_b5 hS_b5 hk_b5; have hA_b5 := Bk.of hk_b5)
  (refine jz ?_; refine jjB ?_; refine jjC ?_; refine jO rfl rfl rfl rfl ?_)
  refine jjQ ((open_leaf a c cs _ hs).mono fun v _ _ h => by rw [ht] at h; exact h) rfl rfl ?_
  rintro _ w6 hS6 ⟨o, rfl, ho⟩
  obtain ⟨bk, hbk, rfl, hAk⟩ := ho rfl
  rw [if_pos rfl]
  (apply jI; exact eU rfl; refine ju rfl rfl ?_; refine ju rfl rfl ?_; apply jJ; exact eP rfl; apply jJ; exact eI rfl; refine jz ?_; refine jjB ?_; refine jjB ?_; refine jjC ?_; apply jI; exact eI rfl; refine jjk rfl rfl (by omega) ?_; refine jz ?_; refine jjK rfl ?_; refine jjG ?_; refine jjB ?_; refine jjB ?_; refine jjC ?_; apply jI; exact eP rfl)
  refine jjQ (all_leaf bk _) rfl rfl ?_
  rintro _ w7 hS7 ⟨bx, rfl, hbx, hAx⟩
  have hE7 : Ext w w7 := inferInstance
  have zz := hE7.size
  have z2 := hS_b2.size
  have z3 := hS_b3.size
  have z4 := hS_b4.size
  have z5 := hS_b5.size
  have z6 := hS6.size
  have z7 := hS7.size
  have hk3 : Bk w_b3 b3 [.int .i64 (m : Int)] 3 := Bk.of hk_b3
  have hB3 : Bk w7 b3 [.int .i64 (m : Int)] 3 := ((((hk3.ext hS_b4.ext).ext hS_b5.ext).ext hS6.ext).ext hS7.ext)
  have hB4 : Bk w7 b4 [.int .i64 0, .int .i64 0, .int .i64 0] 44 := inferInstance
  have hB5 : Bk w7 b5 [.int .i64 0] 32 := inferInstance
  have hAk7 : At w7 bk 0 [.slice a cs.length c] := hAk.ext hS7.ext
  have hlk := hAk.lt
  have hlx := hAx.lt
  (refine jz ?_; refine jjD ?_)
  refine W.range w.heap.size (allW (txF cs) (txF cs).length) encPW (all1_leaf bx bk a c cs hs) rfl (fun _ => rfl) trivial inferInstance hE7.size
    (fun i V => Ext w V ∧ w7.heap.size ≤ V.heap.size ∧ (i ≤ m ∧ Bk V b3 [.int .i64 ((m : Int) - (i : Int))] 3) ∧ (∃ u1 u2 u3, Bk V b4 [.int .i64 u1, .int .i64 u2, .int .i64 u3] 44) ∧ (∃ u, Bk V b5 [.int .i64 u] 32) ∧ At V bx 0 [.pointer (some ⟨bk, 0, none⟩)] ∧ At V bk 0 [.slice a cs.length c])
    (fun cc _ V => cc = .ret ∧ Ext w V ∧ Bk V b4 (encPl p).cells.toList 44 ∧ Bk V b5 [.int .i64 0] 32) ?hJ ?hJx ?hF ?h0 (fun x s' V => ∃ b, s' 3 = .pointer (some ⟨b3, 0, none⟩) ∧ s' 4 = .pointer (some ⟨b4, 0, none⟩) ∧ s' 5 = .pointer (some ⟨b5, 0, none⟩) ∧ s' 8 = .pointer (some ⟨b, 0, none⟩) ∧ Bk V b (encPl x.1).cells.toList 44) (fun x s V V' ⟨b, h1, h2, h3, h4, h5⟩ g => ⟨b, h1, h2, h3, h4, h5.grow g⟩) ?hassign ?hbody ?hdone ?hstop
  case hJ =>
    rintro i V V' ⟨h1, h2, ⟨hi, h3⟩, ⟨u1, u2, u3, h4⟩, ⟨u, h5⟩, h6, h7⟩ g
    exact ⟨h1.ofGrow g zz, Nat.le_trans h2 g.size, ⟨hi, h3.grow g⟩, ⟨u1, u2, u3, h4.grow g⟩, ⟨u, h5.grow g⟩, h6.grow g, h7.grow g⟩
  case hJx =>
    rintro cc i V V' ⟨h0, h1, h2, h3⟩ g
    exact ⟨h0, h1.ofGrow g zz, h2.grow g, h3.grow g⟩
  case hF =>
    rintro i V ⟨h1, h2, h3, h4, h5, h6, h7⟩
    exact ⟨h2, h6, h7, hrow.h.ext h1, hT.ext h1⟩
  case h0 => exact ⟨hE7, Nat.le_refl _, ⟨Nat.zero_le _, by rw [show (m : Int) - ((0 : Nat) : Int) = (m : Int) by omega]; exact hB3⟩, ⟨_, _, _, hB4⟩, ⟨_, hB5⟩, hAx, hAk7⟩
  case hassign =>
    rintro l i x V hx ⟨h1, h2, ⟨hi, h3⟩, ⟨u1, u2, u3, h4⟩, ⟨u, h5⟩, h6, h7⟩ hl hr
    (refine jjC ?_)
    (apply jjR rfl; (intro _; first|exact eI rfl|exact eB rfl|exact eP rfl|exact eS rfl|exact eT rfl|exact eA rfl|exact eU rfl|exact eF rfl|exact eM rfl|exact eN rfl|exact rfl); exact rfl; exact rfl; exact rfl; exact rfl; intro b8 w_b8 hb_b8 hs_b8 hS_b8 hk_b8; have hA_b8 := Bk.of hk_b8)
    (refine jz ?_)
    have e8 := hS_b8.ext
    have y8 := e8.size
    exact ⟨rfl, e8.tr, Fr.ext e8, ⟨h1.trans e8, by omega, ⟨hi, h3.ext e8⟩, ⟨u1, u2, u3, h4.ext e8⟩, ⟨u, h5.ext e8⟩, h6.ext e8, h7.ext e8⟩, b8, rfl, rfl, rfl, rfl, inferInstance⟩
  case hbody =>
    rintro l i x s' V hx ⟨h1, h2, ⟨hi, h3⟩, ⟨u1, u2, u3, h4⟩, ⟨u, h5⟩, h6, h7⟩ ⟨b8, ha3, ha4, ha5, ha8, hb8⟩ hl hr
    refine W.fix (d := 3) ha3 (W.fix (d := 4) ha4 (W.fix (d := 5) ha5 (W.fix (d := 8) ha8 ?_)))
    have hx8 : At V b8 0 [.int .i64 x.1.1, .int .i64 x.1.2.1, .int .i64 x.1.2.2] := Bk.toAt (h := hb8)
    by_cases him : i = m
    · have hxp : x.1 = p := by
        have e1 := congrArg (·[i]?) (allW_fst (txF cs) (txF cs).length)
        simp only [List.getElem?_map, hx, Option.map_some] at e1
        rw [him, hm] at e1
        exact Option.some.inj e1
      have hz0 : (m : Int) - (i : Int) = 0 := by omega
      rw [hz0] at h3
      (refine jjD ?_; refine jjB ?_; refine jjB ?_; refine jjC ?_; refine jN rfl rfl rfl ?_; refine jjh rfl rfl (by omega) ?_; refine jz ?_; refine jjJ rfl ?_; refine jjB ?_; refine jjC ?_; refine jO rfl rfl rfl rfl ?_)
      refine Ops.store rfl rfl rfl rfl rfl ?_
      intro V2 hp2
      have h5' := hp2.bk h5 (by omega)
      skip
      refine Ops.store rfl rfl rfl rfl rfl ?_
      intro V3 hp3
      (refine jz ?_; refine jjF ?_)
      have m4 : Bk V2 b4 (encPl x.1).cells.toList 44 := ⟨hp2.new⟩
      refine ⟨(hp2.tr ⟨_, h4.h, rfl⟩).trans (hp3.tr ⟨_, h5'.h, rfl⟩), rfl, hp3.ext (hp2.ext h1 (by omega)) (by omega), ?_, ⟨hp3.new⟩⟩
      rw [← hxp]; exact hp3.bk m4 (by omega)
    · have hne : ¬ (m : Int) - (i : Int) = 0 := by omega
      (refine jjD ?_; refine jjB ?_; refine jjB ?_; refine jjC ?_; refine jN rfl rfl rfl ?_; refine jji rfl rfl (by omega) ?_; refine jz ?_; refine jjK rfl ?_; refine jjG ?_; refine jjC ?_; refine jN rfl rfl rfl ?_; refine jZ rfl rfl (by omega) ?_)
      refine Ops.store rfl rfl rfl rfl rfl ?_
      intro V2 hp2
      (refine jz ?_)
      refine ⟨hp2.tr ⟨_, h3.h, rfl⟩, hp2.frS (by omega), hp2.ext h1 (by omega), by rw [hp2.size]; exact h2, ⟨by omega, ?_⟩, ⟨u1, u2, u3, hp2.bk h4 (by omega)⟩, ⟨u, hp2.bk h5 (by omega)⟩, hp2.at_ h6 (by omega), hp2.at_ h7 (by omega)⟩
      have e : (m : Int) - ((i + 1 : Nat) : Int) = (m : Int) - (i : Int) - 1 := by omega
      rw [e]; exact ⟨hp2.new⟩
  case hdone =>
    rintro ds' V hmk htr ⟨h1, h2, ⟨hi, h3⟩, _⟩
    omega
  case hstop =>
    rintro ds' cc i V hmk htr hi ⟨rfl, h1, h2, h3⟩
    refine jjF ?_
    exact fin2CCM rfl rfl rfl rfl rfl h2 h3 rfl rfl rfl hmk fun w' g => ⟨h1.ofGrow g (Nat.le_refl _), rfl⟩
end
end Go.Proofs.YtpbkphaceljclaaGreatDoor

/- The proof engine, part 18: division of numbers that are not negative; equality of pairs. -/
namespace Go.Proofs.YtpbkphaceljclaaGreatDoor
open Go.RowKit

section rules
variable {P : Program} {ro : Option Nat} {n : Nat} {all rest : List Oper} {K : Sl → World → Prop} {s : Sl} {w : World} {d : Nat} {ty : Nat} {pos : String} {af : Array Edge} {x y : Operand} {t t' : Nat} {a b : Int}
theorem Ops.rem (hx : ev n s x = .int .i64 a) (hy : ev n s y = .int .i64 b) (h0 : 0 ≤ a) (h1 : 0 < b) (h : Ops P ro n all rest K (upd s d (.int .i64 (a % b))) w) :
    Ops P ro n all (⟨some d, .binOp .rem t x y t', ty, pos, af, none⟩ :: rest) K s w :=
  Ops.ofRun rfl (by
    have e1 : Int.tmod a b = a % b := Int.tmod_eq_emod_of_nonneg h0
    have e3 : ¬ b = 0 := by omega
    simp [execOp, hx, hy, go_sem, Op.intDiv, e1, e3]) h
end rules

end Go.Proofs.YtpbkphaceljclaaGreatDoor

/- place: a place of a valid text by a number. -/
namespace Go.Proofs.YtpbkphaceljclaaGreatDoor
open Go.RowKit

theorem pick_pos {α : Type} {l : List α} (h : 0 < l.length) (m : Nat) : ∃ p, l[m % l.length]? = some p := ⟨_, List.getElem?_eq_getElem (Nat.mod_lt _ h)⟩
section
variable (a : Option Addr) (c : Nat) (cs : List Ch) (w : World) [hrow : RowI w (.slice a cs.length c) true 2 (cs.map encCh)] [hT : TextI w cs]
set_option maxHeartbeats 4000000 in
theorem place_law3 (hs : SmallT cs) (ht : textB (txF cs) = true) (m : Nat) (hm : m ≤ 65535) (p : Pl) (hp : (allP (txF cs) (txF cs).length)[m % (allP (txF cs) (txF cs).length).length]? = some p) : Ct Tryz.prog 15 [.agg #[.slice a cs.length c], .int .u16 (m : Int)] w fun v _ => v = .tuple #[encPl p, .bool true] := by
  have hlt := (List.getElem?_eq_some_iff.1 hp).1
  have hll := allW_len (txF cs) (txF cs).length
  have hal := allW_small ht
  have hpb : placeC cs p = true := (placeC_B cs p).trans (placeB_mem.2 (List.mem_of_getElem? hp))
  refine Ct.ofW (by simp) ?_
  (refine jjB ?_; refine jjC ?_)
  (refine jy rfl ?_; intro b2 w_b2 hb_b2 hs_b2 hS_b2 hk_b2; have hA_b2 := At.ofBlock hk_b2)
  skip
  ((skip); refine jjY ?_; intro b4 w_b4 hb_b4 hs_b4 hS_b4 hk_b4; have hA_b4 := Bk.of hk_b4)
  (apply jJ; exact eB rfl; refine jz ?_; refine jjB ?_; refine jjC ?_; refine jO rfl rfl rfl rfl ?_)
  refine jjQ ((Words_leaf a c cs _ hs).mono fun v _ _ h => h.trans (by rw [wordsR, if_pos ht, hll])) rfl rfl ?_
  rintro _ w5 hS5 rfl
  generalize hL : (allP (txF cs) (txF cs).length).length = L at *
  (apply jI; exact eU rfl; refine ju rfl rfl ?_; refine ju rfl rfl ?_; apply jJ; exact eI rfl; apply jJ; exact eI rfl; refine jz ?_; refine jjB ?_; refine jjB ?_; refine jjC ?_; apply jI; exact eI rfl; refine jjk rfl rfl (by omega) ?_; apply jI; exact eB rfl; refine jT rfl rfl rfl ?_; apply jI; exact eI rfl; refine jT rfl rfl rfl ?_; refine jja rfl rfl (by omega) ?_; apply jL rfl; exact eB rfl; refine jz ?_; refine jjK rfl ?_; refine jjG ?_; refine jjB ?_)
  have hrem : (m : Int) % (L : Int) = ((m % L : Nat) : Int) := by omega
  have hE5 : Ext w w5 := inferInstance
  have hA2 : At w5 b2 0 [.slice a cs.length c] := inferInstance
  have hB4 : Bk w5 b4 [.int .i64 0, .int .i64 0, .int .i64 0] 44 := inferInstance
  have hr5 : RowI w5 (.slice a cs.length c) true 2 (cs.map encCh) := inferInstance
  have ht5 : TextI w5 cs := inferInstance
  have hlt2 := hA2.lt
  have z4 : w.heap.size ≤ b4 := by
    have := hS_b2.size
    omega
  have hlt4 : b4 < w5.heap.size := by
    have := hS5.size
    omega
  have hlt2 : b2 < b4 := by omega
  refine W.keep0 [(1, .int .u16 (m : Int)), (2, .pointer (some ⟨b2, 0, none⟩)), (4, .pointer (some ⟨b4, 0, none⟩)), (6, .int .i64 (L : Int))] ⟨eI rfl, eP rfl, eP rfl, eI rfl, trivial⟩ fun s0 => ?_
  refine W.draw (fun w' => Ext w5 w') ?_
  intro w6 hS6
  refine AnyS.mono (K' := fun s w' => s 2 = .pointer (some ⟨b2, 0, none⟩) ∧ s 4 = .pointer (some ⟨b4, 0, none⟩) ∧ s 9 = .int .i64 0 ∧ (∃ b8, s 8 = .pointer (some ⟨b8, 0, none⟩) ∧ w5.heap.size ≤ b8 ∧ At w' b8 0 (encPl p).cells.toList) ∧ Ext w5 w') ?_ ?_
  rotate_left
  · refine jjV [0, 1, 2, 3, 4] (by decide +kernel) inferInstance ?_
    ((apply jjT; exact rfl; rintro w' hq; have := hq.toStep; refine jO rfl rfl rfl rfl ?_; refine jz ?_; exact ⟨rfl, rfl⟩; apply jjT; exact rfl; rintro w' hq; have := hq.toStep; apply jI; exact eI rfl; refine jz ?_; exact ⟨rfl, rfl⟩; apply jjT; exact rfl; rintro w' hq; have := hq.toStep; refine Ops.convI rfl rfl (wrapi (by omega) (by omega)) ?_; refine jz ?_; exact ⟨rfl, rfl⟩; apply jjT; exact rfl; rintro w' hq; have := hq.toStep; apply jI; exact eI rfl; refine jz ?_; exact ⟨rfl, rfl⟩; apply jjT; exact rfl; rintro w' hq; have := hq.toStep; refine Ops.rem rfl rfl (by omega) (by omega) ?_; rw [hrem]; refine jz ?_; exact ⟨rfl, rfl⟩; refine jjU ?_))
    repeat' ( first
      | (refine jjl 5 9 (by decide +kernel) rfl rfl inferInstance ?_ ?_)
      | ((apply jjW 5; (decide +kernel); exact rfl; (exact inferInstance)))
      | ((apply jjW 9; (decide +kernel); exact rfl; (exact inferInstance)))
      | (refine jjQ (PlaceOf_leaf a c cs _ hs ht (m % L) p hp) rfl rfl ?_; rintro _ v5 hv5 rfl; refine jz ?_; (refine jjV [6, 7, 8] ?_ ?_ ?_; (decide +kernel); (exact inferInstance); ((repeat' (first|(apply jjT; exact rfl)|rintro w' hq|(apply jI; exact eU rfl)|refine ju rfl rfl ?_|refine jz ?_|exact ⟨rfl, rfl⟩|refine jjU ?_)))))
      | (refine jjY ?_; intro b8 v8 hb8 hs8 hv8 hk8; have k8 := Bk.of hk8; have z8 : w5.heap.size ≤ b8 := (by rw [hb8]; exact Ext.size inferInstance); refine jz ?_)
      | ((apply jjW 10; (decide +kernel); exact rfl; (exact inferInstance)); refine Ops.store rfl rfl rfl rfl rfl ?_; intro V2 hp2; have e2 : Ext w5 V2 := hp2.ext inferInstance z8; refine jz ?_; (refine jjV [11] ?_ ?_ ?_; (decide +kernel); (exact e2); ((repeat' (first|(apply jjT; exact rfl)|rintro w' hq|(apply jJ; exact eI rfl)|refine jz ?_|exact ⟨rfl, rfl⟩|refine jjU ?_)))); refine jjX (by decide +kernel) e2 ?_; exact ⟨rfl, rfl, rfl, ⟨b8, rfl, z8, Bk.toAt (h := Bk.of hp2.new)⟩, e2⟩))
  rintro s w7 ⟨h2, h4, h9, ⟨b8, h8, hb8, hA8'⟩, x7⟩
  have hA8 : At w7 b8 0 [.int .i64 p.1, .int .i64 p.2.1, .int .i64 p.2.2] := hA8'
  have hB47 : Bk w7 b4 [.int .i64 0, .int .i64 0, .int .i64 0] 44 := hB4.ext x7
  have hA27 : At w7 b2 0 [.slice a cs.length c] := hA2.ext x7
  have hE7 : Ext w w7 := hE5.trans x7
  refine W.keep0 [(2, .pointer (some ⟨b2, 0, none⟩)), (4, .pointer (some ⟨b4, 0, none⟩)), (8, .pointer (some ⟨b8, 0, none⟩)), (9, .int .i64 0)] ⟨h2, h4, h8, h9, trivial⟩ fun s1 => ?_
  clear h2 h4 h8 h9
  ((refine jjB ?_))
  refine W.draw (fun w' => Ext w w' ∧ At w' b2 0 [.slice a cs.length c] ∧ At w' b8 0 [.int .i64 p.1, .int .i64 p.2.1, .int .i64 p.2.2]) ?_
  intro w8 hS8
  refine AnyS.mono (K' := fun s w' => s 4 = .pointer (some ⟨b4, 0, none⟩) ∧ s 5 = .bool true ∧ At w' b4 0 (encPl p).cells.toList ∧ Ext w w') ?_ ?_
  rotate_left
  · skip
    refine jjV [0, 1, 2, 3, 4, 5] (by decide +kernel) ⟨inferInstance, inferInstance, inferInstance⟩ ?_
    ((apply jjT; exact rfl; rintro w' ⟨q1, q2, q3⟩; refine jO rfl rfl rfl rfl ?_; refine jz ?_; exact ⟨rfl, rfl⟩; apply jjT; exact rfl; rintro w' ⟨q1, q2, q3⟩; apply jI; exact eI rfl; refine jz ?_; exact ⟨rfl, rfl⟩; apply jjT; exact rfl; rintro w' ⟨q1, q2, q3⟩; refine jjh rfl rfl (by omega) ?_; refine jz ?_; exact ⟨rfl, rfl⟩; apply jjT; exact rfl; rintro w' ⟨q1, q2, q3⟩; apply jI; exact eB rfl; refine jz ?_; exact ⟨rfl, rfl⟩; apply jjT; exact rfl; rintro w' ⟨q1, q2, q3⟩; refine jT rfl rfl rfl ?_; refine jO rfl rfl rfl rfl ?_; refine jz ?_; exact ⟨rfl, rfl⟩; apply jjT; exact rfl; rintro w' ⟨q1, q2, q3⟩; refine jT rfl rfl rfl ?_; refine jO rfl rfl rfl rfl ?_; refine jz ?_; exact ⟨rfl, rfl⟩; refine jjU ?_))
    (apply jjW 6; (decide +kernel); exact rfl; (exact ⟨inferInstance, inferInstance, inferInstance⟩))
    have hE8 : Ext w w8 := inferInstance
    have i8 : RowI w8 (.slice a cs.length c) true 2 (cs.map encCh) := ⟨hrow.h.ext hE8⟩
    have j8 : TextI w8 cs := hT.ext hE8
    refine jT rfl rfl rfl ?_
    refine jjQ ((Place_ref1 a c cs _ p hs).mono fun v _ _ h => h.trans (by rw [hpb])) rfl rfl ?_
    rintro _ w9 hS9 rfl
    refine jz ?_
    have hE9 : Ext w w9 := inferInstance
    have hA29 : At w9 b2 0 [.slice a cs.length c] := inferInstance
    have hA89 : At w9 b8 0 [.int .i64 p.1, .int .i64 p.2.1, .int .i64 p.2.2] := inferInstance
    refine jjV [7] (by decide +kernel) ⟨hE9, hA29, hA89⟩ ?_
    ((apply jjT; exact rfl; rintro w' ⟨q1, q2, q3⟩; apply jK rfl; exact eB rfl; refine jz ?_; exact ⟨rfl, rfl⟩; refine jjU ?_))
    (apply jjW 8; (decide +kernel); exact rfl; (exact ⟨hE9, hA29, hA89⟩))
    refine Ops.store rfl rfl rfl rfl rfl ?_
    intro V2 hp2
    refine jz ?_
    have hE10 : Ext w V2 := hp2.ext hE9 z4
    have hA210 : At V2 b2 0 [.slice a cs.length c] := hp2.at_ hA29 (by omega)
    have hA810 : At V2 b8 0 [.int .i64 p.1, .int .i64 p.2.1, .int .i64 p.2.2] := hp2.at_ hA89 (by omega)
    refine jjV [9] (by decide +kernel) ⟨hE10, hA210, hA810⟩ ?_
    ((apply jjT; exact rfl; rintro w' ⟨q1, q2, q3⟩; apply jJ; exact eB rfl; refine jz ?_; exact ⟨rfl, rfl⟩; refine jjU ?_))
    refine jjX (by decide +kernel) ⟨hE10, hA210, hA810⟩ ?_
    exact ⟨rfl, rfl, Bk.toAt (h := Bk.of hp2.new), hE10⟩
  rintro s w9 ⟨h4, h5, hA4, x9⟩
  have hA49 : At w9 b4 0 [.int .i64 p.1, .int .i64 p.2.1, .int .i64 p.2.2] := hA4
  refine W.keep0 [(4, .pointer (some ⟨b4, 0, none⟩)), (5, .bool true)] ⟨h4, h5, trivial⟩ fun s2 => ?_
  (refine jjF ?_)
  refine fin2C rfl rfl rfl rfl rfl rfl ⟨x9, rfl⟩
end
end Go.Proofs.YtpbkphaceljclaaGreatDoor

/- ready, width, place: what the laws ask first. -/
namespace Go.Proofs.YtpbkphaceljclaaGreatDoor
open Go.RowKit

def readyB (t : Tx) (wd side : Int) : Bool := !greatT t && (textB t && cutB wd side)
theorem readyB_yes {t : Tx} {wd side : Int} (h : readyB t wd side = true) : greatT t = false ∧ textB t = true ∧ cutB wd side = true := by
  simpa [readyB] using h
section
variable (a : Option Addr) (c : Nat) (cs : List Ch) (wd side : Int) (w : World) [hrow : RowI w (.slice a cs.length c) true 2 (cs.map encCh)] [hT : TextI w cs]
set_option maxHeartbeats 2000000 in
theorem ready_law3 (hd : 0 ≤ side ∧ side ≤ 255) : Ct Tryz.prog 14 [.agg #[.slice a cs.length c], encCut wd side] w fun v _ => v = .bool (readyB (txF cs) wd side) := by
  refine Ct.ofW (by simp) ?_
  (refine jjB ?_; refine jjC ?_)
  (refine jy rfl ?_; intro b2 w_b2 hb_b2 hs_b2 hS_b2 hk_b2; have hA_b2 := At.ofBlock hk_b2)
  skip
  (refine jy rfl ?_; intro b3 w_b3 hb_b3 hs_b3 hS_b3 hk_b3; have hA_b3 := At.ofBlock hk_b3)
  (apply jJ; exact eB rfl; refine jz ?_; refine jjB ?_; refine jjC ?_; refine jO rfl rfl rfl rfl ?_)
  obtain ⟨G, hG⟩ : ∃ G, greatT (txF cs) = G := ⟨_, rfl⟩
  refine jjQ ((Great_ref1 a c cs _).mono fun v _ _ h => h.trans (by rw [hG])) rfl rfl ?_
  rintro _ w2 hS2 rfl
  rw [readyB, hG]
  cases G with
  | true =>
    (refine jp rfl ?_; apply jI; exact eB rfl; refine jU rfl rfl rfl rfl ?_; refine jU rfl rfl rfl rfl ?_; apply jL rfl; exact eB rfl; apply jI; exact eB rfl; refine jU rfl rfl rfl rfl ?_; refine jU rfl rfl rfl rfl ?_; apply jL rfl; exact eB rfl; apply jJ; exact eB rfl; refine jz ?_; refine jjF ?_; refine jB rfl rfl ⟨inferInstance, ?_⟩)
    exact rfl
  | false =>
  have hs := small_of_great hG
  obtain ⟨T, hTT⟩ : ∃ T, textB (txF cs) = T := ⟨_, rfl⟩
  (refine jq rfl ?_; apply jI; exact eB rfl; refine jT rfl rfl rfl ?_; refine jO rfl rfl rfl rfl ?_; refine jT rfl rfl rfl ?_)
  refine jjQ ((Text_ref1 a c cs _ hs).mono fun v _ _ h => h.trans (by rw [hTT])) rfl rfl ?_
  rintro _ w3 hS3 rfl
  rw [hTT]
  cases T with
  | false =>
    (apply jK rfl; exact eB rfl; apply jI; exact eB rfl; refine jU rfl rfl rfl rfl ?_; refine jU rfl rfl rfl rfl ?_; apply jL rfl; exact eB rfl; apply jJ; exact eB rfl; refine jz ?_; refine jjF ?_; refine jB rfl rfl ⟨inferInstance, ?_⟩)
    exact rfl
  | true =>
  (apply jK rfl; exact eB rfl; apply jI; exact eB rfl; refine jT rfl rfl rfl ?_; refine jO rfl rfl rfl rfl ?_; refine jT rfl rfl rfl ?_)
  refine jjQ (Cut_ref3 wd side hd _) rfl rfl ?_
  rintro _ w4 hS4 rfl
  (apply jK rfl; exact eB rfl; apply jJ; exact eB rfl; refine jz ?_; refine jjF ?_; refine jB rfl rfl ⟨inferInstance, ?_⟩)
  exact rfl
end
end Go.Proofs.YtpbkphaceljclaaGreatDoor

/- Plain law: the examples that end in errors. -/
namespace Go.Proofs.YtpbkphaceljclaaGreatDoor
open Go.RowKit

end Go.Proofs.YtpbkphaceljclaaGreatDoor

/- The law: the sides of a cut. -/
namespace Go.Proofs.YtpbkphaceljclaaGreatDoor
open Go.RowKit

/-- The cells of three slips. -/
abbrev arr3 (u v z : Slp) : List Value := [.int .i64 u.1.1, .int .i64 u.1.2.1, .int .i64 u.1.2.2, .string u.2.1, .string u.2.2.1, .string u.2.2.2, .int .i64 v.1.1, .int .i64 v.1.2.1, .int .i64 v.1.2.2, .string v.2.1, .string v.2.2.1, .string v.2.2.2, .int .i64 z.1.1, .int .i64 z.1.2.1, .int .i64 z.1.2.2, .string z.2.1, .string z.2.2.1, .string z.2.2.2]
theorem pick3 (x : Int → Slp) {q : Nat} (h : q < 3) : ((arr3 (x 1) (x 2) (x 3)).drop (q * 6)).take 6 = (encSl (x ((q : Int) + 1))).cells.toList := by
  rcases (by omega : q = 0 ∨ q = 1 ∨ q = 2) with rfl | rfl | rfl <;> rfl
theorem blt3 {q : Nat} (h : q < 3) : Nat.blt q 3 = true := by
  rcases (by omega : q = 0 ∨ q = 1 ∨ q = 2) with rfl | rfl | rfl <;> rfl
theorem wrap8s {q : Nat} (h : q < 3) : IntKind.wrap .u8 ((q : Int) + 1) = (q : Int) + 1 := by
  rcases (by omega : q = 0 ∨ q = 1 ∨ q = 2) with rfl | rfl | rfl <;> decide
theorem ble3 {q : Nat} (h : q < 3) (u v z : Slp) : Nat.ble (0 + q * 6 + 6) (arr3 u v z).length = true := by
  rcases (by omega : q = 0 ∨ q = 1 ∨ q = 2) with rfl | rfl | rfl <;> rfl
theorem put3 {q : Nat} (h : q < 3) (u : Nat → Slp) (z : Slp) : (arr3 (u 1) (u 2) (u 3)).take (0 + q * 6) ++ (encSl z).cells.toList ++ (arr3 (u 1) (u 2) (u 3)).drop (0 + q * 6 + 6) = arr3 ((fun j => if j = q + 1 then z else u j) 1) ((fun j => if j = q + 1 then z else u j) 2) ((fun j => if j = q + 1 then z else u j) 3) := by
  rcases (by omega : q = 0 ∨ q = 1 ∨ q = 2) with rfl | rfl | rfl <;> rfl
section
variable (a : Option Addr) (c : Nat) (cs : List Ch) (wd side : Int) (w : World) [hrow : RowI w (.slice a cs.length c) true 2 (cs.map encCh)] [hT : TextI w cs] [hgs : At w 0 0 sidesC] [hgk : At w 1 0 kindsC] [hmx : MxI w]
set_option maxRecDepth 20000 in
set_option maxHeartbeats 16000000 in
theorem SlipSides_law (hd : 0 ≤ side ∧ side ≤ 255) (x1 : Nat) (hx1 : x1 ≤ 65535) : Ct Tryz.prog 6 [.agg #[.slice a cs.length c], encCut wd side, .int .u16 (x1 : Int)] w fun v _ => v = .bool true := by
  refine Ct.ofW (by simp) ?_
  (refine jjB ?_; refine jjC ?_)
  (refine jy rfl ?_; intro b3 w_b3 hb_b3 hs_b3 hS_b3 hk_b3; have hA_b3 := At.ofBlock hk_b3)
  skip
  (refine jy rfl ?_; intro b4 w_b4 hb_b4 hs_b4 hS_b4 hk_b4; have hA_b4 := At.ofBlock hk_b4)
  (apply jJ; exact eB rfl; refine jz ?_; refine jjB ?_; refine jjC ?_)
  refine jjQ (alive_law3 _) rfl rfl ?_
  rintro _ w6 hS6 rfl
  obtain ⟨R, hR⟩ : ∃ R, readyB (txF cs) wd side = R := ⟨_, rfl⟩
  (apply jJ; exact eB rfl; refine jz ?_; refine jjB ?_; refine jjB ?_; refine jjC ?_; refine jO rfl rfl rfl rfl ?_; refine jO rfl rfl rfl rfl ?_)
  refine jjQ ((ready_law3 a c cs wd side _ hd).mono fun v _ _ h => h.trans (by rw [hR])) rfl rfl ?_
  rintro _ w7 hS7 rfl
  cases R with
  | false =>
    (refine jq rfl ?_; apply jI; exact eB rfl; refine jU rfl rfl rfl rfl ?_; refine jU rfl rfl rfl rfl ?_; apply jK rfl; exact eB rfl; refine jz ?_; refine jjJ rfl ?_; refine jjB ?_; refine jjC ?_; apply jI; exact eB rfl; apply jJ; exact eB rfl; refine jz ?_; refine jjF ?_; refine jB rfl rfl ⟨inferInstance, ?_⟩)
    exact rfl
  | true =>
  obtain ⟨hG, hTT, hc⟩ := readyB_yes hR
  have hs := small_of_great hG
  have ha : askE (txF cs) wd side = 0 := askE_yes hTT hc
  have hpos := allP_pos hTT
  obtain ⟨p, hp⟩ := pick_pos hpos x1
  have hpb := placeB_mem.2 (List.mem_of_getElem? hp)
  (refine jp rfl ?_; apply jI; exact eB rfl; refine jT rfl rfl rfl ?_; apply jI; exact eB rfl; refine jT rfl rfl rfl ?_; refine jp rfl ?_; apply jL rfl; exact eB rfl; refine jz ?_; refine jjK rfl ?_; refine jjG ?_; refine jjB ?_; refine jjC ?_; refine jO rfl rfl rfl rfl ?_; apply jI; exact eI rfl)
  refine jjQ (place_law3 a c cs _ hs hTT x1 hx1 p hp) rfl rfl ?_
  rintro _ w11 hS11 rfl
  (apply jI; exact eU rfl; refine ju rfl rfl ?_; refine ju rfl rfl ?_)
  (apply jjR rfl; (intro _; first|exact eI rfl|exact eB rfl|exact eP rfl|exact eS rfl|exact eT rfl|exact eA rfl|exact eU rfl|exact eF rfl|exact eM rfl|exact eN rfl|exact rfl); exact rfl; exact rfl; exact rfl; exact rfl; intro b8 w_b8 hb_b8 hs_b8 hS_b8 hk_b8; have hA_b8 := Bk.of hk_b8)
  have hp8 : At w_b8 b8 0 [.int .i64 p.1, .int .i64 p.2.1, .int .i64 p.2.2] := Bk.toAt (h := hA_b8)
  obtain ⟨x, hx⟩ := Classical.skolem.1 fun s : Int => make_yes hpb s wd
  have hcs : ∀ s, 1 ≤ s → s ≤ 3 → cutB wd s = true := fun s => cut_sides hc
  have hfa := si_facts hTT hcs fun s _ _ => hx s
  (apply jJ; exact eB rfl; refine jz ?_; refine jjB ?_; refine jjB ?_; refine jjC ?_; apply jI; exact eB rfl; refine jp rfl ?_; refine jz ?_; refine jjK rfl ?_; refine jjG ?_; refine jjB ?_; refine jjC ?_)
  ((skip); refine jjY ?_; intro b10 w_b10 hb_b10 hs_b10 hS_b10 hk_b10; have hA_b10 := Bk.of hk_b10)
  have hA10 : Bk w_b10 b10 (arr3 noSl noSl noSl) 60 := hA_b10
  (refine jz ?_; refine jjB ?_; refine jjB ?_; refine jjC ?_; apply jI; exact eI rfl; refine jz ?_; refine jjD ?_)
  have z8 := hS_b10.size
  have hE8 : Ext w_b8 w_b10 := inferInstance
  have eb : w_b8.heap.size ≤ b10 := by have := hE8.size; omega
  refine W.keep0 [(3, .pointer (some ⟨b3, 0, none⟩)), (4, .pointer (some ⟨b4, 0, none⟩)), (7, .bool true), (8, .pointer (some ⟨b8, 0, none⟩)), (10, .pointer (some ⟨b10, 0, none⟩)), (36, .int .i64 ((0 : Nat) : Int))] ⟨eP rfl, eP rfl, eB rfl, eP rfl, eP rfl, eI rfl, trivial⟩ fun s0 => ?_
  refine W.loopG (37 :: 38 :: 11 :: 40 :: 41 :: 42 :: 43 :: 44 :: 45 :: 46 :: 47 :: 48 :: 39 :: 49 :: 50 :: 12 :: 13 :: 51 :: 52 :: 53 :: 54 :: 55 :: 56 :: 57 :: 58 :: 6 :: 59 :: 60 :: 61 :: 62 :: 36 :: []) (fun g s' V => ∃ (q : Nat) (u : Nat → Slp), s' 36 = .int .i64 ((q : Nat) : Int) ∧ g = 3 - q ∧ q ≤ 3 ∧ Ext w_b8 V ∧ Bk V b10 (arr3 (u 1) (u 2) (u 3)) 60 ∧ ∀ j : Nat, 1 ≤ j → j ≤ q → u j = x (j : Int)) 3 ⟨0, fun _ => noSl, rfl, rfl, by omega, hE8, hA10, fun j h1 h2 => absurd h1 (by omega)⟩ ?_
  rintro _ sd V ⟨q, u, h36, rfl, hq, hE, hB, hu⟩
  refine W.fix (d := 36) h36 ?_
  clear h36 hA10 hA_b10
  have sV : Step w_b8 V := hE.toStep
  by_cases hq3 : q < 3
  · have hfq := hfa ((q : Int) + 1) (by omega) (by omega)
    have haq : askE (txF cs) wd ((q : Int) + 1) = 0 := askE_yes hTT (hcs _ (by omega) (by omega))
    have hxq := hx ((q : Int) + 1)
    (refine jjB ?_; refine jjC ?_; refine jjZ rfl rfl (by omega) ?_; refine jz ?_; refine jjB ?_; refine jjJ rfl ?_; refine jjG ?_; refine jjB ?_; refine jjD ?_; refine jjB ?_; refine jjC ?_; apply jI; exact eI rfl; apply jJ; exact eI rfl; refine jz ?_; refine jjB ?_; refine jjC ?_; refine jO rfl rfl rfl rfl ?_; refine jm ?_; refine jn rfl ?_; refine jN rfl rfl rfl ?_; apply jI; exact eI rfl; refine jY rfl rfl (by omega) ?_)
    refine Ops.convI rfl rfl (wrap8s hq3) ?_
    skip
    (refine jjS (cells := [.int .i64 wd, .int .u8 ((q : Int) + 1)]) ?_ ?_; exact rfl)
    (refine jO rfl rfl rfl rfl ?_)
    refine jjQ ((Make_slip a c cs wd ((q : Int) + 1) _ p hs (by omega)).mono fun v _ _ h => h.trans (by rw [makeR_some haq hxq])) rfl rfl ?_
    rintro _ w12 hS12 rfl
    generalize hz : x ((q : Int) + 1) = z at *
    (apply jI; exact eU rfl; refine ju rfl rfl ?_; refine ju rfl rfl ?_)
    (apply jjR rfl; (intro _; first|exact eI rfl|exact eB rfl|exact eP rfl|exact eS rfl|exact eT rfl|exact eA rfl|exact eU rfl|exact eF rfl|exact eM rfl|exact eN rfl|exact rfl); exact rfl; exact rfl; exact rfl; exact rfl; intro b12 w_b12 hb_b12 hs_b12 hS_b12 hk_b12; have hA_b12 := Bk.of hk_b12)
    have hx12 : At w_b12 b12 0 [.int .i64 z.1.1, .int .i64 z.1.2.1, .int .i64 z.1.2.2, .string z.2.1, .string z.2.2.1, .string z.2.2.2] := Bk.toAt (h := hA_b12)
    clear hA_b12
    have y8 : At w_b12 b8 0 [.int .i64 p.1, .int .i64 p.2.1, .int .i64 p.2.2] := hp8.ext inferInstance
    (apply jJ; exact eI rfl; refine jz ?_; refine jjB ?_; refine jjB ?_; refine jjC ?_; apply jI; exact eI rfl; refine jjk rfl rfl (by omega) ?_; apply jI; exact eB rfl; refine jT rfl rfl rfl ?_; refine jm ?_; refine jn rfl ?_; refine jT rfl rfl rfl ?_; refine jO rfl rfl rfl rfl ?_; refine jT rfl rfl rfl ?_; refine jO rfl rfl rfl rfl ?_; refine jT rfl rfl rfl ?_)
    refine Ops.neqT (enc := encPl) z.1 p rfl rfl ?_
    rw [decide_eq_false (p := ¬ z.1 = p) (fun h => h hfq.2.2.2.2.2.2.2)]
    (apply jL rfl; exact eB rfl; refine jz ?_; refine jjK rfl ?_; refine jjG ?_; refine jjC ?_; apply jI; exact eI rfl; refine jO rfl rfl rfl rfl ?_)
    refine Ops.indexAP q rfl rfl rfl (blt3 hq3) ?_
    skip
    refine Ops.store (v := encSl z) rfl rfl rfl (ble3 hq3 _ _ _) rfl ?_
    intro V2 hp2
    have hB2 : Bk V2 b10 (arr3 ((fun j => if j = q + 1 then z else u j) 1) ((fun j => if j = q + 1 then z else u j) 2) ((fun j => if j = q + 1 then z else u j) 3)) 60 := by
      have h := hp2.new
      rw [show (encSl z).cells.size = 6 from rfl, put3 hq3 u z] at h
      exact Bk.of h
    have hE2 : Ext w_b8 V2 := hp2.ext inferInstance eb
    (refine jz ?_; refine jjC ?_; refine jY rfl rfl (by omega) ?_; apply jI; exact eI rfl; refine jz ?_)
    exact ⟨rfl, by ((refine Same.upd rfl ?_; refine Same.upd rfl ?_; refine Same.upd rfl ?_; refine Same.upd rfl ?_; refine Same.upd rfl ?_; refine Same.upd rfl ?_; refine Same.upd rfl ?_; refine Same.upd rfl ?_; refine Same.upd rfl ?_; refine Same.upd rfl ?_; refine Same.upd rfl ?_; refine Same.upd rfl ?_; refine Same.upd rfl ?_; refine Same.upd rfl ?_; refine Same.upd rfl ?_; refine Same.upd rfl ?_; refine Same.upd rfl ?_; refine Same.upd rfl ?_; refine Same.upd rfl ?_; refine Same.upd rfl ?_; refine Same.upd rfl ?_; refine Same.upd rfl ?_; refine Same.upd rfl ?_; refine Same.upd rfl ?_; refine Same.upd rfl ?_; refine Same.upd rfl ?_; refine Same.upd rfl ?_; refine Same.upd rfl ?_; refine Same.upd rfl ?_; refine Same.upd rfl ?_; refine Same.upd rfl ?_; exact Same.ovN)), 3 - (q + 1), by omega, q + 1, (fun j => if j = q + 1 then z else u j), congrArg (Value.int .i64) (by omega), rfl, by omega, hE2, hB2, fun j h1 h2 => by
      dsimp only
      by_cases hj : j = q + 1
      · rw [if_pos hj, hj, ← hz]
        exact congrArg x (by omega)
      · rw [if_neg hj]; exact hu j h1 (by omega)⟩
  have hqe : q = 3 := by omega
  have hB3 : Bk V b10 (arr3 (x 1) (x 2) (x 3)) 60 := by
    rw [hu 1 (by omega) (by omega), hu 2 (by omega) (by omega), hu 3 (by omega) (by omega)] at hB
    exact hB
  clear hB hu
  (refine jjB ?_; refine jjC ?_; refine jja rfl rfl (by omega) ?_; refine jz ?_; refine jjB ?_; refine jjK rfl ?_; refine jjE ?_; refine jjB ?_; refine jjC ?_)
  (apply jjR rfl; (intro _; first|exact eI rfl|exact eB rfl|exact eP rfl|exact eS rfl|exact eT rfl|exact eA rfl|exact eU rfl|exact eF rfl|exact eM rfl|exact eN rfl|exact rfl); exact rfl; exact rfl; exact rfl; exact rfl; intro b14 w_b14 hb_b14 hs_b14 hS_b14 hk_b14; have hA_b14 := Bk.of hk_b14)
  have hx14 : At w_b14 b14 0 [.func (.func 21) #[] ([] : List Value).toArray] := Bk.toAt (h := hA_b14)
  clear hA_b14
  (refine jz ?_; refine jjB ?_; refine jjC ?_; refine jv ?_; apply jJ; exact eF rfl; refine jz ?_; refine jjB ?_; refine jjB ?_; refine jjC ?_; refine jO rfl rfl rfl rfl ?_; apply jI; exact eI rfl; refine jz ?_; refine jjD ?_)
  refine W.keep0 [(7, .bool true), (10, .pointer (some ⟨b10, 0, none⟩)), (15, .func (.func 22) #[] #[.pointer (some ⟨b14, 0, none⟩)]), (64, .agg (arr3 (x 1) (x 2) (x 3)).toArray), (65, .int .i64 ((0 : Nat) : Int))] ⟨eB rfl, eP rfl, eF rfl, eA rfl, eI rfl, trivial⟩ fun s1 => ?_
  refine W.loop (66 :: 67 :: 17 :: 68 :: 69 :: 70 :: 71 :: 72 :: 73 :: 74 :: 75 :: 76 :: 77 :: 78 :: 79 :: 80 :: 81 :: 82 :: 83 :: 84 :: 85 :: 86 :: 87 :: 88 :: 89 :: 90 :: 91 :: 92 :: 93 :: 94 :: 95 :: 96 :: 97 :: 98 :: 99 :: 100 :: 101 :: 102 :: 103 :: 6 :: 104 :: 65 :: []) (fun g s' V => ∃ r : Nat, s' 65 = .int .i64 ((r : Nat) : Int) ∧ g = 3 - r ∧ r ≤ 3) 3 ⟨0, rfl, rfl, by omega⟩ ?_
  rintro _ sd2 V2 hSV2 ⟨r, h65, rfl, hr⟩
  refine W.fix (d := 65) h65 ?_
  clear h65
  by_cases hr3 : r < 3
  rotate_left
  · (refine jjB ?_; refine jjC ?_; refine jja rfl rfl (by omega) ?_; refine jz ?_; refine jjB ?_; refine jjK rfl ?_; refine jjE ?_; refine jjB ?_; refine jjC ?_; apply jI; exact eB rfl; apply jJ; exact eB rfl; refine jz ?_; refine jjF ?_; refine jB rfl rfl ⟨inferInstance, ?_⟩)
    exact rfl
  (refine jjB ?_; refine jjC ?_; refine jjZ rfl rfl (by omega) ?_; refine jz ?_; refine jjB ?_; refine jjJ rfl ?_; refine jjG ?_; refine jjB ?_; refine jjD ?_; refine jjB ?_; refine jjC ?_)
  refine Ops.indexA (cells := arr3 (x 1) (x 2) (x 3)) (j := r) rfl rfl rfl (blt3 hr3) rfl (pick3 x hr3) ?_
  obtain ⟨f1, f2, f3, f4, f5, f6, f7, -⟩ := hfa ((r : Int) + 1) (by omega) (by omega)
  obtain ⟨-, -, -, -, g5, g6, g7, -⟩ := hfa 1 (by omega) (by omega)
  obtain ⟨-, -, -, -, k5, k6, k7, -⟩ := hfa 3 (by omega) (by omega)
  generalize x ((r : Int) + 1) = z at *
  generalize x 1 = xa at *
  generalize x 2 = xb at *
  generalize x 3 = xc at *
  skip
  (apply jjR rfl; (intro _; first|exact eI rfl|exact eB rfl|exact eP rfl|exact eS rfl|exact eT rfl|exact eA rfl|exact eU rfl|exact eF rfl|exact eM rfl|exact eN rfl|exact rfl); exact rfl; exact rfl; exact rfl; exact rfl; intro b17 w_b17 hb_b17 hs_b17 hS_b17 hk_b17; have hA_b17 := Bk.of hk_b17)
  have hx17 : At w_b17 b17 0 [.int .i64 z.1.1, .int .i64 z.1.2.1, .int .i64 z.1.2.2, .string z.2.1, .string z.2.2.1, .string z.2.2.2] := Bk.toAt (h := hA_b17)
  clear hA_b17
  (refine jz ?_; refine jjB ?_)
  (skip)
  have hE17 : Ext V w_b17 := inferInstance
  have hA10 : At w_b17 b10 0 (arr3 xa xb xc) := (Bk.toAt (h := hB3)).ext inferInstance
  have y14 : At w_b17 b14 0 [.func (.func 21) #[] ([] : List Value).toArray] := hx14.ext inferInstance
  clear hB3 hx14
  have hn1 := nW_le z.2.2.1
  refine W.draw (fun w' => Ext w_b17 w') ?_
  intro w18 hS18
  (refine jjV [0] ?_ ?_ ?_; (decide +kernel); (exact hS18.ext); (((apply jjT; exact rfl; rintro w' hq; have := hq.toStep; refine jO rfl rfl rfl rfl ?_; refine jz ?_; exact ⟨rfl, rfl⟩; refine jjU ?_))))
  refine jjV [2] (by decide +kernel) hS18.ext (jjT (v := .pointer (some ⟨b10, 0 + 0 * 6, none⟩)) rfl (fun w' q1 => ?_) (jjU ?_)); (refine Ops.indexAP 0 rfl rfl rfl rfl ?_; refine jz ?_; exact ⟨rfl, rfl⟩)
  (refine jjV [3] ?_ ?_ ?_; (decide +kernel); (exact hS18.ext); (((apply jjT; exact rfl; rintro w' hq; have := hq.toStep; refine jO rfl rfl rfl rfl ?_; refine jz ?_; exact ⟨rfl, rfl⟩; refine jjU ?_))))
  (apply jjW 1; (decide +kernel); exact rfl; (exact inferInstance))
  refine jjQ (width_law3 z _ f7) rfl rfl ?_
  rintro _ v1 hv1 rfl
  refine jz ?_
  (apply jjW 4; (decide +kernel); exact rfl; (exact inferInstance))
  refine jjQ (width_law3 xa _ g7) rfl rfl ?_
  rintro _ v2 hv2 rfl
  refine jz ?_
  refine jjV [5, 6, 7, 8, 9] (by decide +kernel) inferInstance ?_
  (((apply jjT; exact rfl; rintro w' hq; have := hq.toStep; refine jjk rfl rfl (by omega) ?_; refine jz ?_; exact ⟨rfl, rfl⟩; apply jjT; exact rfl; rintro w' hq; have := hq.toStep; apply jI; exact eB rfl; refine jz ?_; exact ⟨rfl, rfl⟩; apply jjT; exact rfl; rintro w' hq; have := hq.toStep; refine jT rfl rfl rfl ?_; refine jm ?_; refine jn rfl ?_; refine jz ?_; exact ⟨rfl, rfl⟩; apply jjT; exact rfl; rintro w' hq; have := hq.toStep; refine jT rfl rfl rfl ?_; refine jN rfl rfl rfl ?_; refine jz ?_; exact ⟨rfl, rfl⟩; apply jjT; exact rfl; rintro w' hq; have := hq.toStep; refine jT rfl rfl rfl ?_; refine ji rfl ?_; refine jz ?_; exact ⟨rfl, rfl⟩; refine jjU ?_)))
  refine jjV [10] (by decide +kernel) inferInstance (jjT (v := .pointer (some ⟨b10, 0 + 0 * 6, none⟩)) rfl (fun w' q1 => ?_) (jjU ?_)); (refine jT rfl rfl rfl ?_; refine Ops.indexAP 0 rfl rfl rfl rfl ?_; refine jz ?_; exact ⟨rfl, rfl⟩)
  refine jjV [11, 12, 13, 14, 15, 16, 17, 18, 19] (by decide +kernel) inferInstance ?_
  (((apply jjT; exact rfl; rintro w' hq; have := hq.toStep; refine jT rfl rfl rfl ?_; refine jm ?_; refine jn rfl ?_; refine jz ?_; exact ⟨rfl, rfl⟩; apply jjT; exact rfl; rintro w' hq; have := hq.toStep; refine jT rfl rfl rfl ?_; refine jN rfl rfl rfl ?_; refine jz ?_; exact ⟨rfl, rfl⟩; apply jjT; exact rfl; rintro w' hq; have := hq.toStep; refine jT rfl rfl rfl ?_; refine ji rfl ?_; refine jz ?_; exact ⟨rfl, rfl⟩; apply jjT; exact rfl; rintro w' hq; have := hq.toStep; refine jT rfl rfl rfl ?_; refine jje rfl rfl (by omega) ?_; refine jz ?_; exact ⟨rfl, rfl⟩; apply jjT; exact rfl; rintro w' hq; have := hq.toStep; apply jL rfl; exact eB rfl; refine jz ?_; exact ⟨rfl, rfl⟩; apply jjT; exact rfl; rintro w' hq; have := hq.toStep; apply jI; exact eB rfl; refine jz ?_; exact ⟨rfl, rfl⟩; apply jjT; exact rfl; rintro w' hq; have := hq.toStep; refine jT rfl rfl rfl ?_; refine jm ?_; refine jn rfl ?_; refine jz ?_; exact ⟨rfl, rfl⟩; apply jjT; exact rfl; rintro w' hq; have := hq.toStep; refine jT rfl rfl rfl ?_; refine jN rfl rfl rfl ?_; refine jz ?_; exact ⟨rfl, rfl⟩; apply jjT; exact rfl; rintro w' hq; have := hq.toStep; refine jT rfl rfl rfl ?_; refine ji rfl ?_; refine jz ?_; exact ⟨rfl, rfl⟩; refine jjU ?_)))
  refine jjV [20] (by decide +kernel) inferInstance (jjT (v := .pointer (some ⟨b10, 0 + 1 * 6, none⟩)) rfl (fun w' q1 => ?_) (jjU ?_)); (refine jT rfl rfl rfl ?_; refine Ops.indexAP 1 rfl rfl rfl rfl ?_; refine jz ?_; exact ⟨rfl, rfl⟩)
  refine jjV [21, 22, 23, 24, 25, 26, 27, 28, 30] (by decide +kernel) inferInstance ?_
  (((apply jjT; exact rfl; rintro w' hq; have := hq.toStep; refine jT rfl rfl rfl ?_; refine jm ?_; refine jn rfl ?_; refine jz ?_; exact ⟨rfl, rfl⟩; apply jjT; exact rfl; rintro w' hq; have := hq.toStep; refine jT rfl rfl rfl ?_; refine jN rfl rfl rfl ?_; refine jz ?_; exact ⟨rfl, rfl⟩; apply jjT; exact rfl; rintro w' hq; have := hq.toStep; refine jT rfl rfl rfl ?_; refine ji rfl ?_; refine jz ?_; exact ⟨rfl, rfl⟩; apply jjT; exact rfl; rintro w' hq; have := hq.toStep; refine jT rfl rfl rfl ?_; refine jja rfl rfl (by omega) ?_; refine jz ?_; exact ⟨rfl, rfl⟩; apply jjT; exact rfl; rintro w' hq; have := hq.toStep; apply jL rfl; exact eB rfl; refine jz ?_; exact ⟨rfl, rfl⟩; apply jjT; exact rfl; rintro w' hq; have := hq.toStep; apply jI; exact eB rfl; refine jz ?_; exact ⟨rfl, rfl⟩; apply jjT; exact rfl; rintro w' hq; have := hq.toStep; refine jT rfl rfl rfl ?_; apply jI; exact eF rfl; refine jz ?_; exact ⟨rfl, rfl⟩; apply jjT; exact rfl; rintro w' hq; have := hq.toStep; refine jT rfl rfl rfl ?_; refine jO rfl rfl rfl rfl ?_; refine jz ?_; exact ⟨rfl, rfl⟩; apply jjT; exact rfl; rintro w' hq; have := hq.toStep; refine jT rfl rfl rfl ?_; apply jI; exact eF rfl; refine jz ?_; exact ⟨rfl, rfl⟩; refine jjU ?_)))
  refine jjV [31] (by decide +kernel) inferInstance (jjT (v := .pointer (some ⟨b10, 0 + 2 * 6, none⟩)) rfl (fun w' q1 => ?_) (jjU ?_)); (refine jT rfl rfl rfl ?_; refine Ops.indexAP 2 rfl rfl rfl rfl ?_; refine jz ?_; exact ⟨rfl, rfl⟩)
  refine jjV [32] (by decide +kernel) inferInstance ?_
  (((apply jjT; exact rfl; rintro w' hq; have := hq.toStep; refine jT rfl rfl rfl ?_; refine jO rfl rfl rfl rfl ?_; refine jz ?_; exact ⟨rfl, rfl⟩; refine jjU ?_)))
  (apply jjW 29; (decide +kernel); exact rfl; (exact inferInstance))
  (refine jT rfl rfl rfl ?_)
  refine jjQ (uneven_sides z b14 _ f7 f5 f6) rfl rfl ?_
  rintro _ v3 hv3 rfl
  refine jz ?_
  (apply jjW 33; (decide +kernel); exact rfl; (exact inferInstance))
  (refine jT rfl rfl rfl ?_)
  refine jjQ (uneven_sides xc b14 _ k7 k5 k6) rfl rfl ?_
  rintro _ v4 hv4 rfl
  refine jz ?_
  refine jjV [34, 35] (by decide +kernel) inferInstance ?_
  (((apply jjT; exact rfl; rintro w' hq; have := hq.toStep; refine jT rfl rfl rfl ?_; refine jja rfl rfl (by omega) ?_; refine jz ?_; exact ⟨rfl, rfl⟩; apply jjT; exact rfl; rintro w' hq; have := hq.toStep; apply jL rfl; exact eB rfl; refine jz ?_; exact ⟨rfl, rfl⟩; refine jjU ?_)))
  refine jjX (by decide +kernel) inferInstance ?_
  (refine jjK rfl ?_; refine jjG ?_; refine jjC ?_; refine jY rfl rfl (by omega) ?_; apply jI; exact eI rfl; refine jz ?_)
  exact ⟨rfl, by ((refine Same.upd rfl ?_; refine Same.upd rfl ?_; refine Same.upd rfl ?_; refine Same.upd rfl ?_; refine Same.upd rfl ?_; refine Same.upd rfl ?_; refine Same.upd rfl ?_; refine Same.upd rfl ?_; refine Same.upd rfl ?_; refine Same.upd rfl ?_; refine Same.upd rfl ?_; refine Same.upd rfl ?_; refine Same.upd rfl ?_; refine Same.upd rfl ?_; refine Same.upd rfl ?_; refine Same.upd rfl ?_; refine Same.upd rfl ?_; refine Same.upd rfl ?_; refine Same.upd rfl ?_; refine Same.upd rfl ?_; refine Same.upd rfl ?_; refine Same.upd rfl ?_; refine Same.upd rfl ?_; refine Same.upd rfl ?_; refine Same.upd rfl ?_; refine Same.upd rfl ?_; refine Same.upd rfl ?_; refine Same.upd rfl ?_; refine Same.upd rfl ?_; refine Same.upd rfl ?_; refine Same.upd rfl ?_; refine Same.upd rfl ?_; refine Same.upd rfl ?_; refine Same.upd rfl ?_; refine Same.upd rfl ?_; refine Same.upd rfl ?_; refine Same.upd rfl ?_; refine Same.upd rfl ?_; refine Same.upd rfl ?_; refine Same.upd rfl ?_; refine Same.upd rfl ?_; refine Same.upd rfl ?_; exact Same.ovN)), 3 - (r + 1), by omega, inferInstance, r + 1, congrArg (Value.int .i64) (by omega), rfl, by omega⟩
end
end Go.Proofs.YtpbkphaceljclaaGreatDoor
