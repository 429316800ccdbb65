/- Texts of the proof, part 6: SameT, Rc1, Al3, PlK, PlL, PlM, Lg1, Eng29, Lg2, Eng18, Pc1, PlH, PlI, Lr1, Rdy, Rc2, Rc3, Rc4, Eng30, LawCo. -/
import Derived.ChangeKeysEq
import Derived.Laws.Small
import Derived.Test.YtgnjjocafmofaaaGreatDoorSK5
/- Comparisons of lists, element by element. -/
namespace Go.Proofs.YtgnjjocafmofaaaGreatDoor
open Go.RowKit

set_option maxHeartbeats 1000000 in
theorem same_places1 (a1 a2 : Option Addr) (c1 c2 n1 n2 : Nat) (xs ys : List Pl) (w : World) (h1 : xs.length = n1) (h2 : ys.length = n2) (hx : RowV w true 3 (.slice a1 n1 c1) (xs.map encPl)) (hy : RowV w true 3 (.slice a2 n2 c2) (ys.map encPl)) : Ct Tryz.prog 55 [.slice a1 n1 c1, .slice a2 n2 c2] w fun v _ => v = .bool (decide (xs = ys)) := by
  subst h1 h2
  have hlx := hx.len
  have hly := hy.len
  rw [List.length_map] at hlx hly
  refine Ct.ofW (by simp) ?_
  by_cases hl : xs.length = ys.length
  rotate_left
  · (refine jjB ?_; refine jjC ?_; apply jJ; exact eB rfl; refine jz ?_; refine jjB ?_; refine jjB ?_; refine jjC ?_; apply jI; exact eS rfl; refine jh rfl ?_; apply jI; exact eS rfl; refine jh rfl ?_; refine jjj rfl rfl (by omega) ?_; refine jz ?_; refine jjJ rfl ?_; refine jjB ?_; refine jjC ?_; apply jJ; exact eB rfl; refine jz ?_; refine jjF ?_; refine jB rfl rfl ⟨inferInstance, ?_⟩)
    rw [decide_eq_false (fun e => hl (by rw [e]))]; exact rfl
  (refine jjB ?_; refine jjC ?_; apply jJ; exact eB rfl; refine jz ?_; refine jjB ?_; refine jjB ?_; refine jjC ?_; apply jI; exact eS rfl; refine jh rfl ?_; apply jI; exact eS rfl; refine jh rfl ?_; refine jjk rfl rfl (by omega) ?_; refine jz ?_; refine jjK rfl ?_; refine jjG ?_; refine jjB ?_; refine jjB ?_; refine jjC ?_; apply jJ; exact eI rfl; refine jz ?_; refine jjD ?_)
  refine W.keep0 [(0, .slice a1 xs.length c1), (1, .slice a2 ys.length c2), (5, .int .i64 ((0 : Nat) : Int))] ⟨eS rfl, eS rfl, eI rfl, trivial⟩ fun s0 => ?_
  refine W.loop (11 :: 12 :: 13 :: 14 :: 17 :: 18 :: 19 :: 20 :: 21 :: 22 :: 23 :: 24 :: 25 :: 4 :: 15 :: 16 :: 5 :: []) (fun g s' V => ∃ k : Nat, s' 5 = .int .i64 ((k : Nat) : Int) ∧ g = xs.length - k ∧ k ≤ xs.length ∧ ∀ (j : Nat) (hj : j < xs.length), j < k → xs[j] = ys[j]'(by omega)) xs.length ⟨0, rfl, rfl, Nat.zero_le _, by intros; omega⟩ ?_
  rintro _ sd w1 hS1 ⟨k, h5, rfl, hk, hpre⟩
  refine W.fix h5 ?_
  clear h5
  by_cases hkl : k < xs.length
  rotate_left
  · have e : xs = ys := List.ext_getElem hl fun j hj _ => hpre j hj (by omega)
    (refine jjB ?_; refine jjB ?_; refine jjC ?_; apply jI; exact eI rfl; apply jI; exact eS rfl; refine jh rfl ?_; refine jja rfl rfl (by omega) ?_; refine jz ?_; refine jjK rfl ?_; refine jjE ?_; refine jjB ?_; refine jjC ?_; apply jJ; exact eB rfl; refine jz ?_; refine jjF ?_; refine jB rfl rfl ⟨inferInstance, ?_⟩)
    rw [decide_eq_true e]; exact rfl
  have hkl2 : k < ys.length := by omega
  obtain ⟨b1, o1, rfl, hA1⟩ := hx.place' (map_get hkl)
  obtain ⟨b2, o2, rfl, hA2⟩ := hy.place' (map_get hkl2)
  (refine jjB ?_; refine jjB ?_; refine jjC ?_; apply jI; exact eI rfl; apply jI; exact eS rfl; refine jh rfl ?_; refine jjZ rfl rfl (by omega) ?_; refine jz ?_; refine jjJ rfl ?_; refine jjG ?_; refine jjB ?_; refine jjD ?_; refine jjB ?_)
  refine W.draw (fun w' => Ext w w') ?_
  intro w2 hS2
  have hE2 : Ext w w2 := hS1.ext.trans hS2.ext
  (refine jjV [0, 1, 2, 3, 4, 5, 6, 7] ?_ ?_ ?_; (decide +kernel); (exact hE2); (((apply jjT; exact rfl; rintro w' hq; have := hq.toStep; apply jI; exact eS rfl; refine jz ?_; exact ⟨rfl, rfl⟩; apply jjT; exact rfl; rintro w' hq; have := hq.toStep; apply jI; exact eI rfl; refine jz ?_; exact ⟨rfl, rfl⟩; apply jjT; exact rfl; rintro w' hq; have := hq.toStep; refine jH _ rfl rfl rfl (by omega) ?_; refine jz ?_; exact ⟨rfl, rfl⟩; apply jjT; exact rfl; rintro w' hq; have := hq.toStep; refine jQ rfl rfl ?_; refine jz ?_; exact ⟨rfl, rfl⟩; apply jjT; exact rfl; rintro w' hq; have := hq.toStep; apply jI; exact eS rfl; refine jz ?_; exact ⟨rfl, rfl⟩; apply jjT; exact rfl; rintro w' hq; have := hq.toStep; apply jI; exact eI rfl; refine jz ?_; exact ⟨rfl, rfl⟩; apply jjT; exact rfl; rintro w' hq; have := hq.toStep; refine jH _ rfl rfl rfl (by omega) ?_; refine jz ?_; exact ⟨rfl, rfl⟩; apply jjT; exact rfl; rintro w' hq; have := hq.toStep; refine jQ rfl rfl ?_; refine jz ?_; exact ⟨rfl, rfl⟩; refine jjU ?_))))
  by_cases hkj : xs[k] = ys[k]
  · refine jjV [8] (by decide +kernel) hE2 (jjT (v := .bool false) rfl (fun w' q1 => ?_) (jjU ?_)); (refine Ops.neqT (enc := encPl) xs[k] ys[k] rfl rfl ?_; rw [decide_eq_false (by simp [hkj])]; refine jz ?_; exact ⟨rfl, rfl⟩)
    refine jjX (by decide +kernel) hE2 ?_
    (refine jjK rfl ?_; refine jjG ?_; refine jjC ?_; apply jI; exact eI rfl; refine jY rfl rfl (by omega) ?_; apply jJ; exact eI rfl; refine jz ?_)
    refine ⟨rfl, by ((refine Same.upd rfl ?_; refine Same.upd rfl ?_; refine Same.upd rfl ?_; refine Same.upd rfl ?_; refine Same.upd rfl ?_; refine Same.upd rfl ?_; refine Same.upd rfl ?_; refine Same.upd rfl ?_; refine Same.upd rfl ?_; refine Same.upd rfl ?_; refine Same.upd rfl ?_; refine Same.upd rfl ?_; refine Same.upd rfl ?_; refine Same.upd rfl ?_; refine Same.upd rfl ?_; refine Same.upd rfl ?_; refine Same.upd rfl ?_; exact Same.ovN)), xs.length - (k + 1), by omega, inferInstance, k + 1, congrArg (Value.int .i64) (by omega), rfl, by omega, fun j hj hjk => ?_⟩
    by_cases e : j = k
    · subst e; exact hkj
    · exact hpre j hj (by omega)
  · refine jjV [8] (by decide +kernel) hE2 (jjT (v := .bool true) rfl (fun w' q1 => ?_) (jjU ?_)); (refine Ops.neqT (enc := encPl) xs[k] ys[k] rfl rfl ?_; rw [decide_eq_true hkj]; refine jz ?_; exact ⟨rfl, rfl⟩)
    refine jjX (by decide +kernel) hE2 ?_
    (refine jjJ rfl ?_; refine jjB ?_; refine jjC ?_; apply jJ; exact eB rfl; refine jz ?_; refine jjF ?_; refine jB rfl rfl ⟨inferInstance, ?_⟩)
    rw [decide_eq_false (fun e => hkj (by simp only [e]))]; exact rfl

set_option maxHeartbeats 1000000 in
theorem same_ints3 (a1 a2 : Option Addr) (c1 c2 n1 n2 : Nat) (xs ys : List Int) (w : World) (h1 : xs.length = n1) (h2 : ys.length = n2) (hx : RowV w false 1 (.slice a1 n1 c1) (xs.map intV)) (hy : RowV w false 1 (.slice a2 n2 c2) (ys.map intV)) : Ct Tryz.prog 56 [.slice a1 n1 c1, .slice a2 n2 c2] w fun v _ => v = .bool (decide (xs = ys)) := by
  subst h1 h2
  have hlx := hx.len
  have hly := hy.len
  rw [List.length_map] at hlx hly
  refine Ct.ofW (by simp) ?_
  by_cases hl : xs.length = ys.length
  rotate_left
  · (refine jjB ?_; refine jjC ?_; apply jJ; exact eB rfl; refine jz ?_; refine jjB ?_; refine jjB ?_; refine jjC ?_; apply jI; exact eS rfl; refine jh rfl ?_; apply jI; exact eS rfl; refine jh rfl ?_; refine jjj rfl rfl (by omega) ?_; refine jz ?_; refine jjJ rfl ?_; refine jjB ?_; refine jjC ?_; apply jJ; exact eB rfl; refine jz ?_; refine jjF ?_; refine jB rfl rfl ⟨inferInstance, ?_⟩)
    rw [decide_eq_false (fun e => hl (by rw [e]))]; exact rfl
  (refine jjB ?_; refine jjC ?_; apply jJ; exact eB rfl; refine jz ?_; refine jjB ?_; refine jjB ?_; refine jjC ?_; apply jI; exact eS rfl; refine jh rfl ?_; apply jI; exact eS rfl; refine jh rfl ?_; refine jjk rfl rfl (by omega) ?_; refine jz ?_; refine jjK rfl ?_; refine jjG ?_; refine jjB ?_; refine jjB ?_; refine jjC ?_; apply jJ; exact eI rfl; refine jz ?_; refine jjD ?_)
  refine W.keep0 [(0, .slice a1 xs.length c1), (1, .slice a2 ys.length c2), (5, .int .i64 ((0 : Nat) : Int))] ⟨eS rfl, eS rfl, eI rfl, trivial⟩ fun s0 => ?_
  refine W.loop (11 :: 12 :: 13 :: 14 :: 17 :: 18 :: 19 :: 20 :: 21 :: 22 :: 23 :: 24 :: 25 :: 4 :: 15 :: 16 :: 5 :: []) (fun g s' V => ∃ k : Nat, s' 5 = .int .i64 ((k : Nat) : Int) ∧ g = xs.length - k ∧ k ≤ xs.length ∧ ∀ (j : Nat) (hj : j < xs.length), j < k → xs[j] = ys[j]'(by omega)) xs.length ⟨0, rfl, rfl, Nat.zero_le _, by intros; omega⟩ ?_
  rintro _ sd w1 hS1 ⟨k, h5, rfl, hk, hpre⟩
  refine W.fix h5 ?_
  clear h5
  by_cases hkl : k < xs.length
  rotate_left
  · have e : xs = ys := List.ext_getElem hl fun j hj _ => hpre j hj (by omega)
    (refine jjB ?_; refine jjB ?_; refine jjC ?_; apply jI; exact eI rfl; apply jI; exact eS rfl; refine jh rfl ?_; refine jja rfl rfl (by omega) ?_; refine jz ?_; refine jjK rfl ?_; refine jjE ?_; refine jjB ?_; refine jjC ?_; apply jJ; exact eB rfl; refine jz ?_; refine jjF ?_; refine jB rfl rfl ⟨inferInstance, ?_⟩)
    rw [decide_eq_true e]; exact rfl
  have hkl2 : k < ys.length := by omega
  obtain ⟨b1, o1, rfl, hA1⟩ := hx.place' (map_get hkl)
  obtain ⟨b2, o2, rfl, hA2⟩ := hy.place' (map_get hkl2)
  rw [Nat.mul_one] at hA1 hA2
  (refine jjB ?_; refine jjB ?_; refine jjC ?_; apply jI; exact eI rfl; apply jI; exact eS rfl; refine jh rfl ?_; refine jjZ rfl rfl (by omega) ?_; refine jz ?_; refine jjJ rfl ?_; refine jjG ?_; refine jjB ?_; refine jjD ?_; refine jjB ?_)
  refine W.draw (fun w' => Ext w w') ?_
  intro w2 hS2
  have hE2 : Ext w w2 := hS1.ext.trans hS2.ext
  (refine jjV [0, 1, 2, 3, 4, 5, 6, 7] ?_ ?_ ?_; (decide +kernel); (exact hE2); (((apply jjT; exact rfl; rintro w' hq; have := hq.toStep; apply jI; exact eS rfl; refine jz ?_; exact ⟨rfl, rfl⟩; apply jjT; exact rfl; rintro w' hq; have := hq.toStep; apply jI; exact eI rfl; refine jz ?_; exact ⟨rfl, rfl⟩; apply jjT; exact rfl; rintro w' hq; have := hq.toStep; refine jG rfl rfl rfl (by omega) ?_; refine jz ?_; exact ⟨rfl, rfl⟩; apply jjT; exact rfl; rintro w' hq; have := hq.toStep; refine jQ rfl rfl ?_; refine jz ?_; exact ⟨rfl, rfl⟩; apply jjT; exact rfl; rintro w' hq; have := hq.toStep; apply jI; exact eS rfl; refine jz ?_; exact ⟨rfl, rfl⟩; apply jjT; exact rfl; rintro w' hq; have := hq.toStep; apply jI; exact eI rfl; refine jz ?_; exact ⟨rfl, rfl⟩; apply jjT; exact rfl; rintro w' hq; have := hq.toStep; refine jG rfl rfl rfl (by omega) ?_; refine jz ?_; exact ⟨rfl, rfl⟩; apply jjT; exact rfl; rintro w' hq; have := hq.toStep; refine jQ rfl rfl ?_; refine jz ?_; exact ⟨rfl, rfl⟩; refine jjU ?_))))
  by_cases hkj : xs[k] = ys[k]
  · refine jjV [8] (by decide +kernel) hE2 (jjT (v := .bool false) rfl (fun w' q1 => ?_) (jjU ?_)); (refine jc (a := xs[k]) (b := ys[k]) rfl rfl ?_; rw [decide_eq_false (by simp [hkj])]; refine jz ?_; exact ⟨rfl, rfl⟩)
    refine jjX (by decide +kernel) hE2 ?_
    (refine jjK rfl ?_; refine jjG ?_; refine jjC ?_; apply jI; exact eI rfl; refine jY rfl rfl (by omega) ?_; apply jJ; exact eI rfl; refine jz ?_)
    refine ⟨rfl, by ((refine Same.upd rfl ?_; refine Same.upd rfl ?_; refine Same.upd rfl ?_; refine Same.upd rfl ?_; refine Same.upd rfl ?_; refine Same.upd rfl ?_; refine Same.upd rfl ?_; refine Same.upd rfl ?_; refine Same.upd rfl ?_; refine Same.upd rfl ?_; refine Same.upd rfl ?_; refine Same.upd rfl ?_; refine Same.upd rfl ?_; refine Same.upd rfl ?_; refine Same.upd rfl ?_; refine Same.upd rfl ?_; refine Same.upd rfl ?_; exact Same.ovN)), xs.length - (k + 1), by omega, inferInstance, k + 1, congrArg (Value.int .i64) (by omega), rfl, by omega, fun j hj hjk => ?_⟩
    by_cases e : j = k
    · subst e; exact hkj
    · exact hpre j hj (by omega)
  · refine jjV [8] (by decide +kernel) hE2 (jjT (v := .bool true) rfl (fun w' q1 => ?_) (jjU ?_)); (refine jc (a := xs[k]) (b := ys[k]) rfl rfl ?_; rw [decide_eq_true hkj]; refine jz ?_; exact ⟨rfl, rfl⟩)
    refine jjX (by decide +kernel) hE2 ?_
    (refine jjJ rfl ?_; refine jjB ?_; refine jjC ?_; apply jJ; exact eB rfl; refine jz ?_; refine jjF ?_; refine jB rfl rfl ⟨inferInstance, ?_⟩)
    rw [decide_eq_false (fun e => hkj (by simp only [e]))]; exact rfl
end Go.Proofs.YtgnjjocafmofaaaGreatDoor

/- The reference: copies that are great, their twins, comparisons; a reading. -/
namespace Go.Proofs.YtgnjjocafmofaaaGreatDoor
open Go.RowKit

def greatR (rs : List Rd) : Bool := decide (30 < rs.length) || rs.any fun r => decide (40 < r.2.2.size)
theorem small_of_greatR {rs : List Rd} (h : greatR rs = false) (hb : ∀ r ∈ rs, 0 ≤ r.2.1 ∧ r.2.1 ≤ 255) : SmallR rs := by
  simp only [greatR, Bool.or_eq_false_iff, decide_eq_false_iff_not, List.any_eq_false, decide_eq_true_eq] at h
  exact ⟨by omega, fun r hr => by have := h.2 r hr; omega, hb⟩
set_option maxHeartbeats 1000000 in
theorem GreatCopy_ref1 (id : Int) (ra : Option Addr) (rc : Nat) (rs : List Rd) (w : World) [hrd : RowI w (.slice ra rs.length rc) true 5 (rs.map encRd)] : Ct Tryz.prog 49 [.agg #[.int .i64 id, .slice ra rs.length rc]] w fun v _ => v = .bool (greatR rs) := by
  have hrl := hrd.h.len
  rw [List.length_map] at hrl
  refine Ct.ofW (by simp) ?_
  (refine jjB ?_; refine jjC ?_)
  (refine jy rfl ?_; intro b1 w_b1 hb_b1 hs_b1 hS_b1 hk_b1; have hA_b1 := At.ofBlock hk_b1)
  by_cases h30 : 30 < rs.length
  · (apply jJ; exact eB rfl; refine jz ?_; refine jjB ?_; refine jjB ?_; refine jjC ?_; refine jm ?_; refine jn rfl ?_; refine jN rfl rfl rfl ?_; refine jh rfl ?_; refine jjd rfl rfl (by omega) ?_; refine jz ?_; refine jjJ rfl ?_; refine jjB ?_; refine jjC ?_; apply jJ; exact eB rfl; refine jz ?_; refine jjF ?_; refine jB rfl rfl ⟨inferInstance, ?_⟩)
    rw [greatR, decide_eq_true h30]; exact rfl
  (apply jJ; exact eB rfl; refine jz ?_; refine jjB ?_; refine jjB ?_; refine jjC ?_; refine jm ?_; refine jn rfl ?_; refine jN rfl rfl rfl ?_; refine jh rfl ?_; refine jje rfl rfl (by omega) ?_; refine jz ?_; refine jjK rfl ?_; refine jjG ?_; refine jjB ?_; refine jjB ?_; refine jjC ?_; apply jJ; exact eI rfl; refine jz ?_; refine jjD ?_)
  refine W.keep0 [(1, .pointer (some ⟨b1, 0, none⟩)), (3, .int .i64 ((0 : Nat) : Int))] ⟨eP rfl, eI rfl, trivial⟩ fun s0 => ?_
  refine W.loop (8 :: 9 :: 10 :: 11 :: 12 :: 15 :: 16 :: 17 :: 18 :: 19 :: 20 :: 21 :: 22 :: 2 :: 13 :: 14 :: 3 :: []) (fun gg s' V => ∃ (i : Nat), s' 3 = .int .i64 ((i : Nat) : Int) ∧ gg = rs.length - i ∧ i ≤ rs.length ∧ ∀ (q : Nat) (hq : q < rs.length), q < i → decide (40 < rs[q].2.2.size) = false) rs.length ⟨0, rfl, rfl, Nat.zero_le _, by intros; omega⟩ ?_
  rintro _ sd V hSV ⟨i, h3, rfl, hi, hpre⟩
  refine W.fix h3 ?_
  clear h3
  by_cases hir : i < rs.length
  rotate_left
  · have hno : rs.any (fun r => decide (40 < r.2.2.size)) = false := any_miss fun q hq => hpre q hq (by omega)
    (refine jjB ?_; refine jjB ?_; refine jjC ?_; apply jI; exact eI rfl; refine jm ?_; refine jn rfl ?_; refine jN rfl rfl rfl ?_; refine jh rfl ?_; refine jja rfl rfl (by omega) ?_; refine jz ?_; refine jjK rfl ?_; refine jjE ?_; refine jjB ?_; refine jjC ?_; apply jJ; exact eB rfl; refine jz ?_; refine jjF ?_; refine jB rfl rfl ⟨inferInstance, ?_⟩)
    rw [greatR, decide_eq_false h30, hno]; exact rfl
  by_cases h40 : 40 < rs[i].2.2.size
  · have hy : rs.any (fun r => decide (40 < r.2.2.size)) = true := any_hit (k := i) hir (decide_eq_true h40)
    (refine jjB ?_; refine jjB ?_; refine jjC ?_; apply jI; exact eI rfl; refine jm ?_; refine jn rfl ?_; refine jN rfl rfl rfl ?_; refine jh rfl ?_; refine jjZ rfl rfl (by omega) ?_; refine jz ?_; refine jjJ rfl ?_; refine jjG ?_; refine jjB ?_; refine jjD ?_; refine jjB ?_; refine jjC ?_; refine jm ?_; refine jn rfl ?_; refine jN rfl rfl rfl ?_; apply jI; exact eI rfl; refine jF rfl rfl rfl (map_get (by omega)) ?_; intro _ _ _; refine jm ?_; refine jn rfl ?_; refine jP rfl rfl rfl ?_; refine ji rfl ?_; refine jjd rfl rfl (by omega) ?_; refine jz ?_; refine jjJ rfl ?_; refine jjB ?_; refine jjC ?_; apply jJ; exact eB rfl; refine jz ?_; refine jjF ?_; refine jB rfl rfl ⟨inferInstance, ?_⟩)
    rw [greatR, hy, Bool.or_true]; exact rfl
  · (refine jjB ?_; refine jjB ?_; refine jjC ?_; apply jI; exact eI rfl; refine jm ?_; refine jn rfl ?_; refine jN rfl rfl rfl ?_; refine jh rfl ?_; refine jjZ rfl rfl (by omega) ?_; refine jz ?_; refine jjJ rfl ?_; refine jjG ?_; refine jjB ?_; refine jjD ?_; refine jjB ?_; refine jjC ?_; refine jm ?_; refine jn rfl ?_; refine jN rfl rfl rfl ?_; apply jI; exact eI rfl; refine jF rfl rfl rfl (map_get (by omega)) ?_; intro _ _ _; refine jm ?_; refine jn rfl ?_; refine jP rfl rfl rfl ?_; refine ji rfl ?_; refine jje rfl rfl (by omega) ?_; refine jz ?_; refine jjK rfl ?_; refine jjG ?_; refine jjC ?_; apply jI; exact eI rfl; refine jY rfl rfl (by omega) ?_; apply jJ; exact eI rfl; refine jz ?_)
    refine ⟨rfl, by ((refine Same.upd rfl ?_; refine Same.upd rfl ?_; refine Same.upd rfl ?_; refine Same.upd rfl ?_; refine Same.upd rfl ?_; refine Same.upd rfl ?_; refine Same.upd rfl ?_; refine Same.upd rfl ?_; refine Same.upd rfl ?_; refine Same.upd rfl ?_; refine Same.upd rfl ?_; refine Same.upd rfl ?_; refine Same.upd rfl ?_; refine Same.upd rfl ?_; refine Same.upd rfl ?_; refine Same.upd rfl ?_; refine Same.upd rfl ?_; exact Same.ovN)), rs.length - (i + 1), by omega, inferInstance, i + 1, congrArg (Value.int .i64) (by omega), rfl, by omega, fun q hq hqi => ?_⟩
    by_cases e : q = i
    · subst e; exact decide_eq_false h40
    · exact hpre q hq (by omega)
end Go.Proofs.YtgnjjocafmofaaaGreatDoor

/- The statements' examples: alive. -/
namespace Go.Proofs.YtgnjjocafmofaaaGreatDoor
open Go.RowKit

theorem sea_small {cs : List Ch} (h : txF cs = seaT) : SmallT cs := small_of_great (by rw [h]; kernel_rfl)
theorem smallS_lit {p : Pl} {a b c : ByteArray} (h : (Nat.ble a.size 1000 && (Nat.ble b.size 1000 && Nat.ble c.size 1000)) = true) : SmallS (p, a, b, c) := by
  simp only [Bool.and_eq_true, Nat.ble_eq] at h
  exact h
theorem small_of_right {x : Slp} (h : slipB x = true) : SmallS x := by
  simp only [slipB, wordsB, wordB, Bool.and_eq_true, Bool.or_eq_true, decide_eq_true_eq] at h
  exact ⟨by omega, by omega, by omega⟩
set_option maxHeartbeats 16000000 in
theorem alive_law3 (w : World) [hgs : At w 1 0 sidesC] [hgk : At w 0 0 kindsC] [hmx : MxI w] : Ct Tryz.prog 21 [] w fun v _ => v = .bool true := by
  refine Ct.ofW (by simp) ?_
  (refine jjB ?_; refine jjC ?_; apply jJ; exact eB rfl; refine jz ?_; refine jjB ?_; refine jjC ?_)
  refine jjQ (sea_law3 _) rfl rfl ?_
  rintro _ w1 hS1 ⟨a1, c1, cs1, rfl, hR1, hT1, hx1⟩
  have i1 := RowI.mk hR1
  skip
  refine jjQ (cut_law3 3 _) rfl rfl ?_
  rintro _ w2 hS2 rfl
  have hal := All_slip a1 c1 cs1 14 3 w2 (sea_small hx1) (by omega)
  rw [hx1, sea_ask3] at hal
  skip
  refine jjQ hal rfl rfl ?_
  rintro _ w3 hS3 ⟨lv, rfl, hOl⟩
  obtain ⟨la, lc, rfl⟩ := hOl.slice
  rw [List.length_map, sea_allR] at hOl ⊢
  (apply jI; exact eU rfl; refine ju rfl rfl ?_; refine ju rfl rfl ?_; apply jJ; exact eS rfl; apply jJ; exact eI rfl; refine jz ?_; refine jjB ?_; refine jjC ?_)
  refine jjQ (sea_law3 _) rfl rfl ?_
  rintro _ w4 hS4 ⟨a4, c4, cs4, rfl, hR4, hT4, hx4⟩
  have i4 := RowI.mk hR4
  skip
  refine jjQ (cut_law3 3 _) rfl rfl ?_
  rintro _ w5 hS5 rfl
  skip
  refine jjQ (at_law3 0 1 2 _) rfl rfl ?_
  rintro _ w6 hS6 rfl
  skip
  refine jjQ (at_law3 1 0 0 _) rfl rfl ?_
  rintro _ w7 hS7 rfl
  have hpt := Part_slip a4 c4 cs4 14 3 w7 (0, 1, 2) (1, 0, 0) (sea_small hx4) (by omega)
  rw [hx4, sea_part] at hpt
  skip
  refine jjQ hpt rfl rfl ?_
  rintro _ w8 hS8 ⟨mv, rfl, hOm⟩
  obtain ⟨ma, mc, rfl⟩ := hOm.slice
  have hml : (((allS seaT 3 14).take 8).drop 6).length = 2 := by rw [List.length_drop, List.length_take, sea_len]; rfl
  rw [List.length_map] at hOm ⊢
  have hmr := sea_right
  have hms := sea_miss
  generalize hM : ((allS seaT 3 14).take 8).drop 6 = M at *
  (apply jI; exact eU rfl; refine ju rfl rfl ?_; refine ju rfl rfl ?_; apply jJ; exact eS rfl; apply jJ; exact eI rfl; refine jz ?_; refine jjB ?_; refine jjC ?_)
  refine jjQ (sea_law3 _) rfl rfl ?_
  rintro _ w9 hS9 ⟨a9, c9, cs9, rfl, hR9, hT9, hx9⟩
  have i9 := RowI.mk hR9
  skip
  (refine jjS (cells := [.int .i64 0, .int .i64 0, .int .i64 0, .string wSea, .string wThe, .string wNo]) ?_ ?_; exact rfl)
  have hwh := Where_slip a9 c9 cs9 w9 ((0, 0, 0), wSea, wThe, wNo) (sea_small hx9) (smallS_lit rfl)
  rw [hx9, sea_where] at hwh
  skip
  refine jjQ hwh rfl rfl ?_
  rintro _ w10 hS10 ⟨pv, rfl, hOp⟩
  obtain ⟨pa, pc, rfl⟩ := hOp.slice
  (apply jI; exact eU rfl; refine ju rfl rfl ?_; refine ju rfl rfl ?_; apply jJ; exact eS rfl; apply jJ; exact eI rfl; refine jz ?_; refine jjB ?_; refine jjC ?_)
  refine jjQ (sea_law3 _) rfl rfl ?_
  rintro _ w11 hS11 ⟨a11, c11, cs11, rfl, hR11, hT11, hx11⟩
  have i11 := RowI.mk hR11
  skip
  refine jjQ (salt_law3 _) rfl rfl ?_
  rintro _ w12 hS12 ⟨ra, rc, rfl, hRr⟩
  have ir := RowI.mk hRr
  skip
  refine jjQ (at_law3 0 1 2 _) rfl rfl ?_
  rintro _ w13 hS13 rfl
  have hmv := Moved_slip a11 c11 cs11 w13 4 ra rc saltR (0, 1, 2) (sea_small hx11) (small_of_greatR (by kernel_rfl) salt_small)
  rw [hx11, salt_moved] at hmv
  skip
  refine jjQ hmv rfl rfl ?_
  rintro _ w14 hS14 rfl
  (apply jI; exact eU rfl; refine ju rfl rfl ?_; refine ju rfl rfl ?_)
  (apply jjR rfl; (intro _; first|exact eI rfl|exact eB rfl|exact eP rfl|exact eS rfl|exact eT rfl|exact eA rfl|exact eU rfl|exact eF rfl|exact eM rfl|exact eN rfl|exact rfl); exact rfl; exact rfl; exact rfl; exact rfl; intro b7 w_b7 hb_b7 hs_b7 hS_b7 hk_b7; have hA_b7 := Bk.of hk_b7)
  (apply jJ; exact eI rfl; refine jz ?_; refine jjB ?_; refine jjC ?_)
  refine jjQ (sea_law3 _) rfl rfl ?_
  rintro _ w15 hS15 ⟨a15, c15, cs15, rfl, hR15, hT15, hx15⟩
  have i15 := RowI.mk hR15
  skip
  refine jjQ (cut_law3 3 _) rfl rfl ?_
  rintro _ w16 hS16 rfl
  have hM1 : SmallSs M := ⟨by omega, fun x hx => small_of_right (hmr x hx)⟩
  have im : RowI w16 (.slice ma M.length mc) true 6 (M.map encSl) := ⟨(((((((((hOm.ext hS9.ext).ext hS10.ext).ext hS11.ext).ext hS12.ext).ext hS13.ext).ext hS14.ext).ext hS_b7.ext).ext hS15.ext).ext hS16.ext).row⟩
  have hmi := Missing_slip a15 c15 cs15 14 3 ma mc M w16 (sea_small hx15) (by omega) hM1
  rw [hx15, hms.2] at hmi
  have hms1 := hms.1
  generalize (missR seaT 14 3 M).1 = MP at *
  (apply jI; exact eS rfl)
  refine jjQ hmi rfl rfl ?_
  rintro _ w17 hS17 ⟨xv, rfl, hOx⟩
  obtain ⟨xa, xc, rfl⟩ := hOx.slice
  have e8 : (MP.map encPl).length = 8 := by rw [List.length_map, hms1]
  rw [e8] at hOx ⊢
  (apply jI; exact eU rfl; refine ju rfl rfl ?_; refine ju rfl rfl ?_; apply jJ; exact eS rfl; apply jJ; exact eI rfl; refine jz ?_; refine jjB ?_; refine jjC ?_)
  (refine jjS (cells := [.int .i64 0, .int .i64 0, .int .i64 0, .string wA, .string wNo, .string wNo]) ?_ ?_; exact rfl)
  skip
  (refine jjS (cells := [.int .i64 0, .int .i64 0, .int .i64 0, .string wB, .string wNo, .string wNo]) ?_ ?_; exact rfl)
  skip
  refine jjQ ((Order_slip _ ((0, 0, 0), wA, wNo, wNo) ((0, 0, 0), wB, wNo, wNo) (smallS_lit rfl) (smallS_lit rfl)).mono (R' := fun v _ => v = .tuple #[.int .i64 (-1), .int .i64 0]) fun v _ _ h => h.trans (by rw [sea_order])) rfl rfl ?_
  rintro _ w18 hS18 rfl
  (apply jI; exact eU rfl; refine ju rfl rfl ?_; refine ju rfl rfl ?_; apply jJ; exact eI rfl; apply jJ; exact eI rfl; refine jz ?_; refine jjB ?_; refine jjC ?_)
  refine jjQ (sea_law3 _) rfl rfl ?_
  rintro _ w19 hS19 ⟨a19, c19, cs19, rfl, hR19, hT19, hx19⟩
  have i19 := RowI.mk hR19
  skip
  refine jjQ (cut_law3 3 _) rfl rfl ?_
  rintro _ w20 hS20 rfl
  skip
  refine jjQ (at_law3 0 0 2 _) rfl rfl ?_
  rintro _ w21 hS21 rfl
  skip
  (refine jjS (cells := [.int .i64 0, .int .i64 0, .int .i64 2, .string wIs, .string wSea, .string wOld]) ?_ ?_; exact rfl)
  have hwr := Wrong_slip a19 c19 cs19 14 3 w21 ((0, 0, 2), wIs, wSea, wOld) (sea_small hx19) (by omega) (smallS_lit rfl)
  rw [hx19, sea_wrong] at hwr
  skip
  refine jjQ (hwr.mono (R' := fun v _ => v = .tuple #[.int .u8 4, .int .i64 0]) fun v _ _ h => h) rfl rfl ?_
  rintro _ w22 hS22 rfl
  (apply jI; exact eU rfl; refine ju rfl rfl ?_; refine ju rfl rfl ?_; apply jJ; exact eI rfl; apply jJ; exact eI rfl; refine jz ?_; refine jjB ?_; refine jjC ?_)
  (refine jjS (cells := [.int .i64 0, .int .i64 0, .int .i64 0, .string wA, .string wNo, .string wNo]) ?_ ?_; exact rfl)
  skip
  (refine jjS (cells := [.int .i64 0, .int .i64 0, .int .i64 0, .string wA, .string wNo, .string wNo]) ?_ ?_; exact rfl)
  skip
  refine Ops.buildSliceF (cells := [.int .i64 0, .int .i64 0, .int .i64 0, .string wA, .string wNo, .string wNo, .int .i64 0, .int .i64 0, .int .i64 0, .string wA, .string wNo, .string wNo]) rfl rfl rfl ?_
  intro b68 w23 hb68 hs68 hS23 hk68
  have i68 : RowI w23 (.slice (some ⟨b68, 0, none⟩) 2 2) true 6 ([((0, 0, 0), wA, wNo, wNo), ((0, 0, 0), wA, wNo, wNo)].map encSl) := ⟨Bk.rows (xs := [((0, 0, 0), wA, wNo, wNo), ((0, 0, 0), wA, wNo, wNo)].map encSl) hk68 (by simp [fitsV]) (by simp)⟩
  skip
  refine jjQ ((Twice_slip (some ⟨b68, 0, none⟩) 2 [((0, 0, 0), wA, wNo, wNo), ((0, 0, 0), wA, wNo, wNo)] _ ⟨by simp, fun x hx => by simp at hx; subst hx; exact smallS_lit rfl⟩).mono (R' := fun v w' => ∃ sv, v = .tuple #[sv, .int .i64 0] ∧ OwnL w' w23.heap.size 3 false 1 sv ([(1 : Int)].map intV)) fun v _ _ h => by rw [sea_twice] at h; exact h) rfl rfl ?_
  rintro _ w24 hS24 ⟨dv, rfl, hOd⟩
  obtain ⟨da, dc, rfl⟩ := hOd.slice
  (apply jI; exact eU rfl; refine ju rfl rfl ?_; refine ju rfl rfl ?_; apply jJ; exact eS rfl; apply jJ; exact eI rfl; refine jz ?_; refine jjB ?_)
  have hA7 : At w24 b7 0 [.int .i64 0, .int .i64 1, .int .i64 1] := inferInstance
  have hg24 : At w24 1 0 sidesC := inferInstance
  have hRp : RowV w24 true 3 (.slice pa 2 pc) ([((0 : Int), (0 : Int), (1 : Int)), (0, 1, 2)].map encPl) := (((((((((((((hOp.ext hS11.ext).ext hS12.ext).ext hS13.ext).ext hS14.ext).ext hS_b7.ext).ext hS15.ext).ext hS16.ext).ext hS17.ext).ext hS18.ext).ext hS19.ext).ext hS20.ext).ext hS21.ext).ext hS22.ext).row.ext (hS23.ext.trans hS24.ext)
  have hE24 : Ext w w24 := inferInstance
  refine W.keep0 [(1, .slice la 10 lc), (2, .int .i64 0), (3, .slice ma 2 mc), (4, .int .i64 0), (5, .slice pa 2 pc), (6, .int .i64 0), (7, .pointer (some ⟨b7, 0, none⟩)), (8, .int .i64 0), (9, .slice xa 8 xc), (10, .int .i64 0), (11, .int .i64 (-1)), (12, .int .i64 0), (13, .int .u8 4), (14, .int .i64 0), (15, .slice da 1 dc), (16, .int .i64 0)] ⟨eS rfl, eI rfl, by rw [← hml]; exact eS rfl, eI rfl, eS rfl, eI rfl, eP rfl, eI rfl, eS rfl, eI rfl, eI rfl, eI rfl, eI rfl, eI rfl, eS rfl, eI rfl, trivial⟩ fun s0 => ?_
  refine W.draw (fun w' => Ext w24 w') ?_
  intro v0 hv0
  (apply jjW 0; (decide +kernel); exact rfl; (exact inferInstance))
  refine jjQ (at_law3 0 0 2 _) rfl rfl ?_
  rintro _ v1 hv1 rfl
  refine jz ?_
  (apply jjW 1; (decide +kernel); exact rfl; (exact inferInstance))
  refine jjQ (made_ok _ (0, 0, 2) 3 (by omega) wIs wSea wOldOld sea_m002) rfl rfl ?_
  rintro _ v2 hv2 rfl
  refine jz ?_
  (refine jjV [2] ?_ ?_ ?_; (decide +kernel); (exact inferInstance); (((apply jjT; exact rfl; rintro w' hq; have := hq.toStep; apply jI; exact eB rfl; refine jz ?_; exact ⟨rfl, rfl⟩; refine jjU ?_))))
  (apply jjW 3; (decide +kernel); exact rfl; (exact inferInstance))
  (refine jT rfl rfl rfl ?_)
  refine jjQ (at_law3 0 1 0 _) rfl rfl ?_
  rintro _ v3 hv3 rfl
  refine jz ?_
  (apply jjW 4; (decide +kernel); exact rfl; (exact inferInstance))
  (refine jT rfl rfl rfl ?_)
  refine jjQ (made_ok _ (0, 1, 0) 1 (by omega) wOld wSeaIsOld wNo sea_m010l) rfl rfl ?_
  rintro _ v4 hv4 rfl
  refine jz ?_
  (refine jjV [5, 6, 7, 8, 9, 10, 11, 12, 13, 14, 15, 16, 17, 18, 19, 20, 21, 22, 23, 24, 25, 26, 27, 28, 29] ?_ ?_ ?_; (decide +kernel); (exact inferInstance); (((apply jjT; exact rfl; rintro w' hq; have := hq.toStep; apply jK rfl; exact eB rfl; refine jz ?_; exact ⟨rfl, rfl⟩; apply jjT; exact rfl; rintro w' hq; have := hq.toStep; apply jI; exact eB rfl; refine jz ?_; exact ⟨rfl, rfl⟩; apply jjT; exact rfl; rintro w' hq; have := hq.toStep; refine jT rfl rfl rfl ?_; apply jI; exact eI rfl; refine jz ?_; exact ⟨rfl, rfl⟩; apply jjT; exact rfl; rintro w' hq; have := hq.toStep; refine jT rfl rfl rfl ?_; refine ja rfl rfl ?_; refine jz ?_; exact ⟨rfl, rfl⟩; apply jjT; exact rfl; rintro w' hq; have := hq.toStep; apply jK rfl; exact eB rfl; refine jz ?_; exact ⟨rfl, rfl⟩; apply jjT; exact rfl; rintro w' hq; have := hq.toStep; apply jI; exact eB rfl; refine jz ?_; exact ⟨rfl, rfl⟩; apply jjT; exact rfl; rintro w' hq; have := hq.toStep; refine jT rfl rfl rfl ?_; apply jI; exact eS rfl; refine jz ?_; exact ⟨rfl, rfl⟩; apply jjT; exact rfl; rintro w' hq; have := hq.toStep; refine jT rfl rfl rfl ?_; refine jh rfl ?_; refine jz ?_; exact ⟨rfl, rfl⟩; apply jjT; exact rfl; rintro w' hq; have := hq.toStep; refine jT rfl rfl rfl ?_; refine ja rfl rfl ?_; refine jz ?_; exact ⟨rfl, rfl⟩; apply jjT; exact rfl; rintro w' hq; have := hq.toStep; apply jK rfl; exact eB rfl; refine jz ?_; exact ⟨rfl, rfl⟩; apply jjT; exact rfl; rintro w' hq; have := hq.toStep; apply jI; exact eB rfl; refine jz ?_; exact ⟨rfl, rfl⟩; apply jjT; exact rfl; rintro w' hq; have := hq.toStep; refine jT rfl rfl rfl ?_; apply jI; exact eI rfl; refine jz ?_; exact ⟨rfl, rfl⟩; apply jjT; exact rfl; rintro w' hq; have := hq.toStep; refine jT rfl rfl rfl ?_; refine ja rfl rfl ?_; refine jz ?_; exact ⟨rfl, rfl⟩; apply jjT; exact rfl; rintro w' hq; have := hq.toStep; apply jK rfl; exact eB rfl; refine jz ?_; exact ⟨rfl, rfl⟩; apply jjT; exact rfl; rintro w' hq; have := hq.toStep; apply jI; exact eB rfl; refine jz ?_; exact ⟨rfl, rfl⟩; apply jjT; exact rfl; rintro w' hq; have := hq.toStep; refine jT rfl rfl rfl ?_; apply jI; exact eS rfl; refine jz ?_; exact ⟨rfl, rfl⟩; apply jjT; exact rfl; rintro w' hq; have := hq.toStep; refine jT rfl rfl rfl ?_; refine jh rfl ?_; refine jz ?_; exact ⟨rfl, rfl⟩; apply jjT; exact rfl; rintro w' hq; have := hq.toStep; refine jT rfl rfl rfl ?_; refine ja rfl rfl ?_; refine jz ?_; exact ⟨rfl, rfl⟩; apply jjT; exact rfl; rintro w' hq; have := hq.toStep; apply jK rfl; exact eB rfl; refine jz ?_; exact ⟨rfl, rfl⟩; apply jjT; exact rfl; rintro w' hq; have := hq.toStep; apply jI; exact eB rfl; refine jz ?_; exact ⟨rfl, rfl⟩; apply jjT; exact rfl; rintro w' hq; have := hq.toStep; refine jT rfl rfl rfl ?_; apply jI; exact eI rfl; refine jz ?_; exact ⟨rfl, rfl⟩; apply jjT; exact rfl; rintro w' hq; have := hq.toStep; refine jT rfl rfl rfl ?_; refine ja rfl rfl ?_; refine jz ?_; exact ⟨rfl, rfl⟩; apply jjT; exact rfl; rintro w' hq; have := hq.toStep; apply jK rfl; exact eB rfl; refine jz ?_; exact ⟨rfl, rfl⟩; apply jjT; exact rfl; rintro w' hq; have := hq.toStep; apply jI; exact eB rfl; refine jz ?_; exact ⟨rfl, rfl⟩; apply jjT; exact rfl; rintro w' hq; have := hq.toStep; refine jT rfl rfl rfl ?_; apply jI; exact eS rfl; refine jz ?_; exact ⟨rfl, rfl⟩; refine jjU ?_))))
  (apply jjW 30; (decide +kernel); exact rfl; (exact inferInstance))
  (refine jT rfl rfl rfl ?_)
  refine jjQ (at_law3 0 0 1 _) rfl rfl ?_
  rintro _ v5 hv5 rfl
  refine jz ?_
  (apply jjW 31; (decide +kernel); exact rfl; (exact inferInstance))
  (refine jT rfl rfl rfl ?_)
  refine jjQ (at_law3 0 1 2 _) rfl rfl ?_
  rintro _ v6 hv6 rfl
  refine jz ?_
  (apply jjW 32; (decide +kernel); exact rfl; (exact inferInstance))
  (refine jT rfl rfl rfl ?_)
  refine Ops.buildSliceF (cells := [.int .i64 0, .int .i64 0, .int .i64 1, .int .i64 0, .int .i64 1, .int .i64 2]) rfl rfl rfl ?_
  intro b32 v7 hb32 hs32 hv7 hk32
  refine jz ?_
  have hR32 : RowV v7 true 3 (.slice (some ⟨b32, 0, none⟩) 2 2) ([((0 : Int), (0 : Int), (1 : Int)), (0, 1, 2)].map encPl) := Bk.rows (xs := [((0 : Int), (0 : Int), (1 : Int)), (0, 1, 2)].map encPl) hk32 (by simp [fitsV]) (by simp)
  have hRp7 : RowV v7 true 3 (.slice pa 2 pc) ([((0 : Int), (0 : Int), (1 : Int)), (0, 1, 2)].map encPl) := hRp.ext inferInstance
  (apply jjW 33; (decide +kernel); exact rfl; (exact inferInstance))
  (refine jT rfl rfl rfl ?_)
  refine jjQ ((same_places1 pa (some ⟨b32, 0, none⟩) pc 2 2 2 [(0, 0, 1), (0, 1, 2)] [(0, 0, 1), (0, 1, 2)] _ rfl rfl hRp7 hR32).mono (R' := fun v _ => v = .bool true) fun v _ _ h => h.trans (by rw [decide_eq_true rfl])) rfl rfl ?_
  rintro _ v8 hv8 rfl
  refine jz ?_
  (refine jjV [34, 35, 36, 37, 38, 39, 40] ?_ ?_ ?_; (decide +kernel); (exact inferInstance); (((apply jjT; exact rfl; rintro w' hq; have := hq.toStep; apply jK rfl; exact eB rfl; refine jz ?_; exact ⟨rfl, rfl⟩; apply jjT; exact rfl; rintro w' hq; have := hq.toStep; apply jI; exact eB rfl; refine jz ?_; exact ⟨rfl, rfl⟩; apply jjT; exact rfl; rintro w' hq; have := hq.toStep; refine jT rfl rfl rfl ?_; apply jI; exact eI rfl; refine jz ?_; exact ⟨rfl, rfl⟩; apply jjT; exact rfl; rintro w' hq; have := hq.toStep; refine jT rfl rfl rfl ?_; refine ja rfl rfl ?_; refine jz ?_; exact ⟨rfl, rfl⟩; apply jjT; exact rfl; rintro w' hq; have := hq.toStep; apply jK rfl; exact eB rfl; refine jz ?_; exact ⟨rfl, rfl⟩; apply jjT; exact rfl; rintro w' hq; have := hq.toStep; apply jI; exact eB rfl; refine jz ?_; exact ⟨rfl, rfl⟩; apply jjT; exact rfl; rintro w' hq; have := hq.toStep; refine jT rfl rfl rfl ?_; refine jO rfl rfl rfl rfl ?_; refine jz ?_; exact ⟨rfl, rfl⟩; refine jjU ?_))))
  (apply jjW 41; (decide +kernel); exact rfl; (exact inferInstance))
  (refine jT rfl rfl rfl ?_)
  refine jjQ (at_law3 0 1 1 _) rfl rfl ?_
  rintro _ v9 hv9 rfl
  refine jz ?_
  refine jjV [42] (by decide +kernel) inferInstance (jjT (v := .bool true) rfl (fun w' q1 => ?_) (jjU ?_)); (refine jT rfl rfl rfl ?_; refine Ops.eqlT (enc := encPl) (0, 1, 1) (0, 1, 1) rfl rfl ?_; rw [decide_eq_true rfl]; refine jz ?_; exact ⟨rfl, rfl⟩)
  (refine jjV [43, 44, 45, 46, 47, 48, 49, 50, 51, 52, 53, 54, 55, 56, 57, 58, 59, 60, 61, 62, 63, 64, 65, 66, 67, 68, 69, 70, 71, 72, 73, 74] ?_ ?_ ?_; (decide +kernel); (exact inferInstance); (((apply jjT; exact rfl; rintro w' hq; have := hq.toStep; apply jK rfl; exact eB rfl; refine jz ?_; exact ⟨rfl, rfl⟩; apply jjT; exact rfl; rintro w' hq; have := hq.toStep; apply jI; exact eB rfl; refine jz ?_; exact ⟨rfl, rfl⟩; apply jjT; exact rfl; rintro w' hq; have := hq.toStep; refine jT rfl rfl rfl ?_; apply jI; exact eI rfl; refine jz ?_; exact ⟨rfl, rfl⟩; apply jjT; exact rfl; rintro w' hq; have := hq.toStep; refine jT rfl rfl rfl ?_; refine ja rfl rfl ?_; refine jz ?_; exact ⟨rfl, rfl⟩; apply jjT; exact rfl; rintro w' hq; have := hq.toStep; apply jK rfl; exact eB rfl; refine jz ?_; exact ⟨rfl, rfl⟩; apply jjT; exact rfl; rintro w' hq; have := hq.toStep; apply jI; exact eB rfl; refine jz ?_; exact ⟨rfl, rfl⟩; apply jjT; exact rfl; rintro w' hq; have := hq.toStep; refine jT rfl rfl rfl ?_; apply jI; exact eS rfl; refine jz ?_; exact ⟨rfl, rfl⟩; apply jjT; exact rfl; rintro w' hq; have := hq.toStep; refine jT rfl rfl rfl ?_; refine jh rfl ?_; refine jz ?_; exact ⟨rfl, rfl⟩; apply jjT; exact rfl; rintro w' hq; have := hq.toStep; refine jT rfl rfl rfl ?_; refine ja rfl rfl ?_; refine jz ?_; exact ⟨rfl, rfl⟩; apply jjT; exact rfl; rintro w' hq; have := hq.toStep; apply jK rfl; exact eB rfl; refine jz ?_; exact ⟨rfl, rfl⟩; apply jjT; exact rfl; rintro w' hq; have := hq.toStep; apply jI; exact eB rfl; refine jz ?_; exact ⟨rfl, rfl⟩; apply jjT; exact rfl; rintro w' hq; have := hq.toStep; refine jT rfl rfl rfl ?_; apply jI; exact eI rfl; refine jz ?_; exact ⟨rfl, rfl⟩; apply jjT; exact rfl; rintro w' hq; have := hq.toStep; refine jT rfl rfl rfl ?_; refine ja rfl rfl ?_; refine jz ?_; exact ⟨rfl, rfl⟩; apply jjT; exact rfl; rintro w' hq; have := hq.toStep; apply jK rfl; exact eB rfl; refine jz ?_; exact ⟨rfl, rfl⟩; apply jjT; exact rfl; rintro w' hq; have := hq.toStep; apply jI; exact eB rfl; refine jz ?_; exact ⟨rfl, rfl⟩; apply jjT; exact rfl; rintro w' hq; have := hq.toStep; refine jT rfl rfl rfl ?_; apply jI; exact eI rfl; refine jz ?_; exact ⟨rfl, rfl⟩; apply jjT; exact rfl; rintro w' hq; have := hq.toStep; refine jT rfl rfl rfl ?_; refine ja rfl rfl ?_; refine jz ?_; exact ⟨rfl, rfl⟩; apply jjT; exact rfl; rintro w' hq; have := hq.toStep; apply jK rfl; exact eB rfl; refine jz ?_; exact ⟨rfl, rfl⟩; apply jjT; exact rfl; rintro w' hq; have := hq.toStep; apply jI; exact eB rfl; refine jz ?_; exact ⟨rfl, rfl⟩; apply jjT; exact rfl; rintro w' hq; have := hq.toStep; refine jT rfl rfl rfl ?_; apply jI; exact eI rfl; refine jz ?_; exact ⟨rfl, rfl⟩; apply jjT; exact rfl; rintro w' hq; have := hq.toStep; refine jT rfl rfl rfl ?_; refine ja rfl rfl ?_; refine jz ?_; exact ⟨rfl, rfl⟩; apply jjT; exact rfl; rintro w' hq; have := hq.toStep; apply jK rfl; exact eB rfl; refine jz ?_; exact ⟨rfl, rfl⟩; apply jjT; exact rfl; rintro w' hq; have := hq.toStep; apply jI; exact eB rfl; refine jz ?_; exact ⟨rfl, rfl⟩; apply jjT; exact rfl; rintro w' hq; have := hq.toStep; refine jT rfl rfl rfl ?_; apply jI; exact eI rfl; refine jz ?_; exact ⟨rfl, rfl⟩; apply jjT; exact rfl; rintro w' hq; have := hq.toStep; refine jT rfl rfl rfl ?_; refine ja rfl rfl ?_; refine jz ?_; exact ⟨rfl, rfl⟩; apply jjT; exact rfl; rintro w' hq; have := hq.toStep; apply jK rfl; exact eB rfl; refine jz ?_; exact ⟨rfl, rfl⟩; apply jjT; exact rfl; rintro w' hq; have := hq.toStep; apply jI; exact eB rfl; refine jz ?_; exact ⟨rfl, rfl⟩; apply jjT; exact rfl; rintro w' hq; have := hq.toStep; refine jT rfl rfl rfl ?_; apply jI; exact eI rfl; refine jz ?_; exact ⟨rfl, rfl⟩; apply jjT; exact rfl; rintro w' hq; have := hq.toStep; refine jT rfl rfl rfl ?_; refine ja rfl rfl ?_; refine jz ?_; exact ⟨rfl, rfl⟩; apply jjT; exact rfl; rintro w' hq; have := hq.toStep; apply jK rfl; exact eB rfl; refine jz ?_; exact ⟨rfl, rfl⟩; apply jjT; exact rfl; rintro w' hq; have := hq.toStep; apply jI; exact eB rfl; refine jz ?_; exact ⟨rfl, rfl⟩; apply jjT; exact rfl; rintro w' hq; have := hq.toStep; refine jT rfl rfl rfl ?_; apply jI; exact eS rfl; refine jz ?_; exact ⟨rfl, rfl⟩; refine jjU ?_))))
  (apply jjW 75; (decide +kernel); exact rfl; (exact inferInstance))
  (refine jT rfl rfl rfl ?_)
  refine Ops.buildSliceF (cells := [.int .i64 1]) rfl rfl rfl ?_
  intro b75 v10 hb75 hs75 hv10 hk75
  refine jz ?_
  have hR75 : RowV v10 false 1 (.slice (some ⟨b75, 0, none⟩) 1 1) ([(1 : Int)].map intV) := hk75.row (fun x hx => by simp at hx; subst hx; rfl) (by simp)
  have hRd : RowV v10 false 1 (.slice da 1 dc) ([(1 : Int)].map intV) := hOd.row.ext inferInstance
  (apply jjW 76; (decide +kernel); exact rfl; (exact inferInstance))
  (refine jT rfl rfl rfl ?_)
  refine jjQ ((same_ints3 da (some ⟨b75, 0, none⟩) dc 1 1 1 [1] [1] _ rfl rfl hRd hR75).mono (R' := fun v _ => v = .bool true) fun v _ _ h => h.trans (by rw [decide_eq_true rfl])) rfl rfl ?_
  rintro _ v11 hv11 rfl
  refine jz ?_
  (refine jjV [77, 78] ?_ ?_ ?_; (decide +kernel); (exact inferInstance); (((apply jjT; exact rfl; rintro w' hq; have := hq.toStep; apply jK rfl; exact eB rfl; refine jz ?_; exact ⟨rfl, rfl⟩; apply jjT; exact rfl; rintro w' hq; have := hq.toStep; apply jJ; exact eB rfl; refine jz ?_; exact ⟨rfl, rfl⟩; refine jjU ?_))))
  refine jjX (by decide +kernel) inferInstance ?_
  (refine jjF ?_; refine jB rfl rfl ⟨inferInstance, ?_⟩)
  exact rfl
end Go.Proofs.YtgnjjocafmofaaaGreatDoor

/- Plain law: which places have slips. -/
namespace Go.Proofs.YtgnjjocafmofaaaGreatDoor
open Go.RowKit

theorem wsT_at {t : Tx} {k : Nat} (hk : k < t.length) : wsT t k = t[k].2 := by rw [wsT, List.getD_eq_getElem?_getD, List.getElem?_eq_getElem hk, Option.getD_some]
theorem lineT_at {t : Tx} {k n : Nat} {q : Int} (hk : k < t.length) (hn : n < t[k].2.length) : lineT t ((k : Int), (n : Int), q) = some t[k].2[n] := by
  rw [lineT, if_pos ⟨by simp, by simp⟩]
  simp only [Int.toNat_natCast]
  rw [List.getElem?_eq_getElem hk, Option.bind_some, List.getElem?_eq_getElem hn]
theorem placeB_get {t : Tx} {p : Pl} (h : placeB t p = true) : ∃ (k n w : Nat) (hk : k < t.length) (hn : n < t[k].2.length) (hw : w < t[k].2[n].length), p = ((k : Int), (n : Int), (w : Int)) := by
  obtain ⟨l, hl, q, hq, hp⟩ := placeB_line h
  rw [lineT] at hl
  split at hl
  · rename_i hc
    obtain ⟨x, hx, hl⟩ := Option.bind_eq_some_iff.1 hl
    obtain ⟨hk, rfl⟩ := List.getElem?_eq_some_iff.1 hx
    obtain ⟨hn, rfl⟩ := List.getElem?_eq_some_iff.1 hl
    exact ⟨_, _, q, hk, hn, hq, by ext <;> simp <;> omega⟩
  · cases hl
theorem placeB_yes {t : Tx} {k n w : Nat} (hk : k < t.length) (hn : n < t[k].2.length) (hw : w < t[k].2[n].length) : placeB t ((k : Int), (n : Int), (w : Int)) = true := by
  rw [placeB, lineT_at hk hn]
  simp only [inB, Bool.and_eq_true, decide_eq_true_eq]
  omega
theorem wordT_at {t : Tx} {k n w : Nat} (hk : k < t.length) (hn : n < t[k].2.length) (hw : w < t[k].2[n].length) : wordT t ((k : Int), (n : Int), (w : Int)) = t[k].2[n][w] := by
  rw [wordT, lineT_at hk hn, Option.getD_some, Int.toNat_natCast, List.getD_eq_getElem?_getD, List.getElem?_eq_getElem hw, Option.getD_some]
theorem placeB_mem {t : Tx} {p : Pl} : placeB t p = true ↔ p ∈ allP t t.length := by
  constructor
  · intro h
    obtain ⟨k, n, w, hk, hn, hw, rfl⟩ := placeB_get h
    refine mem_allP.2 ⟨k, hk, mem_runA.2 ⟨n, w, ?_, ?_, rfl⟩⟩
    · rw [wsT_at hk]; exact hn
    · simp only [wsT_at hk]; exact hw
  · intro h
    obtain ⟨k, hk, hm⟩ := mem_allP.1 h
    obtain ⟨n, w, hn, hw, rfl⟩ := mem_runA.1 hm
    simp only [wsT_at hk] at hn hw
    exact placeB_yes hk hn hw
theorem makeF_no_place {t : Tx} {side W : Int} {p : Pl} (h : makeF t side W p = none) : placeB t p = false := by
  cases hb : placeB t p with
  | false => rfl
  | true =>
    obtain ⟨k, hk, hm⟩ := mem_allP.1 (placeB_mem.1 hb)
    obtain ⟨i, hi, e⟩ := List.mem_iff_getElem.1 hm
    rw [makeF_yes hk (by rw [List.getElem?_eq_getElem hi, e])] at h
    cases h
theorem askE_yes {t : Tx} {wd side : Int} (h1 : textB t = true) (h2 : cutB wd side = true) : askE t wd side = 0 := by rw [askE, h1, h2]; rfl
end Go.Proofs.YtgnjjocafmofaaaGreatDoor

/- Plain law: a valid text has a word. -/
namespace Go.Proofs.YtgnjjocafmofaaaGreatDoor
open Go.RowKit

theorem allP_pos {t : Tx} (h : textB t = true) : 0 < (allP t t.length).length := by
  simp only [textB, Bool.and_eq_true, List.all_eq_true] at h
  obtain ⟨⟨h1, h2⟩, _⟩ := h
  have ht : 0 < t.length := by simp only [inB, Bool.and_eq_true, decide_eq_true_eq] at h1; omega
  have hc := h2 t[0] (List.getElem_mem ht)
  simp only [chapB, Bool.and_eq_true, List.all_eq_true] at hc
  obtain ⟨⟨_, h3⟩, h4⟩ := hc
  have hl : 0 < t[0].2.length := by simp only [inB, Bool.and_eq_true, decide_eq_true_eq] at h3; omega
  have hy := h4 t[0].2[0] (List.getElem_mem hl)
  simp only [lineB, Bool.and_eq_true] at hy
  have hw : 0 < t[0].2[0].length := by have := hy.1; simp only [inB, Bool.and_eq_true, decide_eq_true_eq] at this; omega
  exact List.length_pos_of_mem (placeB_mem.1 (placeB_yes ht hl hw))
end Go.Proofs.YtgnjjocafmofaaaGreatDoor

/- Plain law: the word of a slip is the word of its place; what all slips are. -/
namespace Go.Proofs.YtgnjjocafmofaaaGreatDoor
open Go.RowKit

theorem make_word {t : Tx} {side W : Int} {p : Pl} {s : Slp} (h : makeF t side W p = some s) : wordT t p = s.2.1 := by
  obtain ⟨k, i, hk, hi, rfl⟩ := makeF_some h
  have hil : i < (wsT t k).flatten.length := by
    have := (List.getElem?_eq_some_iff.1 hi).1
    rwa [runA_len] at this
  have hz : ((runA k (wsT t k)).zip (wsT t k).flatten)[i]? = some (p, (wsT t k).flatten[i]) := by
    rw [List.getElem?_zip_eq_some]
    exact ⟨hi, List.getElem?_eq_getElem hil⟩
  have hm : (p, (wsT t k).flatten[i]) ∈ allW t t.length := List.mem_flatMap.2 ⟨k, List.mem_range.2 hk, List.mem_of_getElem? hz⟩
  obtain ⟨j, hj⟩ := List.mem_iff_getElem?.1 hm
  obtain ⟨k', n, w, hk', hn, hw, hp, hs⟩ := allW_word hj
  show wordT t p = (wsT t k).flatten.getD i ⟨#[]⟩
  rw [hp, wordT_at hk' hn hw, List.getD_eq_getElem?_getD, List.getElem?_eq_getElem hil, Option.getD_some, hs]
theorem make_yes {t : Tx} {p : Pl} (h : placeB t p = true) (side wd : Int) : ∃ s, makeF t side wd p = some s := by
  cases hm : makeF t side wd p with
  | none => rw [makeF_no_place hm] at h; cases h
  | some s => exact ⟨s, rfl⟩
end Go.Proofs.YtgnjjocafmofaaaGreatDoor

/- leaf: all places with their words; Words, PlaceOf. -/
namespace Go.Proofs.YtgnjjocafmofaaaGreatDoor
open Go.RowKit

abbrev encPW (x : Pl × ByteArray) : List Value := [encPl x.1, .string x.2]
structure BkF (bx bk : Nat) (a : Option Addr) (c : Nat) (cs : List Ch) (w : World) : Prop where
  bx : At w bx 0 [.pointer (some ⟨bk, 0, none⟩)]
  bk : At w bk 0 [.slice a cs.length c]
  row : RowV w true 2 (.slice a cs.length c) (cs.map encCh)
  tx : TextI w cs
set_option maxHeartbeats 4000000 in
theorem all1_leaf (bx bk : Nat) (a : Option Addr) (c : Nat) (cs : List Ch) (hs : SmallT cs) :
    Iter Tryz.prog 128 [.pointer (some ⟨bx, 0, none⟩)] (allW (txF cs) (txF cs).length) encPW (BkF bx bk a c cs) := by
  intro l J Jx M w hJ hJx hF hM1 hM2 hY h0
  have hs1 := hs.1
  have hF0 := hF 0 w h0
  have := hF0.bx
  have := hF0.bk
  refine Calls.ofW (by simp) ?_
  (refine jjB ?_; refine jjC ?_; refine jN rfl rfl rfl ?_; refine jw rfl ?_; refine jm ?_; refine jn rfl ?_; refine jm ?_; refine jn rfl ?_; refine jN rfl rfl rfl ?_; refine jh rfl ?_; apply jI; exact eI rfl; refine jz ?_; refine jjD ?_)
  refine W.keep0 [(0, .func (.yield l) #[] #[]), (13, .slice a cs.length c), (14, .int .i64 (cs.length : Int)), (15, .int .i64 ((0 : Nat) : Int))] ⟨eF rfl, eS rfl, eI rfl, eI rfl, trivial⟩ fun s0 => ?_
  refine W.loopG (16 :: 17 :: 18 :: 19 :: 4 :: 3 :: 20 :: 21 :: 22 :: 23 :: 24 :: 25 :: 26 :: 27 :: 5 :: 6 :: 28 :: 29 :: 30 :: 31 :: 32 :: 33 :: 34 :: 7 :: 8 :: 35 :: 36 :: 37 :: 38 :: 39 :: 40 :: 41 :: 42 :: 43 :: 44 :: 45 :: 15 :: []) (fun g s' w' => ∃ k : Nat, s' 15 = .int .i64 ((k : Nat) : Int) ∧ k ≤ cs.length ∧ g = cs.length - k ∧ J (allW (txF cs) k).length w') cs.length ⟨0, rfl, by omega, rfl, h0⟩ ?_
  rintro _ sd w' ⟨k, h15, hk, rfl, hJk⟩
  refine W.fix h15 ?_
  clear h15
  have hFk := hF _ _ hJk
  by_cases hkc : k < cs.length
  rotate_left
  · obtain rfl : k = cs.length := by omega
    (refine jjB ?_; refine jjC ?_; refine jja rfl rfl (by omega) ?_; refine jz ?_; refine jjB ?_; refine jjK rfl ?_; refine jjE ?_; refine jA rfl ⟨⟨_, rfl⟩, ?_⟩)
    refine .inl ?_
    rw [txF_len]; exact hJk
  have hsk := hs.2 _ (List.getElem_mem hkc)
  have hsl := hsk.1
  have hcl : (chW cs[k]).length = cs[k].2.2.2.length := by simp [chW]
  have hws := wsT_get hkc
  obtain ⟨ba, oa, rfl, hAk⟩ := hFk.row.place' (map_get hkc)
  have htk : k < (txF cs).length := by rw [txF_len]; exact hkc
  (refine jjB ?_; refine jjC ?_; refine jjZ rfl rfl (by omega) ?_; refine jz ?_; refine jjB ?_; refine jjJ rfl ?_; refine jjG ?_; refine jjB ?_; refine jjD ?_; refine jjB ?_; refine jjC ?_; apply jI; exact eI rfl)
  refine jH k rfl rfl rfl hkc ?_
  (refine jQ rfl rfl ?_)
  ((skip); refine jjY ?_; intro b4 w_b4 hb_b4 hs_b4 hS_b4 hk_b4; have hA_b4 := Bk.of hk_b4)
  (apply jJ; exact eI rfl)
  refine Ops.store rfl rfl rfl rfl rfl ?_
  intro wA hpA
  have hEA : Ext w' wA := hpA.ext hS_b4.ext (by omega)
  have hA4 : At wA b4 0 [.int .i64 cs[k].1, .slice cs[k].2.1 cs[k].2.2.2.length cs[k].2.2.1] := Bk.toAt (h := Bk.of hpA.new)
  have hJA := hJ _ _ _ hJk hEA
  (refine jz ?_; refine jjB ?_; refine jjC ?_; refine jm ?_; refine jn rfl ?_; refine jN rfl rfl rfl ?_; refine jh rfl ?_; apply jI; exact eI rfl; refine jz ?_; refine jjD ?_)
  refine W.keep [(0, .func (.yield l) #[] #[]), (13, .slice (some ⟨ba, oa, none⟩) cs.length c), (14, .int .i64 (cs.length : Int)), (15, .int .i64 ((k : Nat) : Int)), (3, .int .i64 ((k : Nat) : Int)), (21, .slice cs[k].2.1 cs[k].2.2.2.length cs[k].2.2.1), (22, .int .i64 (cs[k].2.2.2.length : Int)), (23, .int .i64 ((0 : Nat) : Int))] (D := (16 :: 17 :: 18 :: 19 :: 4 :: 3 :: 20 :: 21 :: 22 :: 23 :: 24 :: 25 :: 26 :: 27 :: 5 :: 6 :: 28 :: 29 :: 30 :: 31 :: 32 :: 33 :: 34 :: 7 :: 8 :: 35 :: 36 :: 37 :: 38 :: 39 :: 40 :: 41 :: 42 :: 43 :: 44 :: 45 :: 15 :: [])) (sO := upds s0 _) (by ((refine Same.upd rfl ?_; refine Same.upd rfl ?_; refine Same.upd rfl ?_; refine Same.upd rfl ?_; refine Same.upd rfl ?_; refine Same.upd rfl ?_; refine Same.upd rfl ?_; refine Same.upd rfl ?_; refine Same.upd rfl ?_; refine Same.upd rfl ?_; refine Same.upd rfl ?_; exact Same.ovN))) ⟨eF rfl, eS rfl, eI rfl, eI rfl, eI rfl, eS rfl, eI rfl, eI rfl, trivial⟩ fun s1 hs1' => ?_
  refine W.loopG (24 :: 25 :: 26 :: 27 :: 5 :: 6 :: 28 :: 29 :: 30 :: 31 :: 32 :: 33 :: 34 :: 7 :: 8 :: 35 :: 36 :: 37 :: 38 :: 39 :: 40 :: 41 :: 42 :: 43 :: 44 :: 23 :: []) (fun g s' V => ∃ n : Nat, s' 23 = .int .i64 ((n : Nat) : Int) ∧ n ≤ cs[k].2.2.2.length ∧ g = cs[k].2.2.2.length - n ∧ J ((allW (txF cs) k).length + ((chW cs[k]).take n).flatten.length) V) cs[k].2.2.2.length ⟨0, rfl, by omega, rfl, hJA⟩ ?_
  rintro _ sd2 V ⟨n, h23, hn, rfl, hJn⟩
  refine W.fix h23 ?_
  clear h23
  have hFn := hF _ _ hJn
  by_cases hnl : n < cs[k].2.2.2.length
  rotate_left
  · obtain rfl : n = cs[k].2.2.2.length := by omega
    rw [← hcl, List.take_length, ← hws, ← allW_succ] at hJn
    (refine jjB ?_; refine jjC ?_; refine jja rfl rfl (by omega) ?_; refine jz ?_; refine jjB ?_; refine jjK rfl ?_; refine jjE ?_; refine jjC ?_; refine jY rfl rfl (by omega) ?_; apply jI; exact eI rfl; refine jz ?_)
    exact ⟨rfl, by ((refine Same.upd rfl ?_; refine Same.upd rfl ?_; refine Same.upd rfl ?_; refine Same.upd rfl ?_; refine Same.ovN' rfl ?_; assumption)), cs.length - (k + 1), by omega, k + 1, congrArg (Value.int .i64) (by omega), by omega, rfl, hJn⟩
  have hsn := hsk.2 _ (List.getElem_mem hnl)
  have hsq := hsn.1
  have hnc : n < (chW cs[k]).length := by rw [hcl]; exact hnl
  have hcn : (chW cs[k])[n] = cs[k].2.2.2[n].2.2 := by simp [chW]
  have hnx := flat_len_succ hnc
  rw [hcn] at hnx
  have iL := hFn.tx.line hkc
  (refine jjB ?_; refine jjC ?_; refine jjZ rfl rfl (by omega) ?_; refine jz ?_; refine jjB ?_; refine jjJ rfl ?_; refine jjG ?_; refine jjB ?_; refine jjD ?_; refine jjB ?_; refine jjC ?_; apply jI; exact eI rfl; refine jF rfl rfl rfl (map_get (by omega)) ?_; intro _ _ _; refine jQ rfl rfl ?_; apply jJ; exact eI rfl; apply jJ; exact eS rfl; refine jz ?_; refine jjB ?_; refine jjC ?_; apply jI; exact eS rfl; refine jh rfl ?_; apply jI; exact eI rfl; refine jz ?_; refine jjD ?_)
  refine W.keep [(0, .func (.yield l) #[] #[]), (13, .slice (some ⟨ba, oa, none⟩) cs.length c), (14, .int .i64 (cs.length : Int)), (15, .int .i64 ((k : Nat) : Int)), (3, .int .i64 ((k : Nat) : Int)), (21, .slice cs[k].2.1 cs[k].2.2.2.length cs[k].2.2.1), (22, .int .i64 (cs[k].2.2.2.length : Int)), (23, .int .i64 ((n : Nat) : Int)), (5, .int .i64 ((n : Nat) : Int)), (28, .slice cs[k].2.2.2[n].1 cs[k].2.2.2[n].2.2.length cs[k].2.2.2[n].2.1), (29, .int .i64 (cs[k].2.2.2[n].2.2.length : Int)), (30, .int .i64 ((0 : Nat) : Int))] (D := (24 :: 25 :: 26 :: 27 :: 5 :: 6 :: 28 :: 29 :: 30 :: 31 :: 32 :: 33 :: 34 :: 7 :: 8 :: 35 :: 36 :: 37 :: 38 :: 39 :: 40 :: 41 :: 42 :: 43 :: 44 :: 23 :: [])) (sO := upds s1 _) (by ((refine Same.upd rfl ?_; refine Same.upd rfl ?_; refine Same.upd rfl ?_; refine Same.upd rfl ?_; refine Same.upd rfl ?_; refine Same.upd rfl ?_; refine Same.upd rfl ?_; refine Same.upd rfl ?_; refine Same.upd rfl ?_; refine Same.upd rfl ?_; exact Same.ovN))) ⟨eF rfl, eS rfl, eI rfl, eI rfl, eI rfl, eS rfl, eI rfl, eI rfl, eI rfl, eS rfl, eI rfl, eI rfl, trivial⟩ fun s2 hs2' => ?_
  refine W.loopG (31 :: 32 :: 33 :: 34 :: 7 :: 8 :: 35 :: 36 :: 37 :: 38 :: 39 :: 40 :: 41 :: 42 :: 43 :: 30 :: []) (fun g s' V => ∃ q : Nat, s' 30 = .int .i64 ((q : Nat) : Int) ∧ q ≤ cs[k].2.2.2[n].2.2.length ∧ g = cs[k].2.2.2[n].2.2.length - q ∧ J ((allW (txF cs) k).length + (((chW cs[k]).take n).flatten.length + q)) V) cs[k].2.2.2[n].2.2.length ⟨0, rfl, by omega, rfl, hJn⟩ ?_
  rintro _ sd3 V2 ⟨q, h30, hq, rfl, hJq⟩
  refine W.fix h30 ?_
  clear h30
  have hFq := hF _ _ hJq
  by_cases hql : q < cs[k].2.2.2[n].2.2.length
  rotate_left
  · obtain rfl : q = cs[k].2.2.2[n].2.2.length := by omega
    (refine jjB ?_; refine jjC ?_; refine jja rfl rfl (by omega) ?_; refine jz ?_; refine jjB ?_; refine jjK rfl ?_; refine jjE ?_; refine jjC ?_; refine jY rfl rfl (by omega) ?_; apply jI; exact eI rfl; refine jz ?_)
    exact ⟨rfl, by ((refine Same.upd rfl ?_; refine Same.upd rfl ?_; refine Same.upd rfl ?_; refine Same.upd rfl ?_; refine Same.ovN' rfl ?_; assumption)), cs[k].2.2.2.length - (n + 1), by omega, n + 1, congrArg (Value.int .i64) (by omega), by omega, rfl, by rw [hnx]; exact hJq⟩
  have hqc : q < ((wsT (txF cs) k)[n]'(by rw [hws]; exact hnc)).length := by simp only [hws, hcn]; exact hql
  have hall := allW_at htk (by rw [hws]; exact hnc) hqc
  simp only [hws, hcn] at hall
  have iW := hFq.tx.word hkc hnl
  (refine jjB ?_; refine jjC ?_; refine jjZ rfl rfl (by omega) ?_; refine jz ?_; refine jjB ?_; refine jjJ rfl ?_; refine jjG ?_; refine jjB ?_; refine jjD ?_; refine jjB ?_; refine jjC ?_; apply jI; exact eI rfl; refine jF rfl rfl rfl (map_get (by omega)) ?_; intro _ _ _; refine jQ rfl rfl ?_; apply jJ; exact eI rfl; apply jJ; exact eT rfl; refine jz ?_; refine jjB ?_; refine jjC ?_; apply jI; exact eF rfl; apply jI; exact eI rfl; apply jI; exact eI rfl; apply jI; exact eI rfl)
  (refine jjS (cells := [.int .i64 (k : Int), .int .i64 (n : Int), .int .i64 (q : Int)]) ?_ ?_; exact rfl)
  (apply jI; exact eT rfl)
  refine Ops.yield (hY _ _ _ hall hJq) rfl rfl ?_
  rintro e V3 (⟨rfl, hJ3, hFr⟩ | ⟨rfl, hJx3⟩)
  · refine ⟨_, rfl, ?_⟩
    (refine jp rfl ?_; refine jz ?_; refine jjK rfl ?_; refine jjG ?_; refine jjC ?_; refine jY rfl rfl (by omega) ?_; apply jI; exact eI rfl; refine jz ?_)
    exact ⟨rfl, by ((refine Same.upd rfl ?_; refine Same.upd rfl ?_; refine Same.upd rfl ?_; refine Same.upd rfl ?_; refine Same.upd rfl ?_; refine Same.upd rfl ?_; refine Same.upd rfl ?_; refine Same.upd rfl ?_; refine Same.upd rfl ?_; refine Same.upd rfl ?_; refine Same.upd rfl ?_; refine Same.upd rfl ?_; refine Same.upd rfl ?_; refine Same.upd rfl ?_; refine Same.upd rfl ?_; refine Same.upd rfl ?_; refine Same.upd rfl ?_; exact Same.ovN)), cs[k].2.2.2[n].2.2.length - (q + 1), by omega, q + 1, congrArg (Value.int .i64) (by omega), by omega, rfl, hJ3⟩
  · refine ⟨_, rfl, ?_⟩
    (refine jq rfl ?_; refine jz ?_; refine jjJ rfl ?_; refine jjF ?_; refine jA rfl ⟨⟨_, rfl⟩, ?_⟩)
    exact .inr ⟨_, (List.getElem?_eq_some_iff.1 hall).1, hJx3⟩
theorem all_leaf (bk : Nat) (w : World) : Ct Tryz.prog 90 [.pointer (some ⟨bk, 0, none⟩)] w fun v w' => ∃ bx, v = .func (.func 128) #[] ([.pointer (some ⟨bx, 0, none⟩)] : List Value).toArray ∧ w.heap.size ≤ bx ∧ At w' bx 0 [.pointer (some ⟨bk, 0, none⟩)] := by
  refine Ct.ofW (by simp) ?_
  (refine jjB ?_; refine jjC ?_)
  (refine jy rfl ?_; intro bx w_bx hb_bx hs_bx hS_bx hk_bx; have hA_bx := At.ofBlock hk_bx)
  (apply jJ; exact rfl; refine jz ?_; refine jjB ?_; refine jjC ?_; refine jv ?_; apply jJ; exact eF rfl; refine jz ?_; refine jjF ?_; refine jB rfl rfl ⟨inferInstance, ?_⟩)
  exact ⟨bx, rfl, by omega, inferInstance⟩
end Go.Proofs.YtgnjjocafmofaaaGreatDoor

/- The proof engine, part 29: two results in variables, where marks lie. -/
namespace Go.Proofs.YtgnjjocafmofaaaGreatDoor
open Go.RowKit

theorem fin2CCM {P : Program} {fn : Func} {n N t ty b size bytes t1 ty1 b1 : Nat} {R : Value → World → Prop} {s : Sl} {ds : List Deferred} {w : World} {cs : List Value} {dd dd1 : TypeDesc} {z v1 : Value} {e e1 : Nat} (hf : fn.results = #[.cell t ty, .cell t1 ty1]) (ht : Nat.blt t n = true) (h1 : Nat.blt t1 n = true)
    (hs : s t = .pointer (some ⟨b, 0, none⟩)) (hs1 : s t1 = .pointer (some ⟨b1, 0, none⟩)) (hb : Bk w b cs e) (hb1 : Bk w b1 [v1] e1) [hu : TU P ty dd] (hag : TypeDesc.isAgg dd = true) [hz : TS P ty z size bytes] (hl : cs.length = size) [hu1 : TU P ty1 dd1] (hag1 : TypeDesc.isAgg dd1 = false) (hm : Mks N w ds)
    (h : ∀ w', Grow N w w' → R (.tuple #[.agg cs.toArray, v1]) w') : finM P fn n N R s ds w := by
  unfold finM
  refine ⟨hm, fun w' g => ⟨.tuple #[.agg cs.toArray, v1], ?_, h w' g⟩⟩
  have e0 : (mkA n s []).tmps[t]?.getD undef = .pointer (some ⟨b, 0, none⟩) := by
    rw [mkA_getElem?, if_pos (by simpa using ht)]; exact hs
  have e1 : (mkA n s []).tmps[t1]?.getD undef = .pointer (some ⟨b1, 0, none⟩) := by
    rw [mkA_getElem?, if_pos (by simpa using h1)]; exact hs1
  have hA := Bk.toAt (h := hb.grow g)
  have r0 := run_loadVar_agg (P := P) (t := ty) (w := w') (b := b) (o := 0) hu hag hz (cs := cs) hl (fun i v hv => by have := hA.h i v hv; simpa using this)
  have hc1 : w'.cell? ⟨b1, 0, none⟩ = some v1 := Bk.cell1 (hb1.grow g)
  have r1 := run_loadVar_cell (P := P) (w := w') hu1 hag1 hc1
  simp [results, hf, e0, e1, asAddr, r0, r1]
end Go.Proofs.YtgnjjocafmofaaaGreatDoor

/- leaf: Words, PlaceOf. -/
namespace Go.Proofs.YtgnjjocafmofaaaGreatDoor
open Go.RowKit

def wordsR (t : Tx) : Int × Int := if textB t then ((allW t t.length).length, 0) else (0, 10)
theorem allW_small {cs : List Ch} (ht : textB (txF cs) = true) : (allW (txF cs) (txF cs).length).length ≤ 600 := by
  have h := allS_len (side := 1) (wd := 12) ht
  rw [allS, List.length_map] at h
  rw [allW_len]; exact h
section
variable (a : Option Addr) (c : Nat) (cs : List Ch) (w : World) [hrow : RowI w (.slice a cs.length c) true 2 (cs.map encCh)] [hT : TextI w cs]
set_option maxHeartbeats 2000000 in
theorem Words_leaf (hs : SmallT cs) : Ct Tryz.prog 46 [.agg #[.slice a cs.length c]] w fun v _ => v = .tuple #[.int .i64 (wordsR (txF cs)).1, .int .i64 (wordsR (txF cs)).2] := by
  refine Ct.ofWM (by simp) ?_
  (refine jjB ?_; refine jjC ?_)
  (refine jy rfl ?_; intro b1 w_b1 hb_b1 hs_b1 hS_b1 hk_b1; have hA_b1 := At.ofBlock hk_b1)
  (apply jJ; exact eI rfl; apply jJ; exact eI rfl; refine jz ?_; refine jjB ?_; refine jjC ?_; refine jO rfl rfl rfl rfl ?_)
  obtain ⟨B, hB⟩ : ∃ B, textB (txF cs) = B := ⟨_, rfl⟩
  refine jjQ ((open_leaf a c cs _ hs).mono fun v _ _ h => by rw [hB] at h; exact h) rfl rfl ?_
  rintro _ w2 hS2 ⟨o, rfl, ho⟩
  have hE2 : Ext w w2 := inferInstance
  rw [wordsR, hB]
  cases B with
  | false =>
    (apply jI; exact eU rfl; refine ju rfl rfl ?_; refine ju rfl rfl ?_; apply jJ; exact rfl; apply jJ; exact eI rfl; refine jz ?_; refine jjB ?_; refine jjB ?_; refine jjC ?_; apply jI; exact eI rfl; refine jc rfl rfl ?_; refine jz ?_; refine jjJ rfl ?_; refine jjB ?_; refine jjC ?_; apply jI; exact eI rfl; apply jJ; exact eI rfl; apply jJ; exact eI rfl; refine jz ?_; refine jjF ?_)
    refine fin2M rfl rfl rfl inferInstance fun w' g => ⟨hE2.ofGrow g (Nat.le_refl _), rfl⟩
  | true =>
  obtain ⟨bk, hbk, rfl, hAk⟩ := ho rfl
  have hal := allW_small hB
  rw [if_pos rfl]
  (apply jI; exact eU rfl; refine ju rfl rfl ?_; refine ju rfl rfl ?_; apply jJ; exact eP rfl; apply jJ; exact eI rfl; refine jz ?_; refine jjB ?_; refine jjB ?_; refine jjC ?_; apply jI; exact eI rfl; refine jc rfl rfl ?_; refine jz ?_; refine jjK rfl ?_; refine jjG ?_; refine jjB ?_; refine jjC ?_)
  (apply jjR rfl; (intro _; first|exact eI rfl|exact eB rfl|exact eP rfl|exact eS rfl|exact eT rfl|exact eA rfl|exact eU rfl|exact eF rfl|exact eM rfl|exact eN rfl|exact rfl); exact rfl; exact rfl; exact rfl; exact rfl; intro b6 w_b6 hb_b6 hs_b6 hS_b6 hk_b6; have hA_b6 := Bk.of hk_b6)
  (refine jz ?_; refine jjB ?_; refine jjB ?_; refine jjC ?_; apply jI; exact eP rfl)
  refine jjQ (all_leaf bk _) rfl rfl ?_
  rintro _ w7 hS7 ⟨bx, rfl, hbx, hAx⟩
  (refine jz ?_; refine jjD ?_)
  have hE7 : Ext w w7 := inferInstance
  have zz := hE7.size
  have z2 := hE2.size
  have z6 := hS_b6.size
  have z7 := hS7.size
  have hB6 : Bk w7 b6 [.int .i64 0] 3 := inferInstance
  have hAk7 : At w7 bk 0 [.slice a cs.length c] := (hAk.ext hS_b6.ext).ext hS7.ext
  have hlk := hAk.lt
  have hlx := hAx.lt
  refine W.range w.heap.size (allW (txF cs) (txF cs).length) encPW (all1_leaf bx bk a c cs hs) rfl (fun _ => rfl) trivial inferInstance hE7.size
    (fun i V => Ext w V ∧ w7.heap.size ≤ V.heap.size ∧ Bk V b6 [.int .i64 ((i : Nat) : Int)] 3 ∧ At V bx 0 [.pointer (some ⟨bk, 0, none⟩)] ∧ At V bk 0 [.slice a cs.length c])
    (fun _ _ _ => False) ?hJ (fun _ _ _ _ h _ => h) ?hF ?h0 (fun x s' _ => s' 6 = .pointer (some ⟨b6, 0, none⟩)) (fun _ _ _ _ h _ => h) ?hassign ?hbody ?hdone (fun _ _ _ _ _ _ _ h => h.elim)
  case hJ =>
    rintro i V V' ⟨h1, h2, h3, h4, h5⟩ g
    exact ⟨h1.ofGrow g zz, Nat.le_trans h2 g.size, h3.grow g, h4.grow g, h5.grow g⟩
  case hF =>
    rintro i V ⟨h1, h2, h3, h4, h5⟩
    exact ⟨h2, h4, h5, hrow.h.ext h1, hT.ext h1⟩
  case h0 => exact ⟨hE7, Nat.le_refl _, hB6, hAx, hAk7⟩
  case hassign =>
    intro l i x V hx hJ hl hr
    (refine jjG ?_)
    exact ⟨rfl, Tr.refl _, Fr.refl _ _, hJ, rfl⟩
  case hbody =>
    rintro l i x s' V hx ⟨h1, h2, h3, h4, h5⟩ ha6 hl hr
    have hlt := (List.getElem?_eq_some_iff.1 hx).1
    refine W.fix (d := 6) ha6 ?_
    (refine jjD ?_; refine jjC ?_; refine jN rfl rfl rfl ?_; refine jY rfl rfl (by omega) ?_)
    refine Ops.store rfl rfl rfl rfl rfl ?_
    intro V2 hp2
    (refine jz ?_)
    refine ⟨hp2.tr ⟨_, h3.h, rfl⟩, hp2.frS (by omega), hp2.ext h1 (by omega), by rw [hp2.size]; exact h2, ?_, hp2.at_ h4 (by omega), hp2.at_ h5 (by omega)⟩
    have e : (((i + 1 : Nat) : Nat) : Int) = (i : Int) + 1 := by omega
    rw [e]; exact ⟨hp2.new⟩
  case hdone =>
    rintro ds' V hmk htr ⟨h1, h2, h3, h4, h5⟩
    (refine jjB ?_; refine jjC ?_; refine jN rfl rfl rfl ?_; apply jJ; exact eI rfl; apply jJ; exact eI rfl; refine jz ?_; refine jjF ?_)
    refine fin2M rfl rfl rfl hmk fun w' g => ⟨h1.ofGrow g (Nat.le_refl _), rfl⟩
set_option maxHeartbeats 4000000 in
theorem PlaceOf_leaf (hs : SmallT cs) (ht : textB (txF cs) = true) (m : Nat) (p : Pl) (hm : (allP (txF cs) (txF cs).length)[m]? = some p) : Ct Tryz.prog 53 [.agg #[.slice a cs.length c], .int .i64 (m : Int)] w fun v _ => v = .tuple #[encPl p, .int .i64 0] := by
  have hml := (List.getElem?_eq_some_iff.1 hm).1
  have hal := allW_small ht
  have hll := allW_len (txF cs) (txF cs).length
  refine Ct.ofWM (by simp) ?_
  (refine jjB ?_; refine jjC ?_)
  (refine jy rfl ?_; intro b2 w_b2 hb_b2 hs_b2 hS_b2 hk_b2; have hA_b2 := At.ofBlock hk_b2)
  skip
  (refine jy rfl ?_; intro b3 w_b3 hb_b3 hs_b3 hS_b3 hk_b3; have hA_b3 := At.ofBlock hk_b3)
  ((skip); refine jjY ?_; intro b4 w_b4 hb_b4 hs_b4 hS_b4 hk_b4; have hA_b4 := Bk.of hk_b4)
  ((skip); refine jjY ?_; intro b5 w_b5 hb_b5 hs_b5 hS_b5 hk_b5; have hA_b5 := Bk.of hk_b5)
  (refine jz ?_; refine jjB ?_; refine jjC ?_; refine jO rfl rfl rfl rfl ?_)
  refine jjQ ((open_leaf a c cs _ hs).mono fun v _ _ h => by rw [ht] at h; exact h) rfl rfl ?_
  rintro _ w6 hS6 ⟨o, rfl, ho⟩
  obtain ⟨bk, hbk, rfl, hAk⟩ := ho rfl
  rw [if_pos rfl]
  (apply jI; exact eU rfl; refine ju rfl rfl ?_; refine ju rfl rfl ?_; apply jJ; exact eP rfl; apply jJ; exact eI rfl; refine jz ?_; refine jjB ?_; refine jjB ?_; refine jjC ?_; apply jI; exact eI rfl; refine jjk rfl rfl (by omega) ?_; refine jz ?_; refine jjK rfl ?_; refine jjG ?_; refine jjB ?_; refine jjB ?_; refine jjC ?_; apply jI; exact eP rfl)
  refine jjQ (all_leaf bk _) rfl rfl ?_
  rintro _ w7 hS7 ⟨bx, rfl, hbx, hAx⟩
  have hE7 : Ext w w7 := inferInstance
  have zz := hE7.size
  have z2 := hS_b2.size
  have z3 := hS_b3.size
  have z4 := hS_b4.size
  have z5 := hS_b5.size
  have z6 := hS6.size
  have z7 := hS7.size
  have hk3 : Bk w_b3 b3 [.int .i64 (m : Int)] 3 := Bk.of hk_b3
  have hB3 : Bk w7 b3 [.int .i64 (m : Int)] 3 := ((((hk3.ext hS_b4.ext).ext hS_b5.ext).ext hS6.ext).ext hS7.ext)
  have hB4 : Bk w7 b4 [.int .i64 0, .int .i64 0, .int .i64 0] 43 := inferInstance
  have hB5 : Bk w7 b5 [.int .i64 0] 32 := inferInstance
  have hAk7 : At w7 bk 0 [.slice a cs.length c] := hAk.ext hS7.ext
  have hlk := hAk.lt
  have hlx := hAx.lt
  (refine jz ?_; refine jjD ?_)
  refine W.range w.heap.size (allW (txF cs) (txF cs).length) encPW (all1_leaf bx bk a c cs hs) rfl (fun _ => rfl) trivial inferInstance hE7.size
    (fun i V => Ext w V ∧ w7.heap.size ≤ V.heap.size ∧ (i ≤ m ∧ Bk V b3 [.int .i64 ((m : Int) - (i : Int))] 3) ∧ (∃ u1 u2 u3, Bk V b4 [.int .i64 u1, .int .i64 u2, .int .i64 u3] 43) ∧ (∃ u, Bk V b5 [.int .i64 u] 32) ∧ At V bx 0 [.pointer (some ⟨bk, 0, none⟩)] ∧ At V bk 0 [.slice a cs.length c])
    (fun cc _ V => cc = .ret ∧ Ext w V ∧ Bk V b4 (encPl p).cells.toList 43 ∧ Bk V b5 [.int .i64 0] 32) ?hJ ?hJx ?hF ?h0 (fun x s' V => ∃ b, s' 3 = .pointer (some ⟨b3, 0, none⟩) ∧ s' 4 = .pointer (some ⟨b4, 0, none⟩) ∧ s' 5 = .pointer (some ⟨b5, 0, none⟩) ∧ s' 8 = .pointer (some ⟨b, 0, none⟩) ∧ Bk V b (encPl x.1).cells.toList 43) (fun x s V V' ⟨b, h1, h2, h3, h4, h5⟩ g => ⟨b, h1, h2, h3, h4, h5.grow g⟩) ?hassign ?hbody ?hdone ?hstop
  case hJ =>
    rintro i V V' ⟨h1, h2, ⟨hi, h3⟩, ⟨u1, u2, u3, h4⟩, ⟨u, h5⟩, h6, h7⟩ g
    exact ⟨h1.ofGrow g zz, Nat.le_trans h2 g.size, ⟨hi, h3.grow g⟩, ⟨u1, u2, u3, h4.grow g⟩, ⟨u, h5.grow g⟩, h6.grow g, h7.grow g⟩
  case hJx =>
    rintro cc i V V' ⟨h0, h1, h2, h3⟩ g
    exact ⟨h0, h1.ofGrow g zz, h2.grow g, h3.grow g⟩
  case hF =>
    rintro i V ⟨h1, h2, h3, h4, h5, h6, h7⟩
    exact ⟨h2, h6, h7, hrow.h.ext h1, hT.ext h1⟩
  case h0 => exact ⟨hE7, Nat.le_refl _, ⟨Nat.zero_le _, by rw [show (m : Int) - ((0 : Nat) : Int) = (m : Int) by omega]; exact hB3⟩, ⟨_, _, _, hB4⟩, ⟨_, hB5⟩, hAx, hAk7⟩
  case hassign =>
    rintro l i x V hx ⟨h1, h2, ⟨hi, h3⟩, ⟨u1, u2, u3, h4⟩, ⟨u, h5⟩, h6, h7⟩ hl hr
    (refine jjC ?_)
    (apply jjR rfl; (intro _; first|exact eI rfl|exact eB rfl|exact eP rfl|exact eS rfl|exact eT rfl|exact eA rfl|exact eU rfl|exact eF rfl|exact eM rfl|exact eN rfl|exact rfl); exact rfl; exact rfl; exact rfl; exact rfl; intro b8 w_b8 hb_b8 hs_b8 hS_b8 hk_b8; have hA_b8 := Bk.of hk_b8)
    (refine jz ?_)
    have e8 := hS_b8.ext
    have y8 := e8.size
    exact ⟨rfl, e8.tr, Fr.ext e8, ⟨h1.trans e8, by omega, ⟨hi, h3.ext e8⟩, ⟨u1, u2, u3, h4.ext e8⟩, ⟨u, h5.ext e8⟩, h6.ext e8, h7.ext e8⟩, b8, rfl, rfl, rfl, rfl, inferInstance⟩
  case hbody =>
    rintro l i x s' V hx ⟨h1, h2, ⟨hi, h3⟩, ⟨u1, u2, u3, h4⟩, ⟨u, h5⟩, h6, h7⟩ ⟨b8, ha3, ha4, ha5, ha8, hb8⟩ hl hr
    refine W.fix (d := 3) ha3 (W.fix (d := 4) ha4 (W.fix (d := 5) ha5 (W.fix (d := 8) ha8 ?_)))
    have hx8 : At V b8 0 [.int .i64 x.1.1, .int .i64 x.1.2.1, .int .i64 x.1.2.2] := Bk.toAt (h := hb8)
    by_cases him : i = m
    · have hxp : x.1 = p := by
        have e1 := congrArg (·[i]?) (allW_fst (txF cs) (txF cs).length)
        simp only [List.getElem?_map, hx, Option.map_some] at e1
        rw [him, hm] at e1
        exact Option.some.inj e1
      have hz0 : (m : Int) - (i : Int) = 0 := by omega
      rw [hz0] at h3
      (refine jjD ?_; refine jjB ?_; refine jjB ?_; refine jjC ?_; refine jN rfl rfl rfl ?_; refine jjh rfl rfl (by omega) ?_; refine jz ?_; refine jjJ rfl ?_; refine jjB ?_; refine jjC ?_; refine jO rfl rfl rfl rfl ?_)
      refine Ops.store rfl rfl rfl rfl rfl ?_
      intro V2 hp2
      have h5' := hp2.bk h5 (by omega)
      skip
      refine Ops.store rfl rfl rfl rfl rfl ?_
      intro V3 hp3
      (refine jz ?_; refine jjF ?_)
      have m4 : Bk V2 b4 (encPl x.1).cells.toList 43 := ⟨hp2.new⟩
      refine ⟨(hp2.tr ⟨_, h4.h, rfl⟩).trans (hp3.tr ⟨_, h5'.h, rfl⟩), rfl, hp3.ext (hp2.ext h1 (by omega)) (by omega), ?_, ⟨hp3.new⟩⟩
      rw [← hxp]; exact hp3.bk m4 (by omega)
    · have hne : ¬ (m : Int) - (i : Int) = 0 := by omega
      (refine jjD ?_; refine jjB ?_; refine jjB ?_; refine jjC ?_; refine jN rfl rfl rfl ?_; refine jji rfl rfl (by omega) ?_; refine jz ?_; refine jjK rfl ?_; refine jjG ?_; refine jjC ?_; refine jN rfl rfl rfl ?_; refine jZ rfl rfl (by omega) ?_)
      refine Ops.store rfl rfl rfl rfl rfl ?_
      intro V2 hp2
      (refine jz ?_)
      refine ⟨hp2.tr ⟨_, h3.h, rfl⟩, hp2.frS (by omega), hp2.ext h1 (by omega), by rw [hp2.size]; exact h2, ⟨by omega, ?_⟩, ⟨u1, u2, u3, hp2.bk h4 (by omega)⟩, ⟨u, hp2.bk h5 (by omega)⟩, hp2.at_ h6 (by omega), hp2.at_ h7 (by omega)⟩
      have e : (m : Int) - ((i + 1 : Nat) : Int) = (m : Int) - (i : Int) - 1 := by omega
      rw [e]; exact ⟨hp2.new⟩
  case hdone =>
    rintro ds' V hmk htr ⟨h1, h2, ⟨hi, h3⟩, _⟩
    omega
  case hstop =>
    rintro ds' cc i V hmk htr hi ⟨rfl, h1, h2, h3⟩
    refine jjF ?_
    exact fin2CCM rfl rfl rfl rfl rfl h2 h3 rfl rfl rfl hmk fun w' g => ⟨h1.ofGrow g (Nat.le_refl _), rfl⟩
end
end Go.Proofs.YtgnjjocafmofaaaGreatDoor

/- The proof engine, part 18: division of numbers that are not negative; equality of pairs. -/
namespace Go.Proofs.YtgnjjocafmofaaaGreatDoor
open Go.RowKit

section rules
variable {P : Program} {ro : Option Nat} {n : Nat} {all rest : List Oper} {K : Sl → World → Prop} {s : Sl} {w : World} {d : Nat} {ty : Nat} {pos : String} {af : Array Edge} {x y : Operand} {t t' : Nat} {a b : Int}
theorem Ops.rem (hx : ev n s x = .int .i64 a) (hy : ev n s y = .int .i64 b) (h0 : 0 ≤ a) (h1 : 0 < b) (h : Ops P ro n all rest K (upd s d (.int .i64 (a % b))) w) :
    Ops P ro n all (⟨some d, .binOp .rem t x y t', ty, pos, af, none⟩ :: rest) K s w :=
  Ops.ofRun rfl (by
    have e1 : Int.tmod a b = a % b := Int.tmod_eq_emod_of_nonneg h0
    have e3 : ¬ b = 0 := by omega
    simp [execOp, hx, hy, go_sem, Op.intDiv, e1, e3]) h
end rules

end Go.Proofs.YtgnjjocafmofaaaGreatDoor

/- place: a place of a valid text by a number. -/
namespace Go.Proofs.YtgnjjocafmofaaaGreatDoor
open Go.RowKit

theorem pick_pos {α : Type} {l : List α} (h : 0 < l.length) (m : Nat) : ∃ p, l[m % l.length]? = some p := ⟨_, List.getElem?_eq_getElem (Nat.mod_lt _ h)⟩
section
variable (a : Option Addr) (c : Nat) (cs : List Ch) (w : World) [hrow : RowI w (.slice a cs.length c) true 2 (cs.map encCh)] [hT : TextI w cs]
set_option maxHeartbeats 4000000 in
theorem place_law3 (hs : SmallT cs) (ht : textB (txF cs) = true) (m : Nat) (hm : m ≤ 65535) (p : Pl) (hp : (allP (txF cs) (txF cs).length)[m % (allP (txF cs) (txF cs).length).length]? = some p) : Ct Tryz.prog 40 [.agg #[.slice a cs.length c], .int .u16 (m : Int)] w fun v _ => v = .tuple #[encPl p, .bool true] := by
  have hlt := (List.getElem?_eq_some_iff.1 hp).1
  have hll := allW_len (txF cs) (txF cs).length
  have hal := allW_small ht
  have hpb : placeC cs p = true := (placeC_B cs p).trans (placeB_mem.2 (List.mem_of_getElem? hp))
  refine Ct.ofW (by simp) ?_
  (refine jjB ?_; refine jjC ?_)
  (refine jy rfl ?_; intro b2 w_b2 hb_b2 hs_b2 hS_b2 hk_b2; have hA_b2 := At.ofBlock hk_b2)
  skip
  ((skip); refine jjY ?_; intro b4 w_b4 hb_b4 hs_b4 hS_b4 hk_b4; have hA_b4 := Bk.of hk_b4)
  (apply jJ; exact eB rfl; refine jz ?_; refine jjB ?_; refine jjC ?_; refine jO rfl rfl rfl rfl ?_)
  refine jjQ ((Words_leaf a c cs _ hs).mono fun v _ _ h => h.trans (by rw [wordsR, if_pos ht, hll])) rfl rfl ?_
  rintro _ w5 hS5 rfl
  generalize hL : (allP (txF cs) (txF cs).length).length = L at *
  (apply jI; exact eU rfl; refine ju rfl rfl ?_; refine ju rfl rfl ?_; apply jJ; exact eI rfl; apply jJ; exact eI rfl; refine jz ?_; refine jjB ?_; refine jjB ?_; refine jjC ?_; apply jI; exact eI rfl; refine jjk rfl rfl (by omega) ?_; apply jI; exact eB rfl; refine jT rfl rfl rfl ?_; apply jI; exact eI rfl; refine jT rfl rfl rfl ?_; refine jja rfl rfl (by omega) ?_; apply jL rfl; exact eB rfl; refine jz ?_; refine jjK rfl ?_; refine jjG ?_; refine jjB ?_)
  have hrem : (m : Int) % (L : Int) = ((m % L : Nat) : Int) := by omega
  have hE5 : Ext w w5 := inferInstance
  have hA2 : At w5 b2 0 [.slice a cs.length c] := inferInstance
  have hB4 : Bk w5 b4 [.int .i64 0, .int .i64 0, .int .i64 0] 43 := inferInstance
  have hr5 : RowI w5 (.slice a cs.length c) true 2 (cs.map encCh) := inferInstance
  have ht5 : TextI w5 cs := inferInstance
  have hlt2 := hA2.lt
  have z4 : w.heap.size ≤ b4 := by
    have := hS_b2.size
    omega
  have hlt4 : b4 < w5.heap.size := by
    have := hS5.size
    omega
  have hlt2 : b2 < b4 := by omega
  refine W.keep0 [(1, .int .u16 (m : Int)), (2, .pointer (some ⟨b2, 0, none⟩)), (4, .pointer (some ⟨b4, 0, none⟩)), (6, .int .i64 (L : Int))] ⟨eI rfl, eP rfl, eP rfl, eI rfl, trivial⟩ fun s0 => ?_
  refine W.draw (fun w' => Ext w5 w') ?_
  intro w6 hS6
  refine AnyS.mono (K' := fun s w' => s 2 = .pointer (some ⟨b2, 0, none⟩) ∧ s 4 = .pointer (some ⟨b4, 0, none⟩) ∧ s 9 = .int .i64 0 ∧ (∃ b8, s 8 = .pointer (some ⟨b8, 0, none⟩) ∧ w5.heap.size ≤ b8 ∧ At w' b8 0 (encPl p).cells.toList) ∧ Ext w5 w') ?_ ?_
  rotate_left
  · refine jjV [0, 1, 2, 3, 4] (by decide +kernel) inferInstance ?_
    ((apply jjT; exact rfl; rintro w' hq; have := hq.toStep; refine jO rfl rfl rfl rfl ?_; refine jz ?_; exact ⟨rfl, rfl⟩; apply jjT; exact rfl; rintro w' hq; have := hq.toStep; apply jI; exact eI rfl; refine jz ?_; exact ⟨rfl, rfl⟩; apply jjT; exact rfl; rintro w' hq; have := hq.toStep; refine Ops.convI rfl rfl (wrapi (by omega) (by omega)) ?_; refine jz ?_; exact ⟨rfl, rfl⟩; apply jjT; exact rfl; rintro w' hq; have := hq.toStep; apply jI; exact eI rfl; refine jz ?_; exact ⟨rfl, rfl⟩; apply jjT; exact rfl; rintro w' hq; have := hq.toStep; refine Ops.rem rfl rfl (by omega) (by omega) ?_; rw [hrem]; refine jz ?_; exact ⟨rfl, rfl⟩; refine jjU ?_))
    repeat' ( first
      | (refine jjl 5 9 (by decide +kernel) rfl rfl inferInstance ?_ ?_)
      | ((apply jjW 5; (decide +kernel); exact rfl; (exact inferInstance)))
      | ((apply jjW 9; (decide +kernel); exact rfl; (exact inferInstance)))
      | (refine jjQ (PlaceOf_leaf a c cs _ hs ht (m % L) p hp) rfl rfl ?_; rintro _ v5 hv5 rfl; refine jz ?_; (refine jjV [6, 7, 8] ?_ ?_ ?_; (decide +kernel); (exact inferInstance); ((repeat' (first|(apply jjT; exact rfl)|rintro w' hq|(apply jI; exact eU rfl)|refine ju rfl rfl ?_|refine jz ?_|exact ⟨rfl, rfl⟩|refine jjU ?_)))))
      | (refine jjY ?_; intro b8 v8 hb8 hs8 hv8 hk8; have k8 := Bk.of hk8; have z8 : w5.heap.size ≤ b8 := (by rw [hb8]; exact Ext.size inferInstance); refine jz ?_)
      | ((apply jjW 10; (decide +kernel); exact rfl; (exact inferInstance)); refine Ops.store rfl rfl rfl rfl rfl ?_; intro V2 hp2; have e2 : Ext w5 V2 := hp2.ext inferInstance z8; refine jz ?_; (refine jjV [11] ?_ ?_ ?_; (decide +kernel); (exact e2); ((repeat' (first|(apply jjT; exact rfl)|rintro w' hq|(apply jJ; exact eI rfl)|refine jz ?_|exact ⟨rfl, rfl⟩|refine jjU ?_)))); refine jjX (by decide +kernel) e2 ?_; exact ⟨rfl, rfl, rfl, ⟨b8, rfl, z8, Bk.toAt (h := Bk.of hp2.new)⟩, e2⟩))
  rintro s w7 ⟨h2, h4, h9, ⟨b8, h8, hb8, hA8'⟩, x7⟩
  have hA8 : At w7 b8 0 [.int .i64 p.1, .int .i64 p.2.1, .int .i64 p.2.2] := hA8'
  have hB47 : Bk w7 b4 [.int .i64 0, .int .i64 0, .int .i64 0] 43 := hB4.ext x7
  have hA27 : At w7 b2 0 [.slice a cs.length c] := hA2.ext x7
  have hE7 : Ext w w7 := hE5.trans x7
  refine W.keep0 [(2, .pointer (some ⟨b2, 0, none⟩)), (4, .pointer (some ⟨b4, 0, none⟩)), (8, .pointer (some ⟨b8, 0, none⟩)), (9, .int .i64 0)] ⟨h2, h4, h8, h9, trivial⟩ fun s1 => ?_
  clear h2 h4 h8 h9
  ((refine jjB ?_))
  refine W.draw (fun w' => Ext w w' ∧ At w' b2 0 [.slice a cs.length c] ∧ At w' b8 0 [.int .i64 p.1, .int .i64 p.2.1, .int .i64 p.2.2]) ?_
  intro w8 hS8
  refine AnyS.mono (K' := fun s w' => s 4 = .pointer (some ⟨b4, 0, none⟩) ∧ s 5 = .bool true ∧ At w' b4 0 (encPl p).cells.toList ∧ Ext w w') ?_ ?_
  rotate_left
  · skip
    refine jjV [0, 1, 2, 3, 4, 5] (by decide +kernel) ⟨inferInstance, inferInstance, inferInstance⟩ ?_
    ((apply jjT; exact rfl; rintro w' ⟨q1, q2, q3⟩; refine jO rfl rfl rfl rfl ?_; refine jz ?_; exact ⟨rfl, rfl⟩; apply jjT; exact rfl; rintro w' ⟨q1, q2, q3⟩; apply jI; exact eI rfl; refine jz ?_; exact ⟨rfl, rfl⟩; apply jjT; exact rfl; rintro w' ⟨q1, q2, q3⟩; refine jjh rfl rfl (by omega) ?_; refine jz ?_; exact ⟨rfl, rfl⟩; apply jjT; exact rfl; rintro w' ⟨q1, q2, q3⟩; apply jI; exact eB rfl; refine jz ?_; exact ⟨rfl, rfl⟩; apply jjT; exact rfl; rintro w' ⟨q1, q2, q3⟩; refine jT rfl rfl rfl ?_; refine jO rfl rfl rfl rfl ?_; refine jz ?_; exact ⟨rfl, rfl⟩; apply jjT; exact rfl; rintro w' ⟨q1, q2, q3⟩; refine jT rfl rfl rfl ?_; refine jO rfl rfl rfl rfl ?_; refine jz ?_; exact ⟨rfl, rfl⟩; refine jjU ?_))
    (apply jjW 6; (decide +kernel); exact rfl; (exact ⟨inferInstance, inferInstance, inferInstance⟩))
    have hE8 : Ext w w8 := inferInstance
    have i8 : RowI w8 (.slice a cs.length c) true 2 (cs.map encCh) := ⟨hrow.h.ext hE8⟩
    have j8 : TextI w8 cs := hT.ext hE8
    refine jT rfl rfl rfl ?_
    refine jjQ ((Place_ref1 a c cs _ p hs).mono fun v _ _ h => h.trans (by rw [hpb])) rfl rfl ?_
    rintro _ w9 hS9 rfl
    refine jz ?_
    have hE9 : Ext w w9 := inferInstance
    have hA29 : At w9 b2 0 [.slice a cs.length c] := inferInstance
    have hA89 : At w9 b8 0 [.int .i64 p.1, .int .i64 p.2.1, .int .i64 p.2.2] := inferInstance
    refine jjV [7] (by decide +kernel) ⟨hE9, hA29, hA89⟩ ?_
    ((apply jjT; exact rfl; rintro w' ⟨q1, q2, q3⟩; apply jK rfl; exact eB rfl; refine jz ?_; exact ⟨rfl, rfl⟩; refine jjU ?_))
    (apply jjW 8; (decide +kernel); exact rfl; (exact ⟨hE9, hA29, hA89⟩))
    refine Ops.store rfl rfl rfl rfl rfl ?_
    intro V2 hp2
    refine jz ?_
    have hE10 : Ext w V2 := hp2.ext hE9 z4
    have hA210 : At V2 b2 0 [.slice a cs.length c] := hp2.at_ hA29 (by omega)
    have hA810 : At V2 b8 0 [.int .i64 p.1, .int .i64 p.2.1, .int .i64 p.2.2] := hp2.at_ hA89 (by omega)
    refine jjV [9] (by decide +kernel) ⟨hE10, hA210, hA810⟩ ?_
    ((apply jjT; exact rfl; rintro w' ⟨q1, q2, q3⟩; apply jJ; exact eB rfl; refine jz ?_; exact ⟨rfl, rfl⟩; refine jjU ?_))
    refine jjX (by decide +kernel) ⟨hE10, hA210, hA810⟩ ?_
    exact ⟨rfl, rfl, Bk.toAt (h := Bk.of hp2.new), hE10⟩
  rintro s w9 ⟨h4, h5, hA4, x9⟩
  have hA49 : At w9 b4 0 [.int .i64 p.1, .int .i64 p.2.1, .int .i64 p.2.2] := hA4
  refine W.keep0 [(4, .pointer (some ⟨b4, 0, none⟩)), (5, .bool true)] ⟨h4, h5, trivial⟩ fun s2 => ?_
  (refine jjF ?_)
  refine fin2C rfl rfl rfl rfl rfl rfl ⟨x9, rfl⟩
end
end Go.Proofs.YtgnjjocafmofaaaGreatDoor

/- Plain law: where a copy has what stands in a place. -/
namespace Go.Proofs.YtgnjjocafmofaaaGreatDoor
open Go.RowKit

/-! ### What stands in a place of a copy -/
theorem here_split {rs : List Rd} (h : nextsB rs = true) (p : Pl) : hereR p rs = [] ∨ ∃ (H : List Rd) (r : Rd), hereR p rs = H ++ [r] ∧ ∀ x ∈ H, x.2.1 = 2 := by
  rcases List.eq_nil_or_concat (hereR p rs) with e | ⟨H, r, e⟩
  · exact .inl e
  · right
    rw [List.concat_eq_append] at e
    refine ⟨H, r, e, fun x hx => ?_⟩
    obtain ⟨j, hj, rfl⟩ := List.mem_iff_getElem.1 hx
    have hl : j + 1 < (hereR p rs).length := by rw [e, List.length_append]; simp; omega
    have := here_put h hl
    rw [List.getElem_of_eq e, List.getElem_append_left hj] at this
    exact this
theorem fold_puts {o : ByteArray} : ∀ {H : List Rd}, (∀ x ∈ H, x.2.1 = 2) → ∀ z : List ByteArray, (H.foldl stepR (z, o)) = (z ++ H.map (·.2.2), o)
  | [], _, z => by simp
  | x :: H, h, z => by
    rw [List.foldl_cons, stepR, if_pos (h x (by simp)), fold_puts fun y hy => h y (by simp [hy])]
    simp
def putN (rs : List Rd) (p : Pl) : Nat := rs.countP fun r => decide (r.1 = p) && decide (r.2.1 = 2)
def omN (rs : List Rd) (p : Pl) : Nat := rs.countP fun r => decide (r.1 = p) && decide (r.2.1 = 1)
theorem here_count (rs : List Rd) (p : Pl) (f : Rd → Bool) : (hereR p rs).countP f = rs.countP fun r => decide (r.1 = p) && f r := by
  rw [hereR, List.countP_filter]
  congr 1
  funext r
  rw [Bool.and_comm]
/-- The own word of a place in a copy, and how many are put in ahead of it. -/
theorem own_of {rs : List Rd} (h : nextsB rs = true) (p : Pl) (o : ByteArray) : (foldR o (hereR p rs)).1.length = putN rs p ∧
    ((omN rs p = 0 ∧ (foldR o (hereR p rs)).2 = o ∧ ∀ r ∈ hereR p rs, r.2.1 = 2) ∨ ∃ r ∈ hereR p rs, r.2.1 ≠ 2 ∧ (foldR o (hereR p rs)).2 = r.2.2 ∧ omN rs p = if r.2.1 = 1 then 1 else 0) := by
  have hp := here_count rs p fun r => decide (r.2.1 = 2)
  have ho := here_count rs p fun r => decide (r.2.1 = 1)
  rw [putN, omN, ← hp, ← ho]
  rcases here_split h p with e | ⟨H, r, e, hH⟩
  · rw [e]; exact ⟨rfl, .inl ⟨rfl, rfl, by simp⟩⟩
  · have c2 : H.countP (fun r => decide (r.2.1 = 2)) = H.length := by
      rw [List.countP_eq_length]; intro x hx; exact decide_eq_true (hH x hx)
    have c1 : H.countP (fun r => decide (r.2.1 = 1)) = 0 := by
      rw [List.countP_eq_zero]; intro x hx; rw [hH x hx]; simp
    rw [e, foldR, List.foldl_append, fold_puts hH, List.countP_append, List.countP_append, c2, c1]
    simp only [List.foldl_cons, List.foldl_nil, stepR, List.countP_cons, List.countP_nil]
    by_cases hr : r.2.1 = 2
    · rw [if_pos hr]
      refine ⟨by simp [hr], .inl ⟨by simp [hr], rfl, fun x hx => ?_⟩⟩
      rcases List.mem_append.1 hx with hx | hx
      · exact hH x hx
      · rw [List.mem_singleton.1 hx]; exact hr
    · rw [if_neg hr]
      refine ⟨by simp [hr], .inr ⟨r, by simp, hr, rfl, ?_⟩⟩
      by_cases h1 : r.2.1 = 1
      · simp [h1]
      · simp [h1]
theorem stands_own {rs : List Rd} (h : nextsB rs = true) (t : Tx) (p : Pl) : standsB t rs p = (foldR (wordT t p) (hereR p rs)).2 := by
  have e : (rs.find? fun r => decide (r.1 = p) && decide (r.2.1 ≠ 2)) = (hereR p rs).find? fun r => decide (r.2.1 ≠ 2) := by
    rw [hereR, List.find?_filter]
    congr 1
    funext r
    rw [Bool.eq_iff_iff]; simp
  rw [standsB, e]
  rcases here_split h p with e | ⟨H, r, e, hH⟩
  · rw [e]; rfl
  · have hf : H.find? (fun r => decide (r.2.1 ≠ 2)) = none := by
      rw [List.find?_eq_none]; intro x hx; rw [hH x hx]; simp
    rw [e, List.find?_append, hf, foldR, List.foldl_append, fold_puts hH]
    simp only [List.foldl_cons, List.foldl_nil, stepR, Option.none_or]
    by_cases hr : r.2.1 = 2
    · rw [if_pos hr]; simp [hr]
    · rw [if_neg hr]; simp [hr]
/-! ### Moves -/
def lnB (p : Pl) (r : Rd) : Bool := decide (r.1.1 = p.1) && decide (r.1.2.1 = p.2.1)
def cPut (p : Pl) (rs : List Rd) (w : Nat) : Nat := rs.countP fun r => lnB p r && (decide (r.1.2.2 < (w : Int)) && decide (r.2.1 = 2))
def cOm (p : Pl) (rs : List Rd) (w : Nat) : Nat := rs.countP fun r => lnB p r && (decide (r.1.2.2 < (w : Int)) && decide (r.2.1 = 1))
theorem moveR_none {p : Pl} : ∀ {rs : List Rd} {q : Int}, (∃ r ∈ rs, r.1 = p ∧ r.2.1 = 1) → moveR p rs q = none
  | [], q, h => by obtain ⟨r, hr, _⟩ := h; cases hr
  | x :: rs, q, h => by
    rw [moveR]
    by_cases hx : x.1 = p ∧ x.2.1 = 1
    · obtain ⟨rfl, h1⟩ := hx
      rw [if_neg (by omega), if_neg (by omega), if_pos h1, if_pos rfl]
    · have ih : ∀ q, moveR p rs q = none := fun q => moveR_none (by
        obtain ⟨r, hr, h1⟩ := h
        rcases List.mem_cons.1 hr with rfl | hr
        · exact absurd h1 hx
        · exact ⟨r, hr, h1⟩)
      split
      · exact ih _
      · split
        · exact ih _
        · split
          · split
            · rfl
            · exact ih _
          · exact ih _
theorem moveR_cnt {p : Pl} {w : Nat} (hw : p.2.2 = (w : Int)) : ∀ {rs : List Rd} {q : Int}, (∀ r ∈ rs, ¬ (r.1 = p ∧ r.2.1 = 1)) → moveR p rs q = some (q + (cPut p rs (w + 1) : Int) - (cOm p rs w : Int))
  | [], q, _ => by simp [moveR, cPut, cOm]
  | x :: rs, q, h => by
    have ih : ∀ q, moveR p rs q = some (q + (cPut p rs (w + 1) : Int) - (cOm p rs w : Int)) := fun q => moveR_cnt hw fun r hr => h r (by simp [hr])
    have hx := h x (by simp)
    rw [moveR]
    simp only [cPut, cOm, List.countP_cons] at ih ⊢
    by_cases hl : x.1.1 = p.1 ∧ x.1.2.1 = p.2.1
    · have hb : lnB p x = true := by simp [lnB, hl.1, hl.2]
      by_cases hg : p.2.2 < x.1.2.2
      · have d1 : decide (x.1.2.2 < ((w + 1 : Nat) : Int)) = false := decide_eq_false (by omega)
        have d2 : decide (x.1.2.2 < (w : Int)) = false := decide_eq_false (by omega)
        rw [if_pos (.inr (.inr hg)), ih, hb, d1, d2]; simp
      · rw [if_neg (by omega), hb]
        have d1 : decide (x.1.2.2 < ((w + 1 : Nat) : Int)) = true := decide_eq_true (by omega)
        rw [d1]
        by_cases h2 : x.2.1 = 2
        · rw [if_pos h2, ih, h2]; simp; omega
        · rw [if_neg h2]
          by_cases h1 : x.2.1 = 1
          · have hne : ¬ x.1.2.2 = p.2.2 := fun e => hx ⟨Prod.ext hl.1 (Prod.ext hl.2 e), h1⟩
            have d2 : decide (x.1.2.2 < (w : Int)) = true := decide_eq_true (by omega)
            rw [if_pos h1, if_neg hne, ih, h1, d2]; simp; omega
          · rw [if_neg h1, ih]; simp [h1, h2]
    · have hb : lnB p x = false := by
        rw [lnB, Bool.and_eq_false_iff, decide_eq_false_iff_not, decide_eq_false_iff_not]; omega
      rw [if_pos (by omega), ih, hb]; simp
theorem countP_or {α : Type} {f g k : α → Bool} : ∀ {l : List α}, (∀ x ∈ l, (f x = true ↔ g x = true ∨ k x = true) ∧ ¬ (g x = true ∧ k x = true)) → l.countP f = l.countP g + l.countP k
  | [], _ => rfl
  | x :: l, h => by
    have ih := countP_or (l := l) fun y hy => h y (by simp [hy])
    have hx := h x (by simp)
    rw [List.countP_cons, List.countP_cons, List.countP_cons, ih]
    cases hg : g x <;> cases hk : k x <;> cases hf : f x <;> simp_all <;> omega
theorem cPut_succ (p : Pl) (rs : List Rd) (w : Nat) : cPut p rs (w + 1) = cPut p rs w + putN rs (p.1, p.2.1, (w : Int)) := by
  refine countP_or fun r _ => ?_
  simp only [lnB, Bool.and_eq_true, decide_eq_true_eq, Prod.ext_iff]
  constructor
  · constructor
    · rintro ⟨⟨h1, h2⟩, h3, h4⟩
      by_cases h : r.1.2.2 < (w : Int)
      · exact .inl ⟨⟨h1, h2⟩, h, h4⟩
      · exact .inr ⟨⟨h1, h2, by omega⟩, h4⟩
    · rintro (⟨⟨h1, h2⟩, h3, h4⟩ | ⟨⟨h1, h2, h3⟩, h4⟩)
      · exact ⟨⟨h1, h2⟩, by omega, h4⟩
      · exact ⟨⟨h1, h2⟩, by omega, h4⟩
  · rintro ⟨⟨_, h3, _⟩, ⟨_, _, h4⟩, _⟩; omega
theorem cOm_succ (p : Pl) (rs : List Rd) (w : Nat) : cOm p rs (w + 1) = cOm p rs w + omN rs (p.1, p.2.1, (w : Int)) := by
  refine countP_or fun r _ => ?_
  simp only [lnB, Bool.and_eq_true, decide_eq_true_eq, Prod.ext_iff]
  constructor
  · constructor
    · rintro ⟨⟨h1, h2⟩, h3, h4⟩
      by_cases h : r.1.2.2 < (w : Int)
      · exact .inl ⟨⟨h1, h2⟩, h, h4⟩
      · exact .inr ⟨⟨h1, h2, by omega⟩, h4⟩
    · rintro (⟨⟨h1, h2⟩, h3, h4⟩ | ⟨⟨h1, h2, h3⟩, h4⟩)
      · exact ⟨⟨h1, h2⟩, by omega, h4⟩
      · exact ⟨⟨h1, h2⟩, by omega, h4⟩
  · rintro ⟨⟨_, h3, _⟩, ⟨_, _, h4⟩, _⟩; omega
/-! ### Lines of a copy -/
theorem flat_get2 {α : Type} {f : Nat → List α} {q m r : Nat} {x : α} (hq : q < m) (h : (f q)[r]? = some x) : ((List.range m).flatMap f)[((List.range q).flatMap f).length + r]? = some x := by
  obtain ⟨s, hs⟩ := range_split hq
  rw [hs, List.flatMap_append, List.flatMap_cons, List.getElem?_append_right (by omega), Nat.add_sub_cancel_left, List.getElem?_append_left (List.getElem?_eq_some_iff.1 h).1, h]
section
variable {rs : List Rd} {l : List ByteArray} {k n : Int} (hn : nextsB rs = true) (hf : ∀ r ∈ rs, r.1.1 = k → r.1.2.1 = n → fitR l r.1.2.2 r.2.1 r.2.2 = true) (hl : ∀ s ∈ l, wordB s = true)
include hn hf hl
theorem fit_word {r : Rd} (hr : r ∈ rs) (h1 : r.1.1 = k) (h2 : r.1.2.1 = n) : 0 ≤ r.1.2.2 ∧ (r.2.1 = 1 ∧ r.2.2.size = 0 ∨ r.2.1 = 2 ∧ wordB r.2.2 = true ∨ r.2.1 = 3 ∧ wordB r.2.2 = true) := by
  have _ := And.intro hn hl
  have h := hf r hr h1 h2
  unfold fitR at h
  split at h
  · simp only [inB, Bool.and_eq_true, decide_eq_true_eq] at h; exact ⟨by omega, .inl ⟨‹_›, h.2⟩⟩
  · split at h
    · simp only [inB, Bool.and_eq_true, decide_eq_true_eq] at h; exact ⟨by omega, .inr (.inl ⟨‹_›, h.2⟩)⟩
    · split at h
      · simp only [inB, Bool.and_eq_true, decide_eq_true_eq] at h; exact ⟨by omega, .inr (.inr ⟨‹_›, h.2.1⟩)⟩
      · cases h
/-- What a copy has for a word: what is put in, and the word, if it is not left out. -/
theorem wrd_shape {q : Nat} (hq : q < l.length) : ∃ own : ByteArray, own = (foldR l[q] (hereR (k, n, (q : Int)) rs)).2 ∧ (omN rs (k, n, (q : Int)) = 1 ∧ own.size = 0 ∧ (wrdS l rs k n q).length = putN rs (k, n, (q : Int)) ∧ (∃ r ∈ rs, r.1 = (k, n, (q : Int)) ∧ r.2.1 = 1) ∨ omN rs (k, n, (q : Int)) = 0 ∧ wordB own = true ∧ (wrdS l rs k n q).length = putN rs (k, n, (q : Int)) + 1 ∧ (wrdS l rs k n q)[putN rs (k, n, (q : Int))]? = some own ∧ ∀ r ∈ rs, ¬ (r.1 = (k, n, (q : Int)) ∧ r.2.1 = 1)) := by
  refine ⟨_, rfl, ?_⟩
  obtain ⟨h1, h2⟩ := own_of hn (k, n, (q : Int)) l[q]
  have hg : l.getD q ⟨#[]⟩ = l[q] := by rw [List.getD_eq_getElem?_getD, List.getElem?_eq_getElem hq, Option.getD_some]
  have hw : ∀ own, own = (foldR l[q] (hereR (k, n, (q : Int)) rs)).2 → wrdS l rs k n q = (foldR l[q] (hereR (k, n, (q : Int)) rs)).1 ++ if own.size = 0 then [] else [own] := fun own e => by
    subst e; simp only [wrdS, hg]
  have hnone : omN rs (k, n, (q : Int)) = 0 → ∀ r ∈ rs, ¬ (r.1 = (k, n, (q : Int)) ∧ r.2.1 = 1) := fun h r hr => by
    have := List.countP_eq_zero.1 h r hr
    simpa using this
  have key : ∀ own, own = (foldR l[q] (hereR (k, n, (q : Int)) rs)).2 → wordB own = true → omN rs (k, n, (q : Int)) = 0 → omN rs (k, n, (q : Int)) = 0 ∧ wordB own = true ∧ (wrdS l rs k n q).length = putN rs (k, n, (q : Int)) + 1 ∧ (wrdS l rs k n q)[putN rs (k, n, (q : Int))]? = some own ∧ ∀ r ∈ rs, ¬ (r.1 = (k, n, (q : Int)) ∧ r.2.1 = 1) := fun own e hb h0 => by
    have hsz : own.size ≠ 0 := fun e => by simp only [wordB, Bool.and_eq_true, decide_eq_true_eq] at hb; omega
    refine ⟨h0, hb, ?_, ?_, hnone h0⟩
    · rw [hw own e, if_neg hsz, List.length_append, h1]; rfl
    · rw [hw own e, if_neg hsz, ← h1, List.getElem?_append_right (Nat.le_refl _), Nat.sub_self]; rfl
  rcases h2 with ⟨h0, he, _⟩ | ⟨r, hr, hne, he, ho⟩
  · right
    exact key _ rfl (by rw [he]; exact hl _ (List.getElem_mem hq)) h0
  · obtain ⟨hr1, hr2⟩ := here_mem hr
    have hfw := fit_word hn hf hl hr1 (by rw [hr2]) (by rw [hr2])
    rcases hfw.2 with ⟨g1, g2⟩ | ⟨g1, g2⟩ | ⟨g1, g2⟩
    · left
      rw [if_pos g1] at ho
      refine ⟨ho, by rw [he]; exact g2, ?_, r, hr1, hr2, g1⟩
      rw [hw _ rfl, if_pos (by rw [he]; exact g2), List.append_nil, h1]
    · exact absurd g1 hne
    · right
      rw [if_neg (by omega)] at ho
      exact key _ rfl (by rw [he]; exact g2) ho
def preL (l : List ByteArray) (rs : List Rd) (k n : Int) (q : Nat) : Nat := ((List.range q).flatMap (wrdS l rs k n)).length
omit hn hf hl in
theorem preL_succ (q : Nat) : preL l rs k n (q + 1) = preL l rs k n q + (wrdS l rs k n q).length := by
  rw [preL, preL, List.range_succ, List.flatMap_append, List.length_append]; simp
theorem preL_eq (p : Pl) (hp1 : p.1 = k) (hp2 : p.2.1 = n) : ∀ q, q ≤ l.length → preL l rs k n q + cOm p rs q = q + cPut p rs q
  | 0, _ => by
    have z : ∀ (kd : Int), (rs.countP fun r => lnB p r && (decide (r.1.2.2 < ((0 : Nat) : Int)) && decide (r.2.1 = kd))) = 0 := fun kd => by
      rw [List.countP_eq_zero]
      intro r hr
      simp only [lnB, Bool.and_eq_true, decide_eq_true_eq, not_and]
      rintro ⟨e1, e2⟩ e3
      have := (fit_word hn hf hl hr (e1.trans hp1) (e2.trans hp2)).1
      omega
    simp only [preL, cOm, cPut, z]; rfl
  | q + 1, h => by
    have ih := preL_eq p hp1 hp2 q (by omega)
    rw [preL_succ, cOm_succ, cPut_succ, hp1, hp2]
    obtain ⟨own, _, h | h⟩ := wrd_shape hn hf hl (q := q) (by omega)
    · omega
    · omega
/-- A word that is not left out stands where it is moved to. -/
theorem moved_at {p : Pl} {w : Nat} (hp1 : p.1 = k) (hp2 : p.2.1 = n) (hp3 : p.2.2 = (w : Int)) (hw : w < l.length) :
    (moveR p rs p.2.2 = none ∧ (foldR l[w] (hereR p rs)).2.size = 0) ∨ ∃ j : Nat, moveR p rs p.2.2 = some (j : Int) ∧ wordB (foldR l[w] (hereR p rs)).2 = true ∧ (lineS l rs k n)[j]? = some (foldR l[w] (hereR p rs)).2 ∧ preL l rs k n w ≤ j ∧ j < preL l rs k n (w + 1) := by
  have hpe : p = (k, n, (w : Int)) := Prod.ext hp1 (Prod.ext hp2 hp3)
  obtain ⟨own, rfl, h | h⟩ := wrd_shape hn hf hl (q := w) hw
  · obtain ⟨h1, h2, h3, r, hr, hre, hr1⟩ := h
    left
    exact ⟨moveR_none ⟨r, hr, hre.trans hpe.symm, hr1⟩, by rw [hpe]; exact h2⟩
  · obtain ⟨h1, h2, h3, h4, h5⟩ := h
    right
    have hm := moveR_cnt hp3 (rs := rs) (q := p.2.2) fun r hr hc => h5 r hr ⟨hc.1.trans hpe, hc.2⟩
    have e1 := preL_eq hn hf hl p hp1 hp2 w (by omega)
    have e2 := cPut_succ p rs w
    rw [hp1, hp2] at e2
    have e3 := preL_succ (l := l) (rs := rs) (k := k) (n := n) w
    refine ⟨preL l rs k n w + putN rs (k, n, (w : Int)), ?_, by rw [hpe]; exact h2, ?_, by omega, by omega⟩
    · rw [hm]; congr 1; omega
    · rw [hpe, lineS]; exact flat_get2 (by omega) h4
end
end Go.Proofs.YtgnjjocafmofaaaGreatDoor

/- Plain law: the text of a copy is valid; where its words are. -/
namespace Go.Proofs.YtgnjjocafmofaaaGreatDoor
open Go.RowKit

theorem lineT_some {t : Tx} {p : Pl} {l : List ByteArray} (h : lineT t p = some l) : ∃ (k n : Nat) (hk : k < t.length) (hn : n < t[k].2.length), p.1 = (k : Int) ∧ p.2.1 = (n : Int) ∧ l = t[k].2[n] := by
  unfold lineT at h
  split at h
  · rename_i hc
    obtain ⟨x, hx, hxy⟩ := Option.bind_eq_some_iff.1 h
    obtain ⟨hk, rfl⟩ := List.getElem?_eq_some_iff.1 hx
    obtain ⟨hn, rfl⟩ := List.getElem?_eq_some_iff.1 hxy
    exact ⟨_, _, hk, hn, by omega, by omega, rfl⟩
  · cases h
theorem lineT_get {t : Tx} {k n : Nat} (hk : k < t.length) (hn : n < t[k].2.length) {p : Pl} (h1 : p.1 = (k : Int)) (h2 : p.2.1 = (n : Int)) : lineT t p = some t[k].2[n] := by
  rw [lineT, if_pos (by omega), h1, h2, Int.toNat_natCast, Int.toNat_natCast, List.getElem?_eq_getElem hk, Option.bind_some, List.getElem?_eq_getElem hn]
theorem placeB_some {t : Tx} {p : Pl} (h : placeB t p = true) : ∃ (k n q : Nat) (hk : k < t.length) (hn : n < t[k].2.length) (hq : q < t[k].2[n].length), p = ((k : Int), (n : Int), (q : Int)) ∧ wordT t p = t[k].2[n][q] := by
  obtain ⟨l, hl, q, hq, e⟩ := placeB_line h
  obtain ⟨k, n, hk, hn, h1, h2, rfl⟩ := lineT_some hl
  refine ⟨k, n, q, hk, hn, hq, Prod.ext h1 (Prod.ext h2 e), ?_⟩
  rw [wordT, hl, e, Int.toNat_natCast, Option.getD_some, List.getD_eq_getElem?_getD, List.getElem?_eq_getElem hq, Option.getD_some]
theorem placeB_getI {t : Tx} {k n q : Nat} (hk : k < t.length) (hn : n < t[k].2.length) (hq : q < t[k].2[n].length) : placeB t ((k : Int), (n : Int), (q : Int)) = true ∧ wordT t ((k : Int), (n : Int), (q : Int)) = t[k].2[n][q] := by
  have hl := lineT_get hk hn (p := ((k : Int), (n : Int), (q : Int))) rfl rfl
  constructor
  · rw [placeB, hl]; simp [inB]; omega
  · rw [wordT, hl, Int.toNat_natCast, Option.getD_some, List.getD_eq_getElem?_getD, List.getElem?_eq_getElem hq, Option.getD_some]
theorem readT_len (t : Tx) (rs : List Rd) : (readT t rs).length = t.length := by simp [readT]
theorem readT_getI {t : Tx} {rs : List Rd} {k : Nat} (hk : k < t.length) : (readT t rs)[k]'(by rw [readT_len]; exact hk) = readC rs k t[k] := by simp [readT]
theorem readC_len (rs : List Rd) (k : Nat) (x : Int × List (List ByteArray)) : (readC rs k x).2.length = x.2.length := by simp [readC]
theorem readC_get {rs : List Rd} {k n : Nat} {x : Int × List (List ByteArray)} (hn : n < x.2.length) : (readC rs k x).2[n]'(by rw [readC_len]; exact hn) = lineS x.2[n] rs k n := by simp [readC]
section
variable {t : Tx} {id : Int} {rs : List Rd} (ht : textB t = true) (hc : copyB t id rs = true)
include ht hc
theorem copy_facts : nextsB rs = true ∧ (∀ (k n : Nat) (hk : k < t.length) (hn : n < t[k].2.length), (∀ r ∈ rs, r.1.1 = (k : Int) → r.1.2.1 = (n : Int) → fitR t[k].2[n] r.1.2.2 r.2.1 r.2.2 = true) ∧ (∀ s ∈ t[k].2[n], wordB s = true) ∧ 1 ≤ (lineS t[k].2[n] rs k n).length ∧ (lineS t[k].2[n] rs k n).length ≤ 10) := by
  simp only [copyB, Bool.and_eq_true, List.all_eq_true] at hc
  obtain ⟨⟨_, h2, h3⟩, h4⟩ := hc
  refine ⟨h3, fun k n hk hn => ⟨fun r hr e1 e2 => ?_, fun s hs => ?_, ?_⟩⟩
  · have := h2 r hr
    rw [readB, lineT_get hk hn e1 e2] at this
    exact this
  · simp only [textB, Bool.and_eq_true, List.all_eq_true] at ht
    have h1 := ht.1.2 _ (List.getElem_mem hk)
    simp only [chapB, Bool.and_eq_true, List.all_eq_true] at h1
    have h2 := h1.2 _ (List.getElem_mem hn)
    simp only [lineB, Bool.and_eq_true, List.all_eq_true] at h2
    exact h2.2 s hs
  · simp only [lensB, List.all_eq_true] at h4
    have h5 := h4 _ (List.getElem_mem (show k < (readT t rs).length by rw [readT_len]; exact hk))
    rw [readT_getI hk] at h5
    have h6 := h5 _ (List.getElem_mem (show n < (readC rs k t[k]).2.length by rw [readC_len]; exact hn))
    rw [readC_get hn] at h6
    simp only [inB, decide_eq_true_eq] at h6
    omega
omit ht hc in
theorem fold_words {P : ByteArray → Prop} : ∀ {H : List Rd} {z : List ByteArray × ByteArray}, (∀ x ∈ z.1, P x) → (∀ r ∈ H, r.2.1 = 2 → P r.2.2) → ∀ x ∈ (H.foldl stepR z).1, P x
  | [], z, h, _ => h
  | r :: H, z, h, h2 => by
    rw [List.foldl_cons]
    refine fold_words ?_ fun y hy => h2 y (by simp [hy])
    unfold stepR
    split
    · rename_i e
      intro x hx
      rcases List.mem_append.1 hx with hx | hx
      · exact h x hx
      · rw [List.mem_singleton.1 hx]; exact h2 r (by simp) e
    · exact h
/-- Words of a copy's lines are words. -/
theorem line_words {k n : Nat} (hk : k < t.length) (hn : n < t[k].2.length) : ∀ s ∈ lineS t[k].2[n] rs k n, wordB s = true := by
  obtain ⟨c1, c2⟩ := copy_facts ht hc
  obtain ⟨c3, c4, _⟩ := c2 k n hk hn
  intro s hs
  obtain ⟨q, hq, hsq⟩ := List.mem_flatMap.1 hs
  rw [List.mem_range] at hq
  have hput : ∀ r ∈ hereR ((k : Int), (n : Int), (q : Int)) rs, r.2.1 = 2 → wordB r.2.2 = true := fun r hr e => by
    obtain ⟨h1, h2⟩ := here_mem hr
    have := (fit_word c1 c3 c4 h1 (by rw [h2]) (by rw [h2])).2
    rcases this with ⟨g, _⟩ | ⟨_, g⟩ | ⟨_, g⟩
    · omega
    · exact g
    · exact g
  simp only [wrdS] at hsq
  rcases List.mem_append.1 hsq with h | h
  · exact fold_words (P := fun s => wordB s = true) (by simp) hput s h
  · split at h
    · cases h
    · rename_i hne
      rw [List.mem_singleton.1 h]
      by_cases hq' : q < t[k].2[n].length
      · obtain ⟨own, he, h | h⟩ := wrd_shape c1 c3 c4 hq'
        · have hg : t[k].2[n].getD q ⟨#[]⟩ = t[k].2[n][q] := by rw [List.getD_eq_getElem?_getD, List.getElem?_eq_getElem hq', Option.getD_some]
          rw [hg, ← he] at hne; exact absurd h.2.1 hne
        · have hg : t[k].2[n].getD q ⟨#[]⟩ = t[k].2[n][q] := by rw [List.getD_eq_getElem?_getD, List.getElem?_eq_getElem hq', Option.getD_some]
          rw [hg, ← he]; exact h.2.1
      · have hg : t[k].2[n].getD q ⟨#[]⟩ = ⟨#[]⟩ := by rw [List.getD_eq_getElem?_getD, List.getElem?_eq_none (by omega)]; rfl
        rw [hg] at hne ⊢
        obtain ⟨_, h2⟩ := own_of c1 ((k : Int), (n : Int), (q : Int)) ⟨#[]⟩
        rcases h2 with ⟨_, he, _⟩ | ⟨r, hr, hr2, he, _⟩
        · rw [he] at hne; exact absurd rfl hne
        · obtain ⟨h1, h2⟩ := here_mem hr
          have := (fit_word c1 c3 c4 h1 (by rw [h2]) (by rw [h2])).2
          rw [he] at hne ⊢
          rcases this with ⟨_, g⟩ | ⟨g, _⟩ | ⟨_, g⟩
          · exact absurd g hne
          · exact absurd g hr2
          · exact g
theorem read_valid : textB (readT t rs) = true := by
  have ht0 := ht
  obtain ⟨c1, c2⟩ := copy_facts ht hc
  simp only [textB, Bool.and_eq_true, decide_eq_true_eq] at ht ⊢
  obtain ⟨⟨h1, h2⟩, h3⟩ := ht
  rw [List.all_eq_true] at h2
  refine ⟨⟨by rw [readT_len]; exact h1, ?_⟩, ?_⟩
  · rw [List.all_eq_true]
    intro x hx
    obtain ⟨k, hk, rfl⟩ := List.mem_iff_getElem.1 hx
    rw [readT_len] at hk
    rw [readT_getI hk]
    have h4 := h2 _ (List.getElem_mem hk)
    simp only [chapB, Bool.and_eq_true] at h4 ⊢
    refine ⟨⟨h4.1.1, by rw [readC_len]; exact h4.1.2⟩, ?_⟩
    rw [List.all_eq_true]
    intro y hy
    obtain ⟨n, hn, rfl⟩ := List.mem_iff_getElem.1 hy
    rw [readC_len] at hn
    rw [readC_get hn]
    obtain ⟨_, _, c5, c6⟩ := c2 k n hk hn
    simp only [lineB, Bool.and_eq_true, List.all_eq_true]
    exact ⟨by simp [inB]; omega, line_words ht0 hc hk hn⟩
  · have : (readT t rs).map (·.1) = t.map (·.1) := by
      refine List.ext_getElem (by simp [readT]) fun i h1 h2 => ?_
      simp [readT, readC]
    rw [this]; exact h3
/-- A word of a copy is where it is moved to. -/
theorem moved_law {p : Pl} (hp : placeB t p = true) : (standsB t rs p).size = 0 ∧ movedS t id rs p = ((0, 0, 0), 6) ∨
    ∃ (k n w j : Nat) (hk : k < t.length) (hn : n < t[k].2.length), p = ((k : Int), (n : Int), (w : Int)) ∧ movedS t id rs p = (((k : Int), (n : Int), (j : Int)), 0) ∧ wordB (standsB t rs p) = true ∧ placeB (readT t rs) ((k : Int), (n : Int), (j : Int)) = true ∧ wordT (readT t rs) ((k : Int), (n : Int), (j : Int)) = standsB t rs p ∧
      preL t[k].2[n] rs k n w ≤ j ∧ j < preL t[k].2[n] rs k n (w + 1) := by
  obtain ⟨c1, c2⟩ := copy_facts ht hc
  have he := cpE_yes ht hc
  obtain ⟨k, n, w, hk, hn, hw, rfl, hwt⟩ := placeB_some hp
  obtain ⟨c3, c4, _⟩ := c2 k n hk hn
  have hst := stands_own c1 t ((k : Int), (n : Int), (w : Int))
  rw [hwt] at hst
  rw [hst]
  rcases moved_at c1 c3 c4 (p := ((k : Int), (n : Int), (w : Int))) rfl rfl rfl hw with ⟨h1, h2⟩ | ⟨j, h1, h2, h3, h4, h5⟩
  · exact .inl ⟨h2, movedS_none he hp h1⟩
  · right
    obtain ⟨hj, hjg⟩ := List.getElem?_eq_some_iff.1 h3
    have hk' : k < (readT t rs).length := by rw [readT_len]; exact hk
    have e1 : (readT t rs)[k].2.length = t[k].2.length := by rw [readT_getI hk, readC_len]
    have hn' : n < (readT t rs)[k].2.length := by rw [e1]; exact hn
    have e2 : (readT t rs)[k].2[n] = lineS t[k].2[n] rs k n := by
      have h := readT_getI (rs := rs) hk
      simp only [h]
      exact readC_get hn
    have hj' : j < (readT t rs)[k].2[n].length := by rw [e2]; exact hj
    obtain ⟨g1, g2⟩ := placeB_getI hk' hn' hj'
    refine ⟨k, n, w, j, hk, hn, rfl, movedS_some he hp h1, h2, g1, ?_, h4, h5⟩
    rw [g2, ← hjg]
    simp only [e2]
/-- A chapter without readings is as the base's. -/
theorem read_same {k : Nat} (hk : k < t.length) (hno : ∀ r ∈ rs, r.1.1 ≠ (k : Int)) : (readT t rs)[k]'(by rw [readT_len]; exact hk) = t[k] := by
  obtain ⟨c1, c2⟩ := copy_facts ht hc
  rw [readT_getI hk]
  refine Prod.ext rfl ?_
  refine List.ext_getElem (readC_len _ _ _) fun n h1 h2 => ?_
  rw [readC_get h2]
  obtain ⟨_, c4, _⟩ := c2 k n hk h2
  have hz : ∀ q : Nat, hereR ((k : Int), (n : Int), (q : Int)) rs = [] := fun q => by
    rw [hereR, List.filter_eq_nil_iff]
    intro r hr
    simp only [decide_eq_true_eq]
    intro e; exact hno r hr (by rw [e])
  generalize t[k].2[n] = l at *
  have hw : ∀ q, wrdS l rs k n q = if (l.getD q ⟨#[]⟩).size = 0 then [] else [l.getD q ⟨#[]⟩] := fun q => by simp only [wrdS, hz]; rfl
  have hpre : ∀ m, m ≤ l.length → (List.range m).flatMap (wrdS l rs k n) = l.take m := by
    intro m
    induction m with
    | zero => intro _; simp
    | succ m ih =>
      intro hm
      have hg : l.getD m ⟨#[]⟩ = l[m] := by rw [List.getD_eq_getElem?_getD, List.getElem?_eq_getElem (by omega), Option.getD_some]
      have := word_size (c4 _ (List.getElem_mem (show m < l.length by omega)))
      rw [List.range_succ, List.flatMap_append, ih (by omega), take_snoc_get (List.getElem?_eq_getElem (show m < l.length by omega))]
      simp only [List.flatMap_cons, List.flatMap_nil, List.append_nil, hw, hg, if_neg (show ¬ l[m].size = 0 by omega)]
  have hlast : l.getD l.length ⟨#[]⟩ = ⟨#[]⟩ := by rw [List.getD_eq_getElem?_getD, List.getElem?_eq_none (Nat.le_refl _)]; rfl
  rw [lineS, List.range_succ, List.flatMap_append, hpre _ (Nat.le_refl _), List.take_length]
  simp only [List.flatMap_cons, List.flatMap_nil, List.append_nil, hw, hlast]
  rw [if_pos (show (⟨#[]⟩ : ByteArray).size = 0 from rfl), List.append_nil]
omit ht hc in
theorem moveR_same {p : Pl} : ∀ {rs : List Rd} {q : Int}, (∀ r ∈ rs, r.1.1 ≠ p.1) → moveR p rs q = some q
  | [], _, _ => rfl
  | r :: rs, q, h => by rw [moveR, if_pos (.inl (h r (by simp))), moveR_same fun x hx => h x (by simp [hx])]
/-- Its slips are the same. -/
theorem make_same {k : Nat} (hk : k < t.length) (hno : ∀ r ∈ rs, r.1.1 ≠ (k : Int)) {p : Pl} (hp : p.1 = (k : Int)) (side wd : Int) : makeF (readT t rs) side wd p = makeF t side wd p := by
  have hk' : k < (readT t rs).length := by rw [readT_len]; exact hk
  have e : wsT (readT t rs) k = wsT t k := by
    rw [wsT, wsT, List.getD_eq_getElem?_getD, List.getD_eq_getElem?_getD, List.getElem?_eq_getElem hk, List.getElem?_eq_getElem hk', Option.getD_some, Option.getD_some, read_same ht hc hk hno]
  rw [makeF_in hk' hp, makeF_in hk hp, e]
end
end Go.Proofs.YtgnjjocafmofaaaGreatDoor

/- leaf: Read. -/
namespace Go.Proofs.YtgnjjocafmofaaaGreatDoor
open Go.RowKit

theorem small_of_text {cs : List Ch} (h : textB (txF cs) = true) : SmallT cs := by
  simp only [textB, Bool.and_eq_true, List.all_eq_true] at h
  obtain ⟨⟨h1, h2⟩, _⟩ := h
  simp only [inB, Bool.and_eq_true, decide_eq_true_eq, txF_len] at h1
  refine ⟨by omega, fun x hx => ?_⟩
  have hc := h2 (txC x) (List.mem_map.2 ⟨x, hx, rfl⟩)
  simp only [chapB, Bool.and_eq_true, List.all_eq_true] at hc
  obtain ⟨⟨_, h3⟩, h4⟩ := hc
  simp only [inB, Bool.and_eq_true, decide_eq_true_eq, List.length_map] at h3
  refine ⟨by omega, fun y hy => ?_⟩
  have hl := h4 y.2.2 (List.mem_map.2 ⟨y, hy, rfl⟩)
  simp only [lineB, Bool.and_eq_true, List.all_eq_true] at hl
  obtain ⟨h5, h6⟩ := hl
  simp only [inB, Bool.and_eq_true, decide_eq_true_eq] at h5
  refine ⟨by omega, fun s hs => ?_⟩
  have := (word_size (h6 s hs)).2
  omega
theorem good_of_copy {t : Tx} {id : Int} {rs : List Rd} (h : copyB t id rs = true) : GoodR rs := by
  simp only [copyB, Bool.and_eq_true, List.all_eq_true, decide_eq_true_eq] at h
  obtain ⟨⟨⟨_, hl⟩, hr, hn⟩, _⟩ := h
  exact ⟨by omega, hn, fun r h => (readB_kind (hr r h)).1, fun r h => (readB_kind (hr r h)).2.1, fun r h => (readB_kind (hr r h)).2.2⟩
set_option maxHeartbeats 2000000 in
theorem Read_leaf (a : Option Addr) (c : Nat) (cs : List Ch) (w : World) [hrow : RowI w (.slice a cs.length c) true 2 (cs.map encCh)] [hT : TextI w cs] [hg : At w 0 0 kindsC] (id : Int) (ra : Option Addr) (rc : Nat) (rs : List Rd) (hs : SmallT cs) (hrs : SmallR rs) (hc : cpE (txF cs) id rs = 0)
    [hrd : RowI w (.slice ra rs.length rc) true 5 (rs.map encRd)] :
    Ct Tryz.prog 51 [.agg #[.slice a cs.length c], .agg #[.int .i64 id, .slice ra rs.length rc]] w fun v w' => ∃ a' c' ds, v = .tuple #[.agg #[.slice a' (List.length ds) c'], .int .i64 0] ∧ txF ds = readT (txF cs) rs ∧ RowV w' true 2 (.slice a' ds.length c') (ds.map encCh) ∧ TextI w' ds := by
  obtain ⟨ht, hcp⟩ := cpE_zero hc
  refine Ct.ofW (by simp) ?_
  (refine jjB ?_; refine jjC ?_)
  (refine jy rfl ?_; intro b2 w_b2 hb_b2 hs_b2 hS_b2 hk_b2; have hA_b2 := At.ofBlock hk_b2)
  skip
  (refine jy rfl ?_; intro b3 w_b3 hb_b3 hs_b3 hS_b3 hk_b3; have hA_b3 := At.ofBlock hk_b3)
  ((skip); refine jjY ?_; intro b4 w_b4 hb_b4 hs_b4 hS_b4 hk_b4; have hA_b4 := Bk.of hk_b4)
  (apply jJ; exact eI rfl; refine jz ?_; refine jjB ?_; refine jjC ?_; refine jO rfl rfl rfl rfl ?_; refine jO rfl rfl rfl rfl ?_)
  refine jjQ ((copied_leaf a c cs _ id ra rc rs hs hrs).mono fun v _ _ h => by rw [hc] at h; exact h) rfl rfl ?_
  rintro _ w5 hS5 ⟨o, rfl, ho⟩
  obtain ⟨bk, rfl, hAk⟩ := ho rfl
  (apply jI; exact eU rfl; refine ju rfl rfl ?_; refine ju rfl rfl ?_; apply jJ; exact eP rfl; apply jJ; exact eI rfl; refine jz ?_; refine jjB ?_; refine jjB ?_; refine jjC ?_; apply jI; exact eI rfl; refine jjk rfl rfl (by omega) ?_; refine jz ?_; refine jjK rfl ?_; refine jjG ?_; refine jjB ?_; refine jjC ?_; apply jI; exact eP rfl; refine jO rfl rfl rfl rfl ?_)
  have hE5 : Ext w w5 := inferInstance
  have zE5 := hE5.size
  have z2 := hS_b2.size
  have z3 := hS_b3.size
  have hB4 : Bk w5 b4 [.slice none 0 0] 24 := inferInstance
  refine jjQ (read_leaf a c cs _ bk id ra rc rs hs (good_of_copy hcp)) rfl rfl ?_
  rintro _ w6 hS6 ⟨a', c', ds, rfl, htx, hO⟩
  skip
  have hB46 : Bk w6 b4 [.slice none 0 0] 24 := inferInstance
  have hE6 : Ext w w6 := inferInstance
  refine Ops.store rfl rfl rfl rfl rfl ?_
  intro V2 hp2
  have hl4 := hB4.lt
  have hO2 := hO.put hp2 (by omega)
  have hA4 : At V2 b4 0 [.slice a' (ds.map encCh).length c'] := Bk.toAt (h := Bk.of hp2.new)
  (apply jJ; exact eI rfl; refine jz ?_; refine jjF ?_)
  have hr := hO2.out.row
  rw [List.length_map] at hr
  exact fin2C rfl rfl rfl rfl rfl rfl ⟨hp2.ext hE6 (by omega), a', c', ds, by rw [List.length_map]; rfl, htx, hr, hO2.text⟩
end Go.Proofs.YtgnjjocafmofaaaGreatDoor

/- ready, width, place: what the laws ask first. -/
namespace Go.Proofs.YtgnjjocafmofaaaGreatDoor
open Go.RowKit

def readyB (t : Tx) (wd side : Int) : Bool := !greatT t && (textB t && cutB wd side)
theorem readyB_yes {t : Tx} {wd side : Int} (h : readyB t wd side = true) : greatT t = false ∧ textB t = true ∧ cutB wd side = true := by
  simpa [readyB] using h
section
variable (a : Option Addr) (c : Nat) (cs : List Ch) (wd side : Int) (w : World) [hrow : RowI w (.slice a cs.length c) true 2 (cs.map encCh)] [hT : TextI w cs]
set_option maxHeartbeats 2000000 in
theorem ready_law3 (hd : 0 ≤ side ∧ side ≤ 255) : Ct Tryz.prog 38 [.agg #[.slice a cs.length c], encCut wd side] w fun v _ => v = .bool (readyB (txF cs) wd side) := by
  refine Ct.ofW (by simp) ?_
  (refine jjB ?_; refine jjC ?_)
  (refine jy rfl ?_; intro b2 w_b2 hb_b2 hs_b2 hS_b2 hk_b2; have hA_b2 := At.ofBlock hk_b2)
  skip
  (refine jy rfl ?_; intro b3 w_b3 hb_b3 hs_b3 hS_b3 hk_b3; have hA_b3 := At.ofBlock hk_b3)
  (apply jJ; exact eB rfl; refine jz ?_; refine jjB ?_; refine jjC ?_; refine jO rfl rfl rfl rfl ?_)
  obtain ⟨G, hG⟩ : ∃ G, greatT (txF cs) = G := ⟨_, rfl⟩
  refine jjQ ((Great_ref1 a c cs _).mono fun v _ _ h => h.trans (by rw [hG])) rfl rfl ?_
  rintro _ w2 hS2 rfl
  rw [readyB, hG]
  cases G with
  | true =>
    (refine jp rfl ?_; apply jI; exact eB rfl; refine jU rfl rfl rfl rfl ?_; refine jU rfl rfl rfl rfl ?_; apply jL rfl; exact eB rfl; apply jI; exact eB rfl; refine jU rfl rfl rfl rfl ?_; refine jU rfl rfl rfl rfl ?_; apply jL rfl; exact eB rfl; apply jJ; exact eB rfl; refine jz ?_; refine jjF ?_; refine jB rfl rfl ⟨inferInstance, ?_⟩)
    exact rfl
  | false =>
  have hs := small_of_great hG
  obtain ⟨T, hTT⟩ : ∃ T, textB (txF cs) = T := ⟨_, rfl⟩
  (refine jq rfl ?_; apply jI; exact eB rfl; refine jT rfl rfl rfl ?_; refine jO rfl rfl rfl rfl ?_; refine jT rfl rfl rfl ?_)
  refine jjQ ((Text_ref1 a c cs _ hs).mono fun v _ _ h => h.trans (by rw [hTT])) rfl rfl ?_
  rintro _ w3 hS3 rfl
  rw [hTT]
  cases T with
  | false =>
    (apply jK rfl; exact eB rfl; apply jI; exact eB rfl; refine jU rfl rfl rfl rfl ?_; refine jU rfl rfl rfl rfl ?_; apply jL rfl; exact eB rfl; apply jJ; exact eB rfl; refine jz ?_; refine jjF ?_; refine jB rfl rfl ⟨inferInstance, ?_⟩)
    exact rfl
  | true =>
  (apply jK rfl; exact eB rfl; apply jI; exact eB rfl; refine jT rfl rfl rfl ?_; refine jO rfl rfl rfl rfl ?_; refine jT rfl rfl rfl ?_)
  refine jjQ (Cut_ref3 wd side hd _) rfl rfl ?_
  rintro _ w4 hS4 rfl
  (apply jK rfl; exact eB rfl; apply jJ; exact eB rfl; refine jz ?_; refine jjF ?_; refine jB rfl rfl ⟨inferInstance, ?_⟩)
  exact rfl
end
end Go.Proofs.YtgnjjocafmofaaaGreatDoor

/- The reference: SameCopy; a reading. -/
namespace Go.Proofs.YtgnjjocafmofaaaGreatDoor
open Go.RowKit

theorem eqIn_rd {P : Program} {t bytes : Nat} {z : Value} {d0 : TypeDesc} {f0 f1 f2 : Field} (hu : P.underlying t = some (.struct #[f0, f1, f2])) (h0 : f0.name ≠ "_") (h0' : f0.offset = 0) (h1 : f1.name ≠ "_") (h1' : f1.offset = 3) (h2 : f2.name ≠ "_") (h2' : f2.offset = 4)
    (u0 : TU P f0.type d0) (hag : TypeDesc.isAgg d0 = true) (hz : TS P f0.type z 3 bytes) (u1 : TU P f1.type (.int .u8)) (u2 : TU P f2.type .string) (hp : P.stoodInHeld t = false)
    (hpl : ∀ (w : World) (d : Nat) (a b : Pl), (Op.equalIn (d + 2) f0.type (encPl a) (encPl b)).run P w = .ok (decide (a = b)) w) (w : World) (d : Nat) (a b : Rd) : (Op.equalIn (d + 3) t (encRd a) (encRd b)).run P w = .ok (decide (a = b)) w := by
  have hf : P.fieldsOf t = #[f0, f1, f2] := by simp [Program.fieldsOf, hu]
  have ht : P.underlying t = some (.struct (P.fieldsOf t)) := by rw [hf]; exact hu
  rw [run_equalIn_struct w (d + 2) t _ _ ht hp, hf]
  obtain ⟨a1, a2, a3⟩ := a
  obtain ⟨b1, b2, b3⟩ := b
  have e1 : (Op.equalIn (d + 1 + 1) f1.type (.int .u8 a2) (.int .u8 b2)).run P w = .ok (decide (a2 = b2)) w := by
    rw [run_equalIn_int w (d + 1) f1.type .u8 .u8 a2 b2 u1.h]
    congr 1
  rw [eqFields_cons h0 (part_agg (xs := #[.int .i64 a1.1, .int .i64 a1.2.1, .int .i64 a1.2.2]) u0 hag hz (by rw [h0']; rfl)) (part_agg (xs := #[.int .i64 b1.1, .int .i64 b1.2.1, .int .i64 b1.2.2]) u0 hag hz (by rw [h0']; rfl)) (hpl w d a1 b1)]
  by_cases c0 : a1 = b1
  · rw [decide_eq_true c0, if_pos rfl, eqFields_cons h1 (part_cell u1 rfl (by rw [h1']; rfl)) (part_cell u1 rfl (by rw [h1']; rfl)) e1]
    by_cases c1 : a2 = b2
    · rw [decide_eq_true c1, if_pos rfl, eqFields_cons h2 (part_cell u2 rfl (by rw [h2']; rfl)) (part_cell u2 rfl (by rw [h2']; rfl)) (eqStr w (d + 1) u2 a3 b3)]
      by_cases c2 : a3 = b3
      · simp [c0, c1, c2, Op.eqFields]
      · simp [c2]
    · simp [c1]
  · simp [c0]
theorem eqT_rd {P : Program} {t : Nat} (h : ∀ (w : World) (d : Nat) (a b : Rd), (Op.equalIn (d + 3) t (encRd a) (encRd b)).run P w = .ok (decide (a = b)) w) (hg : P.eqGuardType P.depth t = false) : EqT P t encRd where
  eq w a b := h w 9997 a b
  guard op x y w a b := by
    cases op <;> simp [encRd, eqGuard, hg]
  kind a b := ⟨fun w => by simp [encRd, binOp], fun w => by simp [encRd, binOp]⟩
instance : EqT Tryz.prog 99 encRd := eqT_rd (eqIn_rd Tryz.underlying99 (by decide) rfl (by decide) rfl (by decide) rfl tu43 rfl ts43 tu5 tu9 (by kernel_rfl) eqIn_place) (by kernel_rfl)
set_option maxHeartbeats 4000000 in
theorem reading_ref1 (a : Option Addr) (c : Nat) (cs : List Ch) (w : World) [hrow : RowI w (.slice a cs.length c) true 2 (cs.map encCh)] [hT : TextI w cs] (r : Rd) (hs : SmallT cs) (hw : r.2.2.size ≤ 1000) : Ct Tryz.prog 92 [.agg #[.slice a cs.length c], encRd r] w fun v _ => v = .bool (readB (txF cs) r) := by
  refine Ct.ofW (by simp) ?_
  (refine jjB ?_; refine jjC ?_)
  (refine jy rfl ?_; intro b2 w_b2 hb_b2 hs_b2 hS_b2 hk_b2; have hA_b2 := At.ofBlock hk_b2)
  skip
  (refine jy rfl ?_; intro b3 w_b3 hb_b3 hs_b3 hS_b3 hk_b3; have hA_b3 := At.ofBlock hk_b3)
  (apply jJ; exact eB rfl; refine jz ?_; refine jjB ?_; refine jjC ?_; refine jO rfl rfl rfl rfl ?_; refine jm ?_; refine jn rfl ?_; refine jO rfl rfl rfl rfl ?_)
  have hz : ∃ o, lineC cs r.1 = o := ⟨_, rfl⟩
  obtain ⟨o, ho⟩ := hz
  cases o with
  | none =>
    refine jjQ ((line_ref1 a c cs _ r.1 hs).mono fun v _ _ h => h.trans (by rw [ho])) rfl rfl ?_
    rintro _ w2 hS2 rfl
    have hno : readB (txF cs) r = false := by rw [readB, lineC_T, ho]; rfl
    (apply jI; exact eU rfl; refine ju rfl rfl ?_; refine ju rfl rfl ?_; apply jJ; exact eS rfl; apply jJ; exact eB rfl; refine jz ?_; refine jjB ?_; refine jjB ?_; refine jjC ?_; apply jI; exact eB rfl; refine jq rfl ?_; refine jz ?_; refine jjJ rfl ?_; refine jjB ?_; refine jjC ?_; apply jJ; exact eB rfl; refine jz ?_; refine jjF ?_; refine jB rfl rfl ⟨inferInstance, ?_⟩)
    rw [hno]; exact rfl
  | some y =>
  obtain ⟨ya, yc, yl⟩ := y
  have hcall : Ct Tryz.prog 87 [.agg #[.slice a cs.length c], encPl r.1] w_b3 fun v _ => v = .tuple #[.slice ya yl.length yc, .bool true] := (line_ref1 a c cs _ r.1 hs).mono fun v _ _ h => h.trans (by rw [ho])
  refine jjQ hcall rfl rfl ?_
  rintro _ w2 hS2 rfl
  have hrb : readB (txF cs) r = fitR yl r.1.2.2 r.2.1 r.2.2 := by rw [readB, lineC_T, ho]; rfl
  have hE2 : Ext w w2 := inferInstance
  have hz := lineC_mem ho
  obtain ⟨x, hx, hy⟩ := hz
  have hyl : yl.length ≤ 1000 := ((hs.2 x hx).2 _ hy).1
  have hyrow : RowV w2 false 1 (.slice ya yl.length yc) (yl.map strV) := (hT.words x hx _ hy).ext hE2
  by_cases k1 : r.2.1 = 1
  · have hz : ∃ B, inB 0 ((yl.length : Int) - 1) r.1.2.2 = B := ⟨_, rfl⟩
    obtain ⟨B, hB⟩ := hz
    (apply jI; exact eU rfl; refine ju rfl rfl ?_; refine ju rfl rfl ?_; apply jJ; exact eS rfl; apply jJ; exact eB rfl; refine jz ?_; refine jjB ?_; refine jjB ?_; refine jjC ?_; apply jI; exact eB rfl; refine jp rfl ?_; refine jz ?_; refine jjK rfl ?_; refine jjG ?_; refine jjB ?_; refine jjB ?_; refine jjC ?_; refine jm ?_; refine jn rfl ?_; refine jN rfl rfl rfl ?_; refine jz ?_; refine jjD ?_; refine jjB ?_; refine jjC ?_; refine jjh rfl rfl (by omega) ?_; apply jJ; exact eB rfl; refine jz ?_; refine jjJ rfl ?_; refine jjB ?_; refine jjC ?_; refine jm ?_; refine jn rfl ?_; refine jm ?_; refine jn rfl ?_; refine jN rfl rfl rfl ?_; apply jI; exact eS rfl; refine jh rfl ?_; refine jZ rfl rfl (by omega) ?_)
    refine jjQ ((within_postilref01 r.1.2.2 0 ((yl.length : Int) - 1) _).mono fun v _ _ h => h.trans (by rw [hB])) rfl rfl ?_
    rintro _ w3 hS3 rfl
    cases B
    · (apply jI; exact eB rfl; refine jU rfl rfl rfl rfl ?_; refine jU rfl rfl rfl rfl ?_; refine jU rfl rfl rfl rfl ?_; apply jL rfl; exact eB rfl; apply jJ; exact eB rfl; refine jz ?_; refine jjF ?_; refine jB rfl rfl ⟨inferInstance, ?_⟩)
      rw [hrb, fitR, if_pos k1, hB]; exact rfl
    · (apply jI; exact eB rfl; refine jT rfl rfl rfl ?_; refine jm ?_; refine jn rfl ?_; refine jT rfl rfl rfl ?_; refine jN rfl rfl rfl ?_; refine jT rfl rfl rfl ?_)
      refine Ops.eqlS rfl rfl ?_
      (apply jK rfl; exact eB rfl; apply jJ; exact eB rfl; refine jz ?_; refine jjF ?_; refine jB rfl rfl ⟨inferInstance, ?_⟩)
      rw [hrb, fitR, if_pos k1, hB, ← decide_str]; exact rfl
  by_cases k2 : r.2.1 = 2
  · have hz : ∃ B, inB 0 (yl.length : Int) r.1.2.2 = B := ⟨_, rfl⟩
    obtain ⟨B, hB⟩ := hz
    (apply jI; exact eU rfl; refine ju rfl rfl ?_; refine ju rfl rfl ?_; apply jJ; exact eS rfl; apply jJ; exact eB rfl; refine jz ?_; refine jjB ?_; refine jjB ?_; refine jjC ?_; apply jI; exact eB rfl; refine jp rfl ?_; refine jz ?_; refine jjK rfl ?_; refine jjG ?_; refine jjB ?_; refine jjB ?_; refine jjC ?_; refine jm ?_; refine jn rfl ?_; refine jN rfl rfl rfl ?_; refine jz ?_; refine jjD ?_; refine jjB ?_; refine jjC ?_; refine jji rfl rfl (by omega) ?_; apply jJ; exact eB rfl; refine jz ?_; refine jjK rfl ?_; refine jjB ?_; refine jjC ?_; refine jjh rfl rfl (by omega) ?_; apply jJ; exact eB rfl; refine jz ?_; refine jjJ rfl ?_; refine jjB ?_; refine jjC ?_; refine jm ?_; refine jn rfl ?_; refine jm ?_; refine jn rfl ?_; refine jN rfl rfl rfl ?_; apply jI; exact eS rfl; refine jh rfl ?_)
    refine jjQ ((within_postilref01 r.1.2.2 0 (yl.length : Int) _).mono fun v _ _ h => h.trans (by rw [hB])) rfl rfl ?_
    rintro _ w3 hS3 rfl
    cases B
    · (apply jI; exact eB rfl; refine jU rfl rfl rfl rfl ?_; refine jU rfl rfl rfl rfl ?_; refine jU rfl rfl rfl rfl ?_; apply jL rfl; exact eB rfl; apply jJ; exact eB rfl; refine jz ?_; refine jjF ?_; refine jB rfl rfl ⟨inferInstance, ?_⟩)
      rw [hrb, fitR, if_neg k1, if_pos k2, hB]; exact rfl
    · (apply jI; exact eB rfl; refine jT rfl rfl rfl ?_; refine jm ?_; refine jn rfl ?_; refine jT rfl rfl rfl ?_; refine jN rfl rfl rfl ?_; refine jT rfl rfl rfl ?_)
      refine jjQ (Word_ref r.2.2 _ (by omega)) rfl rfl ?_
      rintro _ w4 hS4 rfl
      (apply jK rfl; exact eB rfl; apply jJ; exact eB rfl; refine jz ?_; refine jjF ?_; refine jB rfl rfl ⟨inferInstance, ?_⟩)
      rw [hrb, fitR, if_neg k1, if_pos k2, hB]; exact rfl
  by_cases k3 : r.2.1 = 3
  rotate_left
  · (apply jI; exact eU rfl; refine ju rfl rfl ?_; refine ju rfl rfl ?_; apply jJ; exact eS rfl; apply jJ; exact eB rfl; refine jz ?_; refine jjB ?_; refine jjB ?_; refine jjC ?_; apply jI; exact eB rfl; refine jp rfl ?_; refine jz ?_; refine jjK rfl ?_; refine jjG ?_; refine jjB ?_; refine jjB ?_; refine jjC ?_; refine jm ?_; refine jn rfl ?_; refine jN rfl rfl rfl ?_; refine jz ?_; refine jjD ?_; refine jjB ?_; refine jjC ?_; refine jji rfl rfl (by omega) ?_; apply jJ; exact eB rfl; refine jz ?_; refine jjK rfl ?_; refine jjB ?_; refine jjC ?_; refine jji rfl rfl (by omega) ?_; apply jJ; exact eB rfl; refine jz ?_; refine jjK rfl ?_; refine jjB ?_; refine jjC ?_; refine jji rfl rfl (by omega) ?_; apply jJ; exact eB rfl; refine jz ?_; refine jjK rfl ?_; refine jjG ?_; refine jjB ?_; refine jjC ?_; apply jJ; exact eB rfl; refine jz ?_; refine jjF ?_; refine jB rfl rfl ⟨inferInstance, ?_⟩)
    rw [hrb, fitR, if_neg k1, if_neg k2, if_neg k3]; exact rfl
  rw [fitR, if_neg k1, if_neg k2, if_pos k3] at hrb
  have hz : ∃ B, inB 0 ((yl.length : Int) - 1) r.1.2.2 = B := ⟨_, rfl⟩
  obtain ⟨B, hB⟩ := hz
  rw [hB] at hrb
  (apply jI; exact eU rfl; refine ju rfl rfl ?_; refine ju rfl rfl ?_; apply jJ; exact eS rfl; apply jJ; exact eB rfl; refine jz ?_; refine jjB ?_; refine jjB ?_; refine jjC ?_; apply jI; exact eB rfl; refine jp rfl ?_; refine jz ?_; refine jjK rfl ?_; refine jjG ?_; refine jjB ?_; refine jjB ?_; refine jjC ?_; refine jm ?_; refine jn rfl ?_; refine jN rfl rfl rfl ?_; refine jz ?_; refine jjD ?_; refine jjB ?_; refine jjC ?_; refine jji rfl rfl (by omega) ?_; apply jJ; exact eB rfl; refine jz ?_; refine jjK rfl ?_; refine jjB ?_; refine jjC ?_; refine jji rfl rfl (by omega) ?_; apply jJ; exact eB rfl; refine jz ?_; refine jjK rfl ?_; refine jjB ?_; refine jjC ?_; refine jjh rfl rfl (by omega) ?_; apply jJ; exact eB rfl; refine jz ?_; refine jjJ rfl ?_; refine jjB ?_)
  refine W.draw (fun w' => Ext w2 w') ?_
  intro w1 hS1
  have x1 := hS1.ext
  (refine jjV [0, 1, 2, 3, 4, 5] ?_ ?_ ?_; (decide +kernel); (exact x1); (((apply jjT; exact rfl; rintro w' hq; have := hq.toStep; refine jm ?_; refine jn rfl ?_; refine jz ?_; exact ⟨rfl, rfl⟩; apply jjT; exact rfl; rintro w' hq; have := hq.toStep; refine jm ?_; refine jn rfl ?_; refine jz ?_; exact ⟨rfl, rfl⟩; apply jjT; exact rfl; rintro w' hq; have := hq.toStep; refine jN rfl rfl rfl ?_; refine jz ?_; exact ⟨rfl, rfl⟩; apply jjT; exact rfl; rintro w' hq; have := hq.toStep; apply jI; exact eS rfl; refine jz ?_; exact ⟨rfl, rfl⟩; apply jjT; exact rfl; rintro w' hq; have := hq.toStep; refine jh rfl ?_; refine jz ?_; exact ⟨rfl, rfl⟩; apply jjT; exact rfl; rintro w' hq; have := hq.toStep; refine jZ rfl rfl (by omega) ?_; refine jz ?_; exact ⟨rfl, rfl⟩; refine jjU ?_))))
  (apply jjW 6; (decide +kernel); exact rfl; (exact x1))
  refine jjQ ((within_postilref01 r.1.2.2 0 ((yl.length : Int) - 1) _).mono fun v _ _ h => h.trans (by rw [hB])) rfl rfl ?_
  rintro _ w3 hS3 rfl
  refine jz ?_
  have x2 := x1.trans hS3.ext
  cases B
  · (refine jjV [7, 8, 9, 10, 11, 12, 13, 14, 15, 16, 17, 18, 19, 20, 21, 22, 23] ?_ ?_ ?_; (decide +kernel); (exact x2); (((apply jjT; exact rfl; rintro w' hq; have := hq.toStep; apply jI; exact eB rfl; refine jz ?_; exact ⟨rfl, rfl⟩; apply jjT; exact rfl; rintro w' hq; have := hq.toStep; refine jU rfl rfl rfl rfl ?_; refine jz ?_; exact ⟨rfl, rfl⟩; apply jjT; exact rfl; rintro w' hq; have := hq.toStep; refine jU rfl rfl rfl rfl ?_; refine jz ?_; exact ⟨rfl, rfl⟩; apply jjT; exact rfl; rintro w' hq; have := hq.toStep; refine jU rfl rfl rfl rfl ?_; refine jz ?_; exact ⟨rfl, rfl⟩; apply jjT; exact rfl; rintro w' hq; have := hq.toStep; apply jL rfl; exact eB rfl; refine jz ?_; exact ⟨rfl, rfl⟩; apply jjT; exact rfl; rintro w' hq; have := hq.toStep; apply jI; exact eB rfl; refine jz ?_; exact ⟨rfl, rfl⟩; apply jjT; exact rfl; rintro w' hq; have := hq.toStep; refine jU rfl rfl rfl rfl ?_; refine jz ?_; exact ⟨rfl, rfl⟩; apply jjT; exact rfl; rintro w' hq; have := hq.toStep; refine jU rfl rfl rfl rfl ?_; refine jz ?_; exact ⟨rfl, rfl⟩; apply jjT; exact rfl; rintro w' hq; have := hq.toStep; refine jU rfl rfl rfl rfl ?_; refine jz ?_; exact ⟨rfl, rfl⟩; apply jjT; exact rfl; rintro w' hq; have := hq.toStep; refine jU rfl rfl rfl rfl ?_; refine jz ?_; exact ⟨rfl, rfl⟩; apply jjT; exact rfl; rintro w' hq; have := hq.toStep; refine jU rfl rfl rfl rfl ?_; refine jz ?_; exact ⟨rfl, rfl⟩; apply jjT; exact rfl; rintro w' hq; have := hq.toStep; refine jU rfl rfl rfl rfl ?_; refine jz ?_; exact ⟨rfl, rfl⟩; apply jjT; exact rfl; rintro w' hq; have := hq.toStep; refine jU rfl rfl rfl rfl ?_; refine jz ?_; exact ⟨rfl, rfl⟩; apply jjT; exact rfl; rintro w' hq; have := hq.toStep; refine jU rfl rfl rfl rfl ?_; refine jz ?_; exact ⟨rfl, rfl⟩; apply jjT; exact rfl; rintro w' hq; have := hq.toStep; refine jU rfl rfl rfl rfl ?_; refine jz ?_; exact ⟨rfl, rfl⟩; apply jjT; exact rfl; rintro w' hq; have := hq.toStep; apply jL rfl; exact eB rfl; refine jz ?_; exact ⟨rfl, rfl⟩; apply jjT; exact rfl; rintro w' hq; have := hq.toStep; apply jJ; exact eB rfl; refine jz ?_; exact ⟨rfl, rfl⟩; refine jjU ?_))))
    refine jjX (by decide +kernel) x2 ?_
    have := x2.toStep
    (refine jjF ?_; refine jB rfl rfl ⟨inferInstance, ?_⟩)
    rw [hrb]; exact rfl
  have hq : ∃ q : Nat, q < yl.length ∧ r.1.2.2 = (q : Int) := ⟨r.1.2.2.toNat, by simp [inB] at hB; omega, by simp [inB] at hB; omega⟩
  obtain ⟨q, hql, hqe⟩ := hq
  have hgd : yl.getD q ⟨#[]⟩ = yl[q] := by rw [List.getD_eq_getElem?_getD, List.getElem?_eq_getElem hql]; rfl
  rw [hqe, Int.toNat_natCast, hgd, Bool.true_and] at hrb
  have hz := hyrow.place' (map_get hql)
  obtain ⟨ba, oa, rfl, hAy⟩ := hz
  have hAy' : At w2 ba (oa + q) [.string yl[q]] := by rw [Nat.mul_one] at hAy; exact hAy
  have hz : ∃ B, wordB r.2.2 = B := ⟨_, rfl⟩
  obtain ⟨B2, hB2⟩ := hz
  rw [hB2] at hrb
  (refine jjV [7, 8, 9] ?_ ?_ ?_; (decide +kernel); (exact x2); (((apply jjT; exact rfl; rintro w' hq; have := hq.toStep; apply jI; exact eB rfl; refine jz ?_; exact ⟨rfl, rfl⟩; apply jjT; exact rfl; rintro w' hq; have := hq.toStep; refine jT rfl rfl rfl ?_; refine jm ?_; refine jn rfl ?_; refine jz ?_; exact ⟨rfl, rfl⟩; apply jjT; exact rfl; rintro w' hq; have := hq.toStep; refine jT rfl rfl rfl ?_; refine jN rfl rfl rfl ?_; refine jz ?_; exact ⟨rfl, rfl⟩; refine jjU ?_))))
  (apply jjW 10; (decide +kernel); exact rfl; (exact x2))
  (refine jT rfl rfl rfl ?_)
  refine jjQ ((Word_ref r.2.2 _ (by omega)).mono fun v _ _ h => h.trans (by rw [hB2])) rfl rfl ?_
  rintro _ w4 hS4 rfl
  refine jz ?_
  have x3 := x2.trans hS4.ext
  cases B2
  · (refine jjV [11, 12, 13, 14, 15, 16, 17, 18, 19, 20, 21, 22, 23] ?_ ?_ ?_; (decide +kernel); (exact x3); (((apply jjT; exact rfl; rintro w' hq; have := hq.toStep; apply jK rfl; exact eB rfl; refine jz ?_; exact ⟨rfl, rfl⟩; apply jjT; exact rfl; rintro w' hq; have := hq.toStep; apply jI; exact eB rfl; refine jz ?_; exact ⟨rfl, rfl⟩; apply jjT; exact rfl; rintro w' hq; have := hq.toStep; refine jU rfl rfl rfl rfl ?_; refine jz ?_; exact ⟨rfl, rfl⟩; apply jjT; exact rfl; rintro w' hq; have := hq.toStep; refine jU rfl rfl rfl rfl ?_; refine jz ?_; exact ⟨rfl, rfl⟩; apply jjT; exact rfl; rintro w' hq; have := hq.toStep; refine jU rfl rfl rfl rfl ?_; refine jz ?_; exact ⟨rfl, rfl⟩; apply jjT; exact rfl; rintro w' hq; have := hq.toStep; refine jU rfl rfl rfl rfl ?_; refine jz ?_; exact ⟨rfl, rfl⟩; apply jjT; exact rfl; rintro w' hq; have := hq.toStep; refine jU rfl rfl rfl rfl ?_; refine jz ?_; exact ⟨rfl, rfl⟩; apply jjT; exact rfl; rintro w' hq; have := hq.toStep; refine jU rfl rfl rfl rfl ?_; refine jz ?_; exact ⟨rfl, rfl⟩; apply jjT; exact rfl; rintro w' hq; have := hq.toStep; refine jU rfl rfl rfl rfl ?_; refine jz ?_; exact ⟨rfl, rfl⟩; apply jjT; exact rfl; rintro w' hq; have := hq.toStep; refine jU rfl rfl rfl rfl ?_; refine jz ?_; exact ⟨rfl, rfl⟩; apply jjT; exact rfl; rintro w' hq; have := hq.toStep; refine jU rfl rfl rfl rfl ?_; refine jz ?_; exact ⟨rfl, rfl⟩; apply jjT; exact rfl; rintro w' hq; have := hq.toStep; apply jL rfl; exact eB rfl; refine jz ?_; exact ⟨rfl, rfl⟩; apply jjT; exact rfl; rintro w' hq; have := hq.toStep; apply jJ; exact eB rfl; refine jz ?_; exact ⟨rfl, rfl⟩; refine jjU ?_))))
    refine jjX (by decide +kernel) x3 ?_
    have := x3.toStep
    (refine jjF ?_; refine jB rfl rfl ⟨inferInstance, ?_⟩)
    rw [hrb]; exact rfl
  · (refine jjV [11, 12, 13, 14, 15, 16, 17, 18] ?_ ?_ ?_; (decide +kernel); (exact x3); (((apply jjT; exact rfl; rintro w' hq; have := hq.toStep; apply jK rfl; exact eB rfl; refine jz ?_; exact ⟨rfl, rfl⟩; apply jjT; exact rfl; rintro w' hq; have := hq.toStep; apply jI; exact eB rfl; refine jz ?_; exact ⟨rfl, rfl⟩; apply jjT; exact rfl; rintro w' hq; have := hq.toStep; refine jT rfl rfl rfl ?_; refine jm ?_; refine jn rfl ?_; refine jz ?_; exact ⟨rfl, rfl⟩; apply jjT; exact rfl; rintro w' hq; have := hq.toStep; refine jT rfl rfl rfl ?_; refine jN rfl rfl rfl ?_; refine jz ?_; exact ⟨rfl, rfl⟩; apply jjT; exact rfl; rintro w' hq; have := hq.toStep; refine jT rfl rfl rfl ?_; apply jI; exact eS rfl; refine jz ?_; exact ⟨rfl, rfl⟩; apply jjT; exact rfl; rintro w' hq; have := hq.toStep; refine jT rfl rfl rfl ?_; refine jm ?_; refine jn rfl ?_; refine jz ?_; exact ⟨rfl, rfl⟩; apply jjT; exact rfl; rintro w' hq; have := hq.toStep; refine jT rfl rfl rfl ?_; refine jm ?_; refine jn rfl ?_; refine jz ?_; exact ⟨rfl, rfl⟩; apply jjT; exact rfl; rintro w' hq; have := hq.toStep; refine jT rfl rfl rfl ?_; refine jN rfl rfl rfl ?_; refine jz ?_; exact ⟨rfl, rfl⟩; refine jjU ?_))))
    refine jjV [19] (by decide +kernel) x3 (jjT (v := .pointer (some ⟨ba, oa + q, none⟩)) rfl (fun w' q1 => ?_) (jjU ?_)); ((refine jT rfl rfl rfl ?_); refine jG (j := q) rfl rfl hqe (by omega) ?_; refine jz ?_; exact ⟨rfl, rfl⟩)
    refine jjV [20] (by decide +kernel) x3 (jjT (v := .string yl[q]) rfl (fun w' q1 => ?_) (jjU ?_)); ((refine jT rfl rfl rfl ?_); refine jR ((hAy'.ext q1).get (i := 0) rfl) rfl rfl ?_; refine jz ?_; exact ⟨rfl, rfl⟩)
    refine jjV [21] (by decide +kernel) x3 (jjT (v := .bool (decide (¬ r.2.2 = yl[q]))) rfl (fun w' q1 => ?_) (jjU ?_)); ((refine jT rfl rfl rfl ?_); refine Ops.neqS rfl rfl ?_; refine jz ?_; exact ⟨rfl, rfl⟩)
    (refine jjV [22, 23] ?_ ?_ ?_; (decide +kernel); (exact x3); (((apply jjT; exact rfl; rintro w' hq; have := hq.toStep; apply jK rfl; exact eB rfl; refine jz ?_; exact ⟨rfl, rfl⟩; apply jjT; exact rfl; rintro w' hq; have := hq.toStep; apply jJ; exact eB rfl; refine jz ?_; exact ⟨rfl, rfl⟩; refine jjU ?_))))
    refine jjX (by decide +kernel) x3 ?_
    have := x3.toStep
    (refine jjF ?_; refine jB rfl rfl ⟨inferInstance, ?_⟩)
    rw [hrb]; exact rfl
end Go.Proofs.YtgnjjocafmofaaaGreatDoor

/- The reference: a line of a copy. -/
namespace Go.Proofs.YtgnjjocafmofaaaGreatDoor
open Go.RowKit

theorem wrdS_len (l : List ByteArray) (rs : List Rd) (k n : Int) (q : Nat) : (wrdS l rs k n q).length ≤ rs.length + 1 := by
  unfold wrdS
  have h1 := foldR_len (l.getD q ⟨#[]⟩) (hereR (k, n, (q : Int)) rs)
  have h2 := here_len (k, n, (q : Int)) rs
  have h3 : ∀ z : ByteArray, (if z.size = 0 then ([] : List ByteArray) else [z]).length ≤ 1 := fun z => by split <;> simp
  have h4 := h3 (foldR (l.getD q ⟨#[]⟩) (hereR (k, n, (q : Int)) rs)).2
  rw [List.length_append]
  omega
theorem fold_snoc {o : ByteArray} {rs : List Rd} {i : Nat} {r : Rd} (h : rs[i]? = some r) (p : Pl) : foldR o (hereR p (rs.take (i + 1))) = if r.1 = p then stepR (foldR o (hereR p (rs.take i))) r else foldR o (hereR p (rs.take i)) := by
  rw [here_snoc h]
  by_cases e : r.1 = p
  · rw [if_pos e, if_pos e, foldR, List.foldl_append]; rfl
  · rw [if_neg e, if_neg e, List.append_nil]
theorem W.cutS {P : Program} {ro : Option Nat} {n : Nat} {X : Ctx} {s : Sl} {ds : List Deferred} {w : World} {c : Code} (D : List Nat) (sO : Sl) (L : List (Nat × Value)) (Q : World → Prop) (h : W P ro n c { X with nx := fun s' ds' w' => ds' = ds ∧ Same D sO s' ∧ AllEq s' L ∧ Q w' } s ds w)
    (h2 : ∀ s0 w', Same D sO (upds s0 L) → Q w' → X.nx (upds s0 L) ds w') : W P ro n c X s ds w :=
  W.mono h (fun s' _ w' ⟨e, hS, hA, q⟩ => by
    subst e
    have e2 := upds_id hA
    have := h2 s' w' (by rw [e2]; exact hS) q
    rw [e2] at this; exact this) (fun _ _ _ h => h) (fun _ _ _ _ h => h)
set_option maxHeartbeats 8000000 in
theorem read_ref1 (a : Option Addr) (c : Nat) (cs : List Ch) (w : World) [hrow : RowI w (.slice a cs.length c) true 2 (cs.map encCh)] [hT : TextI w cs] (id : Int) (ra : Option Addr) (rc : Nat) (rs : List Rd) (hs : SmallT cs) (hl : rs.length ≤ 1000) [hrd : RowI w (.slice ra rs.length rc) true 5 (rs.map encRd)]
    (k n : Nat) (hk : k < cs.length) (hn : n < cs[k].2.2.2.length) :
    Ct Tryz.prog 93 [.agg #[.slice a cs.length c], .agg #[.int .i64 id, .slice ra rs.length rc], .int .i64 (k : Int), .int .i64 (n : Int)] w fun v w' => OwnL w' w.heap.size 9 false 1 v ((lineS cs[k].2.2.2[n].2.2 rs k n).map strV) := by
  have hs1 := hs.1
  have hsk := hs.2 _ (List.getElem_mem hk)
  have hsn := hsk.2 _ (List.getElem_mem hn)
  have hz : ∃ l, cs[k].2.2.2[n].2.2 = l := ⟨_, rfl⟩
  obtain ⟨l, hlw⟩ := hz
  rw [hlw]
  have hll := hsn.1
  rw [hlw] at hll
  have i1 := hT.line hk
  have i2 := hT.word hk hn
  have hLR : RowV w false 1 (.slice cs[k].2.2.2[n].1 l.length cs[k].2.2.2[n].2.1) (l.map strV) := by have := i2.h; rw [hlw] at this; exact this
  refine Ct.ofW (by simp) ?_
  (refine jjB ?_; refine jjC ?_)
  (refine jy rfl ?_; intro b4 w_b4 hb_b4 hs_b4 hS_b4 hk_b4; have hA_b4 := At.ofBlock hk_b4)
  skip
  (refine jy rfl ?_; intro b5 w_b5 hb_b5 hs_b5 hS_b5 hk_b5; have hA_b5 := At.ofBlock hk_b5)
  (apply jJ; exact eS rfl; refine jz ?_; refine jjB ?_; refine jjC ?_; apply jJ; exact eS rfl; refine jz ?_; refine jjB ?_; refine jjC ?_; refine jm ?_; refine jn rfl ?_; refine jN rfl rfl rfl ?_; apply jI; exact eI rfl; refine jF rfl rfl rfl (map_get (by omega)) ?_; intro _ _ _; refine jm ?_; refine jn rfl ?_; refine jP rfl rfl rfl ?_; apply jI; exact eI rfl; refine jF rfl rfl rfl (map_get (by omega)) ?_; intro _ _ _; refine jQ rfl rfl ?_; apply jJ; exact eS rfl; refine jz ?_; refine jjB ?_; refine jjB ?_; refine jjC ?_; apply jJ; exact eI rfl; refine jz ?_; refine jjD ?_)
  have hE5 : Ext w w_b5 := inferInstance
  refine W.keep0 [(2, .int .i64 (k : Int)), (3, .int .i64 (n : Int)), (5, .pointer (some ⟨b5, 0, none⟩)), (9, .slice none 0 0), (10, .slice cs[k].2.2.2[n].1 l.length cs[k].2.2.2[n].2.1), (11, .int .i64 ((0 : Nat) : Int))] ⟨eI rfl, eI rfl, eP rfl, eS rfl, (by rw [← hlw]; exact rfl), eI rfl, trivial⟩ fun s0 => ?_
  have hB5 : At w_b5 b5 0 [.int .i64 id, .slice ra rs.length rc] := inferInstance
  refine W.loopG (24 :: 25 :: 26 :: 27 :: 12 :: 30 :: 31 :: 32 :: 33 :: 34 :: 35 :: 36 :: 37 :: 13 :: 38 :: 39 :: 40 :: 41 :: 42 :: 45 :: 46 :: 47 :: 48 :: 49 :: 14 :: 50 :: 51 :: 52 :: 53 :: 54 :: 55 :: 56 :: 57 :: 58 :: 59 :: 60 :: 61 :: 62 :: 63 :: 64 :: 65 :: 66 :: 67 :: 68 :: 69 :: 70 :: 71 :: 72 :: 73 :: 74 :: 75 :: 76 :: 9 :: 77 :: 78 :: 43 :: 44 :: 79 :: 80 :: 81 :: 82 :: 83 :: 84 :: 28 :: 29 :: 11 :: []) (fun gg s' V => ∃ (q : Nat) (oa : Option Addr) (on oc : Nat), s' 11 = .int .i64 ((q : Nat) : Int) ∧ s' 9 = .slice oa on oc ∧ gg = l.length + 1 - q ∧ q ≤ l.length + 1 ∧ Ext w_b5 V ∧ OwnL V w_b5.heap.size 9 false 1 (.slice oa on oc) (((List.range q).flatMap (wrdS l rs k n)).map strV) ∧ ((List.range q).flatMap (wrdS l rs k n)).length ≤ q * 1001) (l.length + 1) ⟨0, none, 0, 0, rfl, rfl, rfl, Nat.zero_le _, .refl _, OwnL.nil _ _ _ _ _, Nat.zero_le _⟩ ?_
  rintro _ sd V ⟨q, oa, on, oc, h11, h9, rfl, hq, hEV, hOo, hol⟩
  refine W.fix h11 (W.fix (d := 9) h9 ?_)
  clear h11 h9
  have zE5 := hE5.size
  have zEV := hEV.size
  by_cases hql : q < l.length + 1
  rotate_left
  · have hz : q = l.length + 1 := by omega
    subst hz
    have := (hE5.trans hEV).toStep
    (refine jjB ?_; refine jjB ?_; refine jjC ?_; apply jI; exact eI rfl; apply jI; exact eS rfl; refine jh rfl ?_; refine jjc rfl rfl (by omega) ?_; refine jz ?_; refine jjK rfl ?_; refine jjE ?_; refine jjB ?_; refine jjC ?_; apply jI; exact eS rfl; apply jJ; exact eS rfl; refine jz ?_; refine jjF ?_; refine jB rfl rfl ⟨inferInstance, ?_⟩)
    exact hOo.mono zE5
  have hz : ∃ o, l.getD q ⟨#[]⟩ = o := ⟨_, rfl⟩
  obtain ⟨o, ho⟩ := hz
  have hz : ∃ prev, (List.range q).flatMap (wrdS l rs k n) = prev := ⟨_, rfl⟩
  obtain ⟨prev, hprev⟩ := hz
  rw [hprev] at hOo hol
  have hrV : RowI V (.slice ra rs.length rc) true 5 (rs.map encRd) := ⟨hrd.h.ext (hE5.trans hEV)⟩
  have hLV : RowI V (.slice cs[k].2.2.2[n].1 l.length cs[k].2.2.2[n].2.1) false 1 (l.map strV) := ⟨hLR.ext (hE5.trans hEV)⟩
  have hBV : At V b5 0 [.int .i64 id, .slice ra rs.length rc] := hB5.ext hEV
  (refine jjB ?_; refine jjB ?_; refine jjC ?_; apply jI; exact eI rfl; apply jI; exact eS rfl; refine jh rfl ?_; refine jjb rfl rfl (by omega) ?_; refine jz ?_; refine jjJ rfl ?_; refine jjG ?_; refine jjB ?_; refine jjD ?_; refine jjB ?_; refine jjC ?_; apply jJ; exact eT rfl; refine jz ?_; refine jjB ?_; refine jjB ?_; refine jjC ?_; apply jI; exact eI rfl; apply jI; exact eS rfl; refine jh rfl ?_; refine jX rfl rfl ?_; refine jz ?_)
  refine W.cutS (24 :: 25 :: 26 :: 27 :: 12 :: 30 :: 31 :: 32 :: 33 :: 34 :: 35 :: 36 :: 37 :: 13 :: 38 :: 39 :: 40 :: 41 :: 42 :: 45 :: 46 :: 47 :: 48 :: 49 :: 14 :: 50 :: 51 :: 52 :: 53 :: 54 :: 55 :: 56 :: 57 :: 58 :: 59 :: 60 :: 61 :: 62 :: 63 :: 64 :: 65 :: 66 :: 67 :: 68 :: 69 :: 70 :: 71 :: 72 :: 73 :: 74 :: 75 :: 76 :: 9 :: 77 :: 78 :: 43 :: 44 :: 79 :: 80 :: 81 :: 82 :: 83 :: 84 :: 28 :: 29 :: 11 :: []) (upds s0 [(2, .int .i64 (k : Int)), (3, .int .i64 (n : Int)), (5, .pointer (some ⟨b5, 0, none⟩)), (9, .slice none 0 0), (10, .slice cs[k].2.2.2[n].1 l.length cs[k].2.2.2[n].2.1), (11, .int .i64 ((0 : Nat) : Int))]) [(2, .int .i64 (k : Int)), (3, .int .i64 (n : Int)), (5, .pointer (some ⟨b5, 0, none⟩)), (9, .slice oa on oc), (10, .slice cs[k].2.2.2[n].1 l.length cs[k].2.2.2[n].2.1), (11, .int .i64 ((q : Nat) : Int)), (12, .string o)] (fun w' => w' = V) ?_ ?_
  · refine jjN rfl ?_ ?_
    · intro hc
      have hq' : q < l.length := by omega
      have e2 : o = l[q] := by rw [← ho, List.getD_eq_getElem?_getD, List.getElem?_eq_getElem hq']; rfl
      (refine jjC ?_; apply jI; exact eS rfl; apply jI; exact eI rfl; refine jF rfl rfl rfl (map_get (by omega)) ?_; intro _ _ _; refine jQ rfl rfl ?_; apply jJ; exact eT rfl; refine jz ?_)
      exact ⟨rfl, by ((refine Same.upd rfl ?_; refine Same.upd rfl ?_; refine Same.upd rfl ?_; refine Same.upd rfl ?_; refine Same.upd rfl ?_; refine Same.upd rfl ?_; refine Same.upd rfl ?_; refine Same.upd rfl ?_; refine Same.upd rfl ?_; refine Same.upd rfl ?_; refine Same.upd rfl ?_; refine Same.upd rfl ?_; refine Same.upd rfl ?_; refine Same.upd rfl ?_; refine Same.upd rfl ?_; refine Same.upd rfl ?_; exact Same.ovN)), ⟨eI rfl, eI rfl, eP rfl, eS rfl, eS rfl, eI rfl, (by rw [e2]; exact rfl), trivial⟩, rfl⟩
    · intro hc
      have e2 : o = ⟨#[]⟩ := by rw [← ho, List.getD_eq_getElem?_getD, List.getElem?_eq_none (by omega)]; rfl
      (refine jjG ?_)
      exact ⟨rfl, by ((refine Same.upd rfl ?_; refine Same.upd rfl ?_; refine Same.upd rfl ?_; refine Same.upd rfl ?_; refine Same.upd rfl ?_; refine Same.upd rfl ?_; refine Same.upd rfl ?_; refine Same.upd rfl ?_; refine Same.upd rfl ?_; refine Same.upd rfl ?_; refine Same.upd rfl ?_; exact Same.ovN)), ⟨eI rfl, eI rfl, eP rfl, eS rfl, eS rfl, eI rfl, (by rw [e2]; exact rfl), trivial⟩, rfl⟩
  rintro s1 _ hs1' rfl
  (refine jjB ?_; refine jjB ?_; refine jjC ?_; apply jJ; exact eI rfl; refine jz ?_; refine jjD ?_)
  refine W.keep [(2, .int .i64 (k : Int)), (3, .int .i64 (n : Int)), (5, .pointer (some ⟨b5, 0, none⟩)), (9, .slice oa on oc), (10, .slice cs[k].2.2.2[n].1 l.length cs[k].2.2.2[n].2.1), (11, .int .i64 ((q : Nat) : Int)), (12, .string o), (13, .int .i64 ((0 : Nat) : Int))] (D := (24 :: 25 :: 26 :: 27 :: 12 :: 30 :: 31 :: 32 :: 33 :: 34 :: 35 :: 36 :: 37 :: 13 :: 38 :: 39 :: 40 :: 41 :: 42 :: 45 :: 46 :: 47 :: 48 :: 49 :: 14 :: 50 :: 51 :: 52 :: 53 :: 54 :: 55 :: 56 :: 57 :: 58 :: 59 :: 60 :: 61 :: 62 :: 63 :: 64 :: 65 :: 66 :: 67 :: 68 :: 69 :: 70 :: 71 :: 72 :: 73 :: 74 :: 75 :: 76 :: 9 :: 77 :: 78 :: 43 :: 44 :: 79 :: 80 :: 81 :: 82 :: 83 :: 84 :: 28 :: 29 :: 11 :: [])) (sO := upds s0 _) (by ((refine Same.upd rfl ?_; assumption))) ⟨eI rfl, eI rfl, eP rfl, eS rfl, eS rfl, eI rfl, eT rfl, eI rfl, trivial⟩ fun s2 hs2' => ?_
  refine W.loopG (38 :: 39 :: 40 :: 41 :: 42 :: 45 :: 46 :: 47 :: 48 :: 49 :: 14 :: 50 :: 51 :: 52 :: 53 :: 54 :: 55 :: 56 :: 57 :: 58 :: 59 :: 60 :: 61 :: 62 :: 63 :: 64 :: 65 :: 66 :: 67 :: 68 :: 69 :: 70 :: 71 :: 72 :: 73 :: 74 :: 75 :: 76 :: 9 :: 77 :: 78 :: 12 :: 43 :: 44 :: 13 :: []) (fun gg s' V2 => ∃ (i : Nat) (oa : Option Addr) (on oc : Nat), s' 13 = .int .i64 ((i : Nat) : Int) ∧ s' 9 = .slice oa on oc ∧ s' 12 = .string (foldR o (hereR ((k : Int), (n : Int), (q : Int)) (rs.take i))).2 ∧ gg = rs.length - i ∧ i ≤ rs.length ∧ Ext w_b5 V2 ∧ OwnL V2 w_b5.heap.size 9 false 1 (.slice oa on oc) ((prev ++ (foldR o (hereR ((k : Int), (n : Int), (q : Int)) (rs.take i))).1).map strV)) rs.length ⟨0, oa, on, oc, rfl, rfl, rfl, rfl, Nat.zero_le _, hEV, by simpa [hereR, foldR] using hOo⟩ ?_
  rintro _ sd2 V2 ⟨i, oa, on, oc, h13, h9, h12, rfl, hi, hE2, hO2⟩
  refine W.fix h13 (W.fix (d := 9) h9 (W.fix (d := 12) h12 ?_))
  clear h13 h9 h12
  have zE2 := hE2.size
  have hrV2 : RowI V2 (.slice ra rs.length rc) true 5 (rs.map encRd) := ⟨hrd.h.ext (hE5.trans hE2)⟩
  have hBV2 : At V2 b5 0 [.int .i64 id, .slice ra rs.length rc] := hB5.ext hE2
  have hfl := foldR_len o (hereR ((k : Int), (n : Int), (q : Int)) (rs.take i))
  have hhl := here_len ((k : Int), (n : Int), (q : Int)) (rs.take i)
  have htl := List.length_take_le i rs
  by_cases hir : i < rs.length
  rotate_left
  · have hz : i = rs.length := by omega
    subst hz
    rw [List.take_length] at hO2 hfl hhl ⊢
    have hw : wrdS l rs k n q = (foldR o (hereR ((k : Int), (n : Int), (q : Int)) rs)).1 ++ if (foldR o (hereR ((k : Int), (n : Int), (q : Int)) rs)).2.size = 0 then [] else [(foldR o (hereR ((k : Int), (n : Int), (q : Int)) rs)).2] := by unfold wrdS; rw [ho]
    have hwl := wrdS_len l rs k n q
    have hrs : (List.range (q + 1)).flatMap (wrdS l rs k n) = prev ++ wrdS l rs k n q := by rw [range_snoc, hprev]
    have hz : ∃ z, foldR o (hereR ((k : Int), (n : Int), (q : Int)) rs) = z := ⟨_, rfl⟩
    obtain ⟨z, hzz⟩ := hz
    rw [hzz] at hO2 hfl hw ⊢
    (refine jjB ?_; refine jjB ?_; refine jjC ?_; apply jI; exact eI rfl; refine jm ?_; refine jn rfl ?_; refine jN rfl rfl rfl ?_; refine jh rfl ?_; refine jja rfl rfl (by omega) ?_; refine jz ?_; refine jjK rfl ?_; refine jjE ?_; refine jjB ?_; refine jjC ?_; apply jI; exact eT rfl)
    refine Ops.neqS rfl rfl ?_
    by_cases h0 : z.2.size = 0
    · have e0 := str_nil.2 h0
      rw [if_pos h0, List.append_nil] at hw
      rw [decide_eq_false (fun h => h e0)]
      (refine jz ?_; refine jjK rfl ?_; refine jjG ?_; refine jjC ?_; apply jI; exact eI rfl; refine jY rfl rfl (by omega) ?_; apply jJ; exact eI rfl; refine jz ?_)
      refine ⟨rfl, by ((refine Same.upd rfl ?_; refine Same.upd rfl ?_; refine Same.upd rfl ?_; refine Same.upd rfl ?_; refine Same.upd rfl ?_; refine Same.upd rfl ?_; refine Same.upd rfl ?_; refine Same.upd rfl ?_; refine Same.upd rfl ?_; refine Same.upd rfl ?_; refine Same.upd rfl ?_; refine Same.upd rfl ?_; refine Same.upd rfl ?_; refine Same.ovN' rfl ?_; assumption)), l.length + 1 - (q + 1), by omega, q + 1, oa, on, oc, congrArg (Value.int .i64) (by omega), rfl, rfl, by omega, hE2, ?_, ?_⟩
      · rw [hrs, hw]; exact hO2
      · rw [hrs, List.length_append]; omega
    · have e0 : ¬ z.2 = ⟨#[]⟩ := fun e => h0 (str_nil.1 e)
      rw [if_neg h0] at hw
      rw [decide_eq_true e0]
      (refine jz ?_; refine jjJ rfl ?_; refine jjC ?_; apply jI; exact eS rfl; apply jI; exact eT rfl)
      (refine jjP (v := .string _) rfl (by exact rfl) (by exact rfl) (by exact rfl) (by exact rfl) ?_; intro b83 w_b83 hb_b83 hs_b83 hS_b83 hk_b83; have hR_b83 := RowV.one (agg := false) (k := 1) rfl hk_b83)
      refine Ops.appendL (hO2.ext hS_b83.ext) (by have := hS_b83.size; omega) hR_b83 rfl rfl rfl rfl rfl ?_ ?_ ?_
      · rw [List.length_map, List.length_append]; simp only [List.length_cons, List.length_nil]; omega
      · rw [List.length_map, List.length_append]; simp only [List.length_cons, List.length_nil]; omega
      intro v2 V4 hA hO4 _ _
      have e1 : (prev ++ z.1).map strV ++ [.string z.2] = ((List.range (q + 1)).flatMap (wrdS l rs k n)).map strV := by
        rw [hrs, hw, ← List.append_assoc, List.map_append (l₂ := [z.2])]; rfl
      rw [e1] at hO4
      have hz := hO4.slice3
      obtain ⟨a4, n4, c4, rfl⟩ := hz
      (apply jJ; exact eS rfl; refine jz ?_; refine jjC ?_; apply jI; exact eI rfl; refine jY rfl rfl (by omega) ?_; apply jJ; exact eI rfl; refine jz ?_)
      refine ⟨rfl, by ((refine Same.upd rfl ?_; refine Same.upd rfl ?_; refine Same.upd rfl ?_; refine Same.upd rfl ?_; refine Same.upd rfl ?_; refine Same.upd rfl ?_; refine Same.upd rfl ?_; refine Same.upd rfl ?_; refine Same.upd rfl ?_; refine Same.upd rfl ?_; refine Same.upd rfl ?_; refine Same.upd rfl ?_; refine Same.upd rfl ?_; refine Same.upd rfl ?_; refine Same.upd rfl ?_; refine Same.upd rfl ?_; refine Same.upd rfl ?_; refine Same.upd rfl ?_; refine Same.ovN' rfl ?_; assumption)), l.length + 1 - (q + 1), by omega, q + 1, a4, n4, c4, congrArg (Value.int .i64) (by omega), rfl, rfl, by omega, hA.ext (hE2.trans hS_b83.ext) (Nat.le_refl _), hO4, ?_⟩
      rw [hrs, List.length_append]; omega
  have hgi := List.getElem?_eq_getElem hir
  have hfs := fold_snoc (o := o) hgi ((k : Int), (n : Int), (q : Int))
  (refine jjB ?_; refine jjB ?_; refine jjC ?_; apply jI; exact eI rfl; refine jm ?_; refine jn rfl ?_; refine jN rfl rfl rfl ?_; refine jh rfl ?_; refine jjZ rfl rfl (by omega) ?_; refine jz ?_; refine jjJ rfl ?_; refine jjG ?_; refine jjB ?_; refine jjD ?_; refine jjB ?_; refine jjC ?_; refine jm ?_; refine jn rfl ?_; refine jN rfl rfl rfl ?_; apply jI; exact eI rfl; refine jF rfl rfl rfl (map_get (by omega)) ?_; intro _ _ _; refine jQ rfl rfl ?_)
  (apply jjR rfl; (intro _; first|exact eI rfl|exact eB rfl|exact eP rfl|exact eS rfl|exact eT rfl|exact eA rfl|exact eU rfl|exact eF rfl|exact eM rfl|exact eN rfl|exact rfl); exact rfl; exact rfl; exact rfl; exact rfl; intro b14 w_b14 hb_b14 hs_b14 hS_b14 hk_b14; have hA_b14 := Bk.of hk_b14)
  by_cases hp : rs[i].1 = ((k : Int), (n : Int), (q : Int))
  rotate_left
  · rw [if_neg hp] at hfs
    have hO3 := hO2.ext hS_b14.ext
    have hE3 := hE2.trans hS_b14.ext
    by_cases c1 : rs[i].1.1 = (k : Int)
    · by_cases c2 : rs[i].1.2.1 = (n : Int)
      · have c3 : ¬ rs[i].1.2.2 = (q : Int) := fun e => hp (Prod.ext c1 (Prod.ext c2 e))
        (refine jz ?_; refine jjB ?_; refine jjB ?_; refine jjC ?_; refine jm ?_; refine jn rfl ?_; refine jm ?_; refine jn rfl ?_; refine jN rfl rfl rfl ?_; apply jI; exact eI rfl; refine jjk rfl rfl (by omega) ?_; apply jI; exact eB rfl; refine jT rfl rfl rfl ?_; refine jm ?_; refine jn rfl ?_; refine jT rfl rfl rfl ?_; refine jm ?_; refine jn rfl ?_; refine jT rfl rfl rfl ?_; refine jN rfl rfl rfl ?_; refine jT rfl rfl rfl ?_; apply jI; exact eI rfl; refine jT rfl rfl rfl ?_; refine jjk rfl rfl (by omega) ?_; apply jL rfl; exact eB rfl; apply jI; exact eB rfl; refine jT rfl rfl rfl ?_; refine jm ?_; refine jn rfl ?_; refine jT rfl rfl rfl ?_; refine jm ?_; refine jn rfl ?_; refine jT rfl rfl rfl ?_; refine jN rfl rfl rfl ?_; refine jT rfl rfl rfl ?_; apply jI; exact eI rfl; refine jT rfl rfl rfl ?_; refine jjj rfl rfl (by omega) ?_; apply jL rfl; exact eB rfl; refine jz ?_; refine jjJ rfl ?_; refine jjE ?_; refine jjC ?_; apply jI; exact eI rfl; refine jY rfl rfl (by omega) ?_; apply jJ; exact eI rfl; refine jz ?_)
        exact ⟨rfl, by ((refine Same.upd rfl ?_; refine Same.upd rfl ?_; refine Same.upd rfl ?_; refine Same.upd rfl ?_; refine Same.upd rfl ?_; refine Same.upd rfl ?_; refine Same.upd rfl ?_; refine Same.upd rfl ?_; refine Same.upd rfl ?_; refine Same.upd rfl ?_; refine Same.upd rfl ?_; refine Same.upd rfl ?_; refine Same.upd rfl ?_; refine Same.upd rfl ?_; refine Same.upd rfl ?_; refine Same.upd rfl ?_; refine Same.upd rfl ?_; refine Same.upd rfl ?_; refine Same.upd rfl ?_; refine Same.upd rfl ?_; refine Same.upd rfl ?_; refine Same.upd rfl ?_; refine Same.upd rfl ?_; refine Same.upd rfl ?_; refine Same.upd rfl ?_; refine Same.upd rfl ?_; refine Same.upd rfl ?_; refine Same.upd rfl ?_; refine Same.upd rfl ?_; refine Same.upd rfl ?_; refine Same.upd rfl ?_; refine Same.upd rfl ?_; refine Same.upd rfl ?_; refine Same.upd rfl ?_; refine Same.upd rfl ?_; refine Same.upd rfl ?_; exact Same.ovN)), rs.length - (i + 1), by omega, i + 1, oa, on, oc, congrArg (Value.int .i64) (by omega), rfl, by rw [hfs]; exact rfl, rfl, by omega, hE3, by rw [hfs]; exact hO3⟩
      · (refine jz ?_; refine jjB ?_; refine jjB ?_; refine jjC ?_; refine jm ?_; refine jn rfl ?_; refine jm ?_; refine jn rfl ?_; refine jN rfl rfl rfl ?_; apply jI; exact eI rfl; refine jjk rfl rfl (by omega) ?_; apply jI; exact eB rfl; refine jT rfl rfl rfl ?_; refine jm ?_; refine jn rfl ?_; refine jT rfl rfl rfl ?_; refine jm ?_; refine jn rfl ?_; refine jT rfl rfl rfl ?_; refine jN rfl rfl rfl ?_; refine jT rfl rfl rfl ?_; apply jI; exact eI rfl; refine jT rfl rfl rfl ?_; refine jjj rfl rfl (by omega) ?_; apply jL rfl; exact eB rfl; apply jI; exact eB rfl; refine jU rfl rfl rfl rfl ?_; refine jU rfl rfl rfl rfl ?_; refine jU rfl rfl rfl rfl ?_; refine jU rfl rfl rfl rfl ?_; refine jU rfl rfl rfl rfl ?_; apply jK rfl; exact eB rfl; refine jz ?_; refine jjJ rfl ?_; refine jjE ?_; refine jjC ?_; apply jI; exact eI rfl; refine jY rfl rfl (by omega) ?_; apply jJ; exact eI rfl; refine jz ?_)
        exact ⟨rfl, by ((refine Same.upd rfl ?_; refine Same.upd rfl ?_; refine Same.upd rfl ?_; refine Same.upd rfl ?_; refine Same.upd rfl ?_; refine Same.upd rfl ?_; refine Same.upd rfl ?_; refine Same.upd rfl ?_; refine Same.upd rfl ?_; refine Same.upd rfl ?_; refine Same.upd rfl ?_; refine Same.upd rfl ?_; refine Same.upd rfl ?_; refine Same.upd rfl ?_; refine Same.upd rfl ?_; refine Same.upd rfl ?_; refine Same.upd rfl ?_; refine Same.upd rfl ?_; refine Same.upd rfl ?_; refine Same.upd rfl ?_; refine Same.upd rfl ?_; refine Same.upd rfl ?_; refine Same.upd rfl ?_; refine Same.upd rfl ?_; refine Same.upd rfl ?_; refine Same.upd rfl ?_; refine Same.upd rfl ?_; refine Same.upd rfl ?_; refine Same.upd rfl ?_; refine Same.upd rfl ?_; refine Same.upd rfl ?_; refine Same.upd rfl ?_; refine Same.upd rfl ?_; refine Same.upd rfl ?_; refine Same.upd rfl ?_; refine Same.upd rfl ?_; exact Same.ovN)), rs.length - (i + 1), by omega, i + 1, oa, on, oc, congrArg (Value.int .i64) (by omega), rfl, by rw [hfs]; exact rfl, rfl, by omega, hE3, by rw [hfs]; exact hO3⟩
    · (refine jz ?_; refine jjB ?_; refine jjB ?_; refine jjC ?_; refine jm ?_; refine jn rfl ?_; refine jm ?_; refine jn rfl ?_; refine jN rfl rfl rfl ?_; apply jI; exact eI rfl; refine jjj rfl rfl (by omega) ?_; apply jI; exact eB rfl; refine jU rfl rfl rfl rfl ?_; refine jU rfl rfl rfl rfl ?_; refine jU rfl rfl rfl rfl ?_; refine jU rfl rfl rfl rfl ?_; refine jU rfl rfl rfl rfl ?_; apply jK rfl; exact eB rfl; apply jI; exact eB rfl; refine jU rfl rfl rfl rfl ?_; refine jU rfl rfl rfl rfl ?_; refine jU rfl rfl rfl rfl ?_; refine jU rfl rfl rfl rfl ?_; refine jU rfl rfl rfl rfl ?_; apply jK rfl; exact eB rfl; refine jz ?_; refine jjJ rfl ?_; refine jjE ?_; refine jjC ?_; apply jI; exact eI rfl; refine jY rfl rfl (by omega) ?_; apply jJ; exact eI rfl; refine jz ?_)
      exact ⟨rfl, by ((refine Same.upd rfl ?_; refine Same.upd rfl ?_; refine Same.upd rfl ?_; refine Same.upd rfl ?_; refine Same.upd rfl ?_; refine Same.upd rfl ?_; refine Same.upd rfl ?_; refine Same.upd rfl ?_; refine Same.upd rfl ?_; refine Same.upd rfl ?_; refine Same.upd rfl ?_; refine Same.upd rfl ?_; refine Same.upd rfl ?_; refine Same.upd rfl ?_; refine Same.upd rfl ?_; refine Same.upd rfl ?_; refine Same.upd rfl ?_; refine Same.upd rfl ?_; refine Same.upd rfl ?_; refine Same.upd rfl ?_; refine Same.upd rfl ?_; refine Same.upd rfl ?_; refine Same.upd rfl ?_; refine Same.upd rfl ?_; refine Same.upd rfl ?_; refine Same.upd rfl ?_; refine Same.upd rfl ?_; refine Same.upd rfl ?_; refine Same.upd rfl ?_; refine Same.upd rfl ?_; refine Same.upd rfl ?_; refine Same.upd rfl ?_; refine Same.upd rfl ?_; refine Same.upd rfl ?_; refine Same.upd rfl ?_; refine Same.upd rfl ?_; exact Same.ovN)), rs.length - (i + 1), by omega, i + 1, oa, on, oc, congrArg (Value.int .i64) (by omega), rfl, by rw [hfs]; exact rfl, rfl, by omega, hE3, by rw [hfs]; exact hO3⟩
  have c1 : rs[i].1.1 = (k : Int) := by rw [hp]
  have c2 : rs[i].1.2.1 = (n : Int) := by rw [hp]
  have c3 : rs[i].1.2.2 = (q : Int) := by rw [hp]
  rw [if_pos hp] at hfs
  by_cases hk2 : rs[i].2.1 = 2
  · rw [stepR, if_pos hk2] at hfs
    (refine jz ?_; refine jjB ?_; refine jjB ?_; refine jjC ?_; refine jm ?_; refine jn rfl ?_; refine jm ?_; refine jn rfl ?_; refine jN rfl rfl rfl ?_; apply jI; exact eI rfl; refine jjk rfl rfl (by omega) ?_; apply jI; exact eB rfl; refine jT rfl rfl rfl ?_; refine jm ?_; refine jn rfl ?_; refine jT rfl rfl rfl ?_; refine jm ?_; refine jn rfl ?_; refine jT rfl rfl rfl ?_; refine jN rfl rfl rfl ?_; refine jT rfl rfl rfl ?_; apply jI; exact eI rfl; refine jT rfl rfl rfl ?_; refine jjk rfl rfl (by omega) ?_; apply jL rfl; exact eB rfl; apply jI; exact eB rfl; refine jT rfl rfl rfl ?_; refine jm ?_; refine jn rfl ?_; refine jT rfl rfl rfl ?_; refine jm ?_; refine jn rfl ?_; refine jT rfl rfl rfl ?_; refine jN rfl rfl rfl ?_; refine jT rfl rfl rfl ?_; apply jI; exact eI rfl; refine jT rfl rfl rfl ?_; refine jjk rfl rfl (by omega) ?_; apply jL rfl; exact eB rfl; refine jz ?_; refine jjK rfl ?_; refine jjG ?_; refine jjB ?_; refine jjC ?_; refine jm ?_; refine jn rfl ?_; refine jN rfl rfl rfl ?_; refine jjh rfl rfl (by omega) ?_; refine jz ?_; refine jjJ rfl ?_; refine jjC ?_; apply jI; exact eS rfl; refine jm ?_; refine jn rfl ?_; refine jN rfl rfl rfl ?_)
    (refine jjP (v := .string _) rfl (by exact rfl) (by exact rfl) (by exact rfl) (by exact rfl) ?_; intro b75 w_b75 hb_b75 hs_b75 hS_b75 hk_b75; have hR_b75 := RowV.one (agg := false) (k := 1) rfl hk_b75)
    have x75 := hS_b14.ext.trans hS_b75.ext
    refine Ops.appendL (hO2.ext x75) (by have := x75.size; omega) hR_b75 rfl rfl rfl rfl rfl ?_ ?_ ?_
    · rw [List.length_map, List.length_append]; simp only [List.length_cons, List.length_nil]; omega
    · rw [List.length_map, List.length_append]; simp only [List.length_cons, List.length_nil]; omega
    intro v2 V4 hA hO4 _ _
    have e1 : (prev ++ (foldR o (hereR ((k : Int), (n : Int), (q : Int)) (rs.take i))).1).map strV ++ [.string rs[i].2.2] = (prev ++ (foldR o (hereR ((k : Int), (n : Int), (q : Int)) (rs.take (i + 1)))).1).map strV := by
      rw [hfs, ← List.append_assoc, List.map_append (l₂ := [rs[i].2.2])]; rfl
    rw [e1] at hO4
    have hz := hO4.slice3
    obtain ⟨a4, n4, c4, rfl⟩ := hz
    (apply jJ; exact eS rfl; refine jz ?_; refine jjC ?_; apply jI; exact eI rfl; refine jY rfl rfl (by omega) ?_; apply jJ; exact eI rfl; refine jz ?_)
    exact ⟨rfl, by ((refine Same.upd rfl ?_; refine Same.upd rfl ?_; refine Same.upd rfl ?_; refine Same.upd rfl ?_; refine Same.upd rfl ?_; refine Same.upd rfl ?_; refine Same.upd rfl ?_; refine Same.upd rfl ?_; refine Same.upd rfl ?_; refine Same.upd rfl ?_; refine Same.upd rfl ?_; refine Same.upd rfl ?_; refine Same.upd rfl ?_; refine Same.upd rfl ?_; refine Same.upd rfl ?_; refine Same.upd rfl ?_; refine Same.upd rfl ?_; refine Same.upd rfl ?_; refine Same.upd rfl ?_; refine Same.upd rfl ?_; refine Same.upd rfl ?_; refine Same.upd rfl ?_; refine Same.upd rfl ?_; refine Same.upd rfl ?_; refine Same.upd rfl ?_; refine Same.upd rfl ?_; refine Same.upd rfl ?_; refine Same.upd rfl ?_; refine Same.upd rfl ?_; refine Same.upd rfl ?_; refine Same.upd rfl ?_; refine Same.upd rfl ?_; refine Same.upd rfl ?_; refine Same.upd rfl ?_; refine Same.upd rfl ?_; refine Same.upd rfl ?_; refine Same.upd rfl ?_; refine Same.upd rfl ?_; refine Same.upd rfl ?_; refine Same.upd rfl ?_; refine Same.upd rfl ?_; refine Same.upd rfl ?_; refine Same.upd rfl ?_; refine Same.upd rfl ?_; refine Same.upd rfl ?_; exact Same.ovN)), rs.length - (i + 1), by omega, i + 1, a4, n4, c4, congrArg (Value.int .i64) (by omega), rfl, by rw [hfs]; exact rfl, rfl, by omega, hA.ext (hE2.trans x75) (Nat.le_refl _), hO4⟩
  · rw [stepR, if_neg hk2] at hfs
    have hO3 := hO2.ext hS_b14.ext
    have hE3 := hE2.trans hS_b14.ext
    (refine jz ?_; refine jjB ?_; refine jjB ?_; refine jjC ?_; refine jm ?_; refine jn rfl ?_; refine jm ?_; refine jn rfl ?_; refine jN rfl rfl rfl ?_; apply jI; exact eI rfl; refine jjk rfl rfl (by omega) ?_; apply jI; exact eB rfl; refine jT rfl rfl rfl ?_; refine jm ?_; refine jn rfl ?_; refine jT rfl rfl rfl ?_; refine jm ?_; refine jn rfl ?_; refine jT rfl rfl rfl ?_; refine jN rfl rfl rfl ?_; refine jT rfl rfl rfl ?_; apply jI; exact eI rfl; refine jT rfl rfl rfl ?_; refine jjk rfl rfl (by omega) ?_; apply jL rfl; exact eB rfl; apply jI; exact eB rfl; refine jT rfl rfl rfl ?_; refine jm ?_; refine jn rfl ?_; refine jT rfl rfl rfl ?_; refine jm ?_; refine jn rfl ?_; refine jT rfl rfl rfl ?_; refine jN rfl rfl rfl ?_; refine jT rfl rfl rfl ?_; apply jI; exact eI rfl; refine jT rfl rfl rfl ?_; refine jjk rfl rfl (by omega) ?_; apply jL rfl; exact eB rfl; refine jz ?_; refine jjK rfl ?_; refine jjG ?_; refine jjB ?_; refine jjC ?_; refine jm ?_; refine jn rfl ?_; refine jN rfl rfl rfl ?_; refine jji rfl rfl (by omega) ?_; refine jz ?_; refine jjK rfl ?_; refine jjC ?_; refine jm ?_; refine jn rfl ?_; refine jN rfl rfl rfl ?_; apply jJ; exact eT rfl; refine jz ?_; refine jjC ?_; apply jI; exact eI rfl; refine jY rfl rfl (by omega) ?_; apply jJ; exact eI rfl; refine jz ?_)
    exact ⟨rfl, by ((refine Same.upd rfl ?_; refine Same.upd rfl ?_; refine Same.upd rfl ?_; refine Same.upd rfl ?_; refine Same.upd rfl ?_; refine Same.upd rfl ?_; refine Same.upd rfl ?_; refine Same.upd rfl ?_; refine Same.upd rfl ?_; refine Same.upd rfl ?_; refine Same.upd rfl ?_; refine Same.upd rfl ?_; refine Same.upd rfl ?_; refine Same.upd rfl ?_; refine Same.upd rfl ?_; refine Same.upd rfl ?_; refine Same.upd rfl ?_; refine Same.upd rfl ?_; refine Same.upd rfl ?_; refine Same.upd rfl ?_; refine Same.upd rfl ?_; refine Same.upd rfl ?_; refine Same.upd rfl ?_; refine Same.upd rfl ?_; refine Same.upd rfl ?_; refine Same.upd rfl ?_; refine Same.upd rfl ?_; refine Same.upd rfl ?_; refine Same.upd rfl ?_; refine Same.upd rfl ?_; refine Same.upd rfl ?_; refine Same.upd rfl ?_; refine Same.upd rfl ?_; refine Same.upd rfl ?_; refine Same.upd rfl ?_; refine Same.upd rfl ?_; refine Same.upd rfl ?_; refine Same.upd rfl ?_; refine Same.upd rfl ?_; refine Same.upd rfl ?_; refine Same.upd rfl ?_; refine Same.upd rfl ?_; exact Same.ovN)), rs.length - (i + 1), by omega, i + 1, oa, on, oc, congrArg (Value.int .i64) (by omega), rfl, by rw [hfs]; exact rfl, rfl, by omega, hE3, by rw [hfs]; exact hO3⟩
end Go.Proofs.YtgnjjocafmofaaaGreatDoor

/- The reference: copies that are valid. -/
namespace Go.Proofs.YtgnjjocafmofaaaGreatDoor
open Go.RowKit

theorem readT_get {cs : List Ch} {rs : List Rd} {k : Nat} (hk : k < cs.length) : (readT (txF cs) rs)[k]? = some (readC rs k (txC cs[k])) := by
  rw [readT, List.getElem?_mapIdx]
  simp [txF, hk]
theorem lens_no {cs : List Ch} {rs : List Rd} {k n : Nat} (hk : k < cs.length) (hn : n < cs[k].2.2.2.length) (h : inB 1 10 ((lineS cs[k].2.2.2[n].2.2 rs k n).length : Int) = false) : lensB (readT (txF cs) rs) = false := by
  have hg := readT_get (rs := rs) hk
  have hz := List.getElem?_eq_some_iff.1 hg
  obtain ⟨hl, e⟩ := hz
  refine all_no hl ?_
  rw [e]
  refine all_no (k := n) (by rw [readC, List.length_mapIdx, List.length_map]; exact hn) ?_
  simp only [readC, List.getElem_mapIdx, List.getElem_map]
  exact h
theorem lens_yes {cs : List Ch} {rs : List Rd} (h : ∀ (k : Nat) (hk : k < cs.length) (n : Nat) (hn : n < cs[k].2.2.2.length), inB 1 10 ((lineS cs[k].2.2.2[n].2.2 rs k n).length : Int) = true) : lensB (readT (txF cs) rs) = true := by
  refine all_yes fun k hk => ?_
  have hk' : k < cs.length := by rw [readT, List.length_mapIdx, txF_len] at hk; exact hk
  have hg := readT_get (rs := rs) hk'
  rw [List.getElem?_eq_getElem hk] at hg
  rw [Option.some.inj hg]
  refine all_yes fun n hn => ?_
  have hn' : n < cs[k].2.2.2.length := by rw [readC, List.length_mapIdx, List.length_map] at hn; exact hn
  simp only [readC, List.getElem_mapIdx, List.getElem_map]
  exact h k hk' n hn'
theorem lineS_len {l : List ByteArray} {rs : List Rd} {k n : Int} (hl : l.length ≤ 1000) (hr : rs.length ≤ 1000) : (lineS l rs k n).length ≤ 1002001 := by
  have h : ∀ q, ((List.range q).flatMap (wrdS l rs k n)).length ≤ q * 1001 := fun q => by
    induction q with
    | zero => simp
    | succ q ih =>
      rw [range_snoc, List.length_append]
      have := wrdS_len l rs k n q
      omega
  have h2 := h (l.length + 1)
  rw [lineS]
  omega

set_option maxHeartbeats 16000000 in
theorem Copy_ref1 (a : Option Addr) (c : Nat) (cs : List Ch) (w : World) [hrow : RowI w (.slice a cs.length c) true 2 (cs.map encCh)] [hT : TextI w cs] (id : Int) (ra : Option Addr) (rc : Nat) (rs : List Rd) (hs : SmallT cs) (hrs : SmallR rs) [hrd : RowI w (.slice ra rs.length rc) true 5 (rs.map encRd)] :
    Ct Tryz.prog 50 [.agg #[.slice a cs.length c], .agg #[.int .i64 id, .slice ra rs.length rc]] w fun v _ => v = .bool (copyB (txF cs) id rs) := by
  have hs1 := hs.1
  have hrl := hrs.len
  refine Ct.ofW (by simp) ?_
  (refine jjB ?_; refine jjC ?_)
  (refine jy rfl ?_; intro b2 w_b2 hb_b2 hs_b2 hS_b2 hk_b2; have hA_b2 := At.ofBlock hk_b2)
  skip
  (refine jy rfl ?_; intro b3 w_b3 hb_b3 hs_b3 hS_b3 hk_b3; have hA_b3 := At.ofBlock hk_b3)
  (apply jJ; exact eB rfl; refine jz ?_; refine jjB ?_; refine jjB ?_; refine jjC ?_; refine jm ?_; refine jn rfl ?_; refine jN rfl rfl rfl ?_)
  obtain ⟨B1, h1⟩ : ∃ B, inB 0 9999 id = B := ⟨_, rfl⟩
  refine jjQ ((within_postilref01 id 0 9999 _).mono fun v _ _ h => h.trans (by rw [h1])) rfl rfl ?_
  rintro _ w2 hS2 rfl
  cases B1
  · (refine jq rfl ?_; apply jI; exact eB rfl; refine jU rfl rfl rfl rfl ?_; refine jU rfl rfl rfl rfl ?_; refine jU rfl rfl rfl rfl ?_; refine jU rfl rfl rfl rfl ?_; apply jK rfl; exact eB rfl; refine jz ?_; refine jjJ rfl ?_; refine jjB ?_; refine jjC ?_; apply jJ; exact eB rfl; refine jz ?_; refine jjF ?_; refine jB rfl rfl ⟨inferInstance, ?_⟩)
    rw [copyB_id h1]; exact rfl
  by_cases h20 : rs.length ≤ 20
  rotate_left
  · (refine jp rfl ?_; apply jI; exact eB rfl; refine jT rfl rfl rfl ?_; refine jm ?_; refine jn rfl ?_; refine jT rfl rfl rfl ?_; refine jN rfl rfl rfl ?_; refine jT rfl rfl rfl ?_; refine jh rfl ?_; refine jT rfl rfl rfl ?_; refine jjd rfl rfl (by omega) ?_; apply jL rfl; exact eB rfl; refine jz ?_; refine jjJ rfl ?_; refine jjB ?_; refine jjC ?_; apply jJ; exact eB rfl; refine jz ?_; refine jjF ?_; refine jB rfl rfl ⟨inferInstance, ?_⟩)
    rw [copyB_len h20]; exact rfl
  (refine jp rfl ?_; apply jI; exact eB rfl; refine jT rfl rfl rfl ?_; refine jm ?_; refine jn rfl ?_; refine jT rfl rfl rfl ?_; refine jN rfl rfl rfl ?_; refine jT rfl rfl rfl ?_; refine jh rfl ?_; refine jT rfl rfl rfl ?_; refine jje rfl rfl (by omega) ?_; apply jL rfl; exact eB rfl; refine jz ?_; refine jjK rfl ?_; refine jjG ?_; refine jjB ?_; refine jjB ?_; refine jjC ?_; apply jJ; exact eI rfl; refine jz ?_; refine jjD ?_)
  have hE2 : Ext w w2 := inferInstance
  refine W.keep0 [(2, .pointer (some ⟨b2, 0, none⟩)), (3, .pointer (some ⟨b3, 0, none⟩)), (5, .int .i64 ((0 : Nat) : Int))] ⟨eP rfl, eP rfl, eI rfl, trivial⟩ fun s0 => ?_
  have hb22 : At w2 b2 0 [.slice a cs.length c] := inferInstance
  have hb32 : At w2 b3 0 [.int .i64 id, .slice ra rs.length rc] := inferInstance
  refine W.loop (19 :: 20 :: 21 :: 22 :: 23 :: 26 :: 27 :: 28 :: 29 :: 30 :: 6 :: 31 :: 32 :: 33 :: 34 :: 4 :: 35 :: 36 :: 37 :: 38 :: 39 :: 40 :: 41 :: 42 :: 43 :: 44 :: 45 :: 46 :: 47 :: 48 :: 49 :: 50 :: 51 :: 52 :: 53 :: 54 :: 55 :: 56 :: 57 :: 58 :: 59 :: 60 :: 61 :: 62 :: 63 :: 64 :: 65 :: 66 :: 67 :: 68 :: 69 :: 70 :: 24 :: 25 :: 5 :: []) (fun gg s' V => ∃ (i : Nat), s' 5 = .int .i64 ((i : Nat) : Int) ∧ gg = rs.length - i ∧ i ≤ rs.length ∧ (∀ (q : Nat) (hq : q < rs.length), q < i → readB (txF cs) rs[q] = true) ∧ ∀ (q : Nat) (hq : q + 1 < rs.length), q + 1 < i → nextB rs[q] rs[q + 1] = true) rs.length ⟨0, rfl, rfl, Nat.zero_le _, by intros; omega, by intros; omega⟩ ?_
  rintro _ sd V hSV ⟨i, h5, rfl, hi, hpre, hnx⟩
  refine W.fix h5 ?_
  clear h5
  have hEV : Ext w V := hE2.trans hSV.ext
  by_cases hir : i < rs.length
  rotate_left
  · have hyes := copyB_yes h1 h20 (fun q hq => hpre q hq (by omega)) (fun q hq => hnx q hq (by omega)) (t := txF cs)
    (refine jjB ?_; refine jjB ?_; refine jjC ?_; apply jI; exact eI rfl; refine jm ?_; refine jn rfl ?_; refine jN rfl rfl rfl ?_; refine jh rfl ?_; refine jja rfl rfl (by omega) ?_; refine jz ?_; refine jjK rfl ?_; refine jjE ?_; refine jjB ?_; refine jjB ?_; refine jjC ?_; apply jJ; exact eI rfl; refine jz ?_; refine jjD ?_)
    refine W.keep0 [(2, .pointer (some ⟨b2, 0, none⟩)), (3, .pointer (some ⟨b3, 0, none⟩)), (7, .int .i64 ((0 : Nat) : Int))] ⟨eP rfl, eP rfl, eI rfl, trivial⟩ fun s1 => ?_
    refine W.loop (71 :: 72 :: 73 :: 74 :: 75 :: 8 :: 78 :: 79 :: 80 :: 81 :: 82 :: 83 :: 84 :: 85 :: 86 :: 89 :: 90 :: 91 :: 92 :: 93 :: 94 :: 95 :: 96 :: 4 :: 87 :: 88 :: 76 :: 77 :: 7 :: []) (fun gg s' V => ∃ (k : Nat), s' 7 = .int .i64 ((k : Nat) : Int) ∧ gg = cs.length - k ∧ k ≤ cs.length ∧ (∀ (k' : Nat) (hk : k' < cs.length), k' < k → ∀ (n : Nat) (hn : n < cs[k'].2.2.2.length), inB 1 10 ((lineS cs[k'].2.2.2[n].2.2 rs k' n).length : Int) = true)) cs.length ⟨0, rfl, rfl, Nat.zero_le _, by intros; omega⟩ ?_
    rintro _ sd2 V2 hSV2 ⟨k, h7, rfl, hk, hpk⟩
    refine W.fix h7 ?_
    clear h7
    by_cases hkc : k < cs.length
    rotate_left
    · have hl := lens_yes (rs := rs) (cs := cs) fun q hq => hpk q hq (by omega)
      (refine jjB ?_; refine jjB ?_; refine jjC ?_; apply jI; exact eI rfl; refine jm ?_; refine jn rfl ?_; refine jN rfl rfl rfl ?_; refine jh rfl ?_; refine jja rfl rfl (by omega) ?_; refine jz ?_; refine jjK rfl ?_; refine jjE ?_; refine jjB ?_; refine jjC ?_; apply jJ; exact eB rfl; refine jz ?_; refine jjF ?_; refine jB rfl rfl ⟨inferInstance, ?_⟩)
      rw [hyes, hl]; exact rfl
    have hsk := hs.2 _ (List.getElem_mem hkc)
    (refine jjB ?_; refine jjB ?_; refine jjC ?_; apply jI; exact eI rfl; refine jm ?_; refine jn rfl ?_; refine jN rfl rfl rfl ?_; refine jh rfl ?_; refine jjZ rfl rfl (by omega) ?_; refine jz ?_; refine jjJ rfl ?_; refine jjG ?_; refine jjB ?_; refine jjD ?_; refine jjB ?_; refine jjC ?_; apply jJ; exact eI rfl; refine jz ?_; refine jjD ?_)
    refine W.keep [(2, .pointer (some ⟨b2, 0, none⟩)), (3, .pointer (some ⟨b3, 0, none⟩)), (7, .int .i64 ((k : Nat) : Int)), (8, .int .i64 ((0 : Nat) : Int))] (D := (71 :: 72 :: 73 :: 74 :: 75 :: 8 :: 78 :: 79 :: 80 :: 81 :: 82 :: 83 :: 84 :: 85 :: 86 :: 89 :: 90 :: 91 :: 92 :: 93 :: 94 :: 95 :: 96 :: 4 :: 87 :: 88 :: 76 :: 77 :: 7 :: [])) (sO := upds s1 _) (by ((refine Same.upd rfl ?_; refine Same.upd rfl ?_; refine Same.upd rfl ?_; refine Same.upd rfl ?_; refine Same.upd rfl ?_; refine Same.upd rfl ?_; refine Same.upd rfl ?_; exact Same.ovN))) ⟨eP rfl, eP rfl, eI rfl, eI rfl, trivial⟩ fun s2 hs2' => ?_
    refine W.loop (78 :: 79 :: 80 :: 81 :: 82 :: 83 :: 84 :: 85 :: 86 :: 89 :: 90 :: 91 :: 92 :: 93 :: 94 :: 95 :: 96 :: 4 :: 87 :: 88 :: 8 :: []) (fun gg s' V => ∃ (n : Nat), s' 8 = .int .i64 ((n : Nat) : Int) ∧ gg = cs[k].2.2.2.length - n ∧ n ≤ cs[k].2.2.2.length ∧ (∀ (n' : Nat) (hn : n' < cs[k].2.2.2.length), n' < n → inB 1 10 ((lineS cs[k].2.2.2[n'].2.2 rs k n').length : Int) = true)) cs[k].2.2.2.length ⟨0, rfl, rfl, Nat.zero_le _, by intros; omega⟩ ?_
    rintro _ sd3 V3 hSV3 ⟨n, h8, rfl, hn, hpn⟩
    refine W.fix h8 ?_
    clear h8
    by_cases hnl : n < cs[k].2.2.2.length
    rotate_left
    · (refine jjB ?_; refine jjB ?_; refine jjC ?_; apply jI; exact eI rfl; refine jm ?_; refine jn rfl ?_; refine jN rfl rfl rfl ?_; apply jI; exact eI rfl; refine jF rfl rfl rfl (map_get (by omega)) ?_; intro _ _ _; refine jm ?_; refine jn rfl ?_; refine jP rfl rfl rfl ?_; refine jh rfl ?_; refine jja rfl rfl (by omega) ?_; refine jz ?_; refine jjK rfl ?_; refine jjE ?_; refine jjC ?_; apply jI; exact eI rfl; refine jY rfl rfl (by omega) ?_; apply jJ; exact eI rfl; refine jz ?_)
      refine ⟨rfl, by ((refine Same.upd rfl ?_; refine Same.upd rfl ?_; refine Same.upd rfl ?_; refine Same.upd rfl ?_; refine Same.upd rfl ?_; refine Same.upd rfl ?_; refine Same.upd rfl ?_; refine Same.upd rfl ?_; refine Same.upd rfl ?_; refine Same.upd rfl ?_; refine Same.upd rfl ?_; refine Same.upd rfl ?_; refine Same.upd rfl ?_; refine Same.ovN' rfl ?_; assumption)), cs.length - (k + 1), by omega, inferInstance, k + 1, congrArg (Value.int .i64) (by omega), rfl, by omega, fun k' hk' hkk n' hn' => ?_⟩
      by_cases e : k' = k
      · subst e; exact hpn n' hn' (by omega)
      · exact hpk k' hk' (by omega) n' hn'
    have hsn := (hsk.2 _ (List.getElem_mem hnl)).1
    have hll := lineS_len (k := (k : Int)) (n := (n : Int)) hsn hrl
    have hz : ∃ B, inB 1 10 ((lineS cs[k].2.2.2[n].2.2 rs k n).length : Int) = B := ⟨_, rfl⟩
    obtain ⟨B, hB⟩ := hz
    (refine jjB ?_; refine jjB ?_; refine jjC ?_; apply jI; exact eI rfl; refine jm ?_; refine jn rfl ?_; refine jN rfl rfl rfl ?_; apply jI; exact eI rfl; refine jF rfl rfl rfl (map_get (by omega)) ?_; intro _ _ _; refine jm ?_; refine jn rfl ?_; refine jP rfl rfl rfl ?_; refine jh rfl ?_; refine jjZ rfl rfl (by omega) ?_; refine jz ?_; refine jjJ rfl ?_; refine jjG ?_; refine jjB ?_; refine jjD ?_; refine jjB ?_; refine jjC ?_; refine jO rfl rfl rfl rfl ?_; refine jO rfl rfl rfl rfl ?_; apply jI; exact eI rfl; apply jI; exact eI rfl)
    refine jjQ (read_ref1 a c cs _ id ra rc rs hs hrl k n hkc hnl) rfl rfl ?_
    intro lv w4 hS4 hOl
    have hz := hOl.slice
    obtain ⟨a4, c4, hlv⟩ := hz
    rw [List.length_map] at hlv
    subst hlv
    (refine jh rfl ?_)
    refine jjQ ((within_postilref01 ((lineS cs[k].2.2.2[n].2.2 rs k n).length : Int) 1 10 _).mono fun v _ _ h => h.trans (by rw [hB])) rfl rfl ?_
    rintro _ w5 hS5 rfl
    cases B
    · have hl := lens_no hkc hnl hB
      (refine jq rfl ?_; refine jz ?_; refine jjJ rfl ?_; refine jjB ?_; refine jjC ?_; apply jJ; exact eB rfl; refine jz ?_; refine jjF ?_; refine jB rfl rfl ⟨inferInstance, ?_⟩)
      rw [hyes, hl]; exact rfl
    · (refine jp rfl ?_; refine jz ?_; refine jjK rfl ?_; refine jjG ?_; refine jjC ?_; apply jI; exact eI rfl; refine jY rfl rfl (by omega) ?_; apply jJ; exact eI rfl; refine jz ?_)
      refine ⟨rfl, by ((refine Same.upd rfl ?_; refine Same.upd rfl ?_; refine Same.upd rfl ?_; refine Same.upd rfl ?_; refine Same.upd rfl ?_; refine Same.upd rfl ?_; refine Same.upd rfl ?_; refine Same.upd rfl ?_; refine Same.upd rfl ?_; refine Same.upd rfl ?_; refine Same.upd rfl ?_; refine Same.upd rfl ?_; refine Same.upd rfl ?_; refine Same.upd rfl ?_; refine Same.upd rfl ?_; refine Same.upd rfl ?_; refine Same.upd rfl ?_; refine Same.upd rfl ?_; refine Same.upd rfl ?_; refine Same.upd rfl ?_; refine Same.upd rfl ?_; exact Same.ovN)), cs[k].2.2.2.length - (n + 1), by omega, inferInstance, n + 1, congrArg (Value.int .i64) (by omega), rfl, by omega, fun n' hn' hnn => ?_⟩
      by_cases e : n' = n
      · subst e; exact hB
      · exact hpn n' hn' (by omega)
  have hrm := List.getElem_mem hir
  have hwd := hrs.word _ hrm
  have hby := hrs.byte _ hrm
  (refine jjB ?_; refine jjB ?_; refine jjC ?_; apply jI; exact eI rfl; refine jm ?_; refine jn rfl ?_; refine jN rfl rfl rfl ?_; refine jh rfl ?_; refine jjZ rfl rfl (by omega) ?_; refine jz ?_; refine jjJ rfl ?_; refine jjG ?_; refine jjB ?_; refine jjD ?_; refine jjB ?_; refine jjC ?_; refine jm ?_; refine jn rfl ?_; refine jN rfl rfl rfl ?_; apply jI; exact eI rfl; refine jF rfl rfl rfl (map_get (by omega)) ?_; intro _ _ _; refine jQ rfl rfl ?_)
  (apply jjR rfl; (intro _; first|exact eI rfl|exact eB rfl|exact eP rfl|exact eS rfl|exact eT rfl|exact eA rfl|exact eU rfl|exact eF rfl|exact eM rfl|exact eN rfl|exact rfl); exact rfl; exact rfl; exact rfl; exact rfl; intro b6 w_b6 hb_b6 hs_b6 hS_b6 hk_b6; have hA_b6 := Bk.of hk_b6)
  have hz : ∃ B, readB (txF cs) rs[i] = B := ⟨_, rfl⟩
  obtain ⟨B, hB⟩ := hz
  (refine jz ?_; refine jjB ?_; refine jjB ?_; refine jjC ?_; refine jO rfl rfl rfl rfl ?_; refine jO rfl rfl rfl rfl ?_)
  refine jjQ ((reading_ref1 a c cs _ rs[i] hs hwd).mono fun v _ _ h => h.trans (by rw [hB])) rfl rfl ?_
  rintro _ w4 hS4 rfl
  cases B
  · (refine jq rfl ?_; refine jz ?_; refine jjJ rfl ?_; refine jjB ?_; refine jjC ?_; apply jJ; exact eB rfl; refine jz ?_; refine jjF ?_; refine jB rfl rfl ⟨inferInstance, ?_⟩)
    rw [copyB_read hir hB]; exact rfl
  have hpre' : ∀ (q : Nat) (hq : q < rs.length), q < i + 1 → readB (txF cs) rs[q] = true := fun q hq hqi => by
    by_cases e : q = i
    · subst e; exact hB
    · exact hpre q hq (by omega)
  have hE4 : Ext w w4 := inferInstance
  have hb34 : At w4 b3 0 [.int .i64 id, .slice ra rs.length rc] := inferInstance
  have hb64 : At w4 b6 0 [.int .i64 rs[i].1.1, .int .i64 rs[i].1.2.1, .int .i64 rs[i].1.2.2, .int .u8 rs[i].2.1, .string rs[i].2.2] := (Bk.toAt (h := hA_b6)).ext hS4.ext
  by_cases hi0 : i = 0
  · (refine jp rfl ?_; refine jz ?_; refine jjK rfl ?_; refine jjG ?_; refine jjB ?_)
    refine W.draw (fun w' => Ext w4 w') ?_
    intro w1 hS1
    have x1 := hS1.ext
    (refine jjV [0] ?_ ?_ ?_; (decide +kernel); (exact x1); (((apply jjT; exact rfl; rintro w' hq; have := hq.toStep; apply jI; exact eI rfl; refine jz ?_; exact ⟨rfl, rfl⟩; refine jjU ?_))))
    refine jjV [1] (by decide +kernel) x1 (jjT (v := .bool false) rfl (fun w' q1 => ?_) (jjU ?_)); (refine jje rfl rfl (by omega) ?_; refine jz ?_; exact ⟨rfl, rfl⟩)
    (refine jjV [2, 3, 4, 5, 6, 7, 8, 9, 10, 11, 12, 13, 14, 15, 16, 17, 18, 19, 20, 21, 22, 23, 24, 25, 26, 27, 28, 29, 30, 31, 32, 33, 34, 35] ?_ ?_ ?_; (decide +kernel); (exact x1); (((apply jjT; exact rfl; rintro w' hq; have := hq.toStep; apply jI; exact eB rfl; refine jz ?_; exact ⟨rfl, rfl⟩; apply jjT; exact rfl; rintro w' hq; have := hq.toStep; refine jU rfl rfl rfl rfl ?_; refine jz ?_; exact ⟨rfl, rfl⟩; apply jjT; exact rfl; rintro w' hq; have := hq.toStep; refine jU rfl rfl rfl rfl ?_; refine jz ?_; exact ⟨rfl, rfl⟩; apply jjT; exact rfl; rintro w' hq; have := hq.toStep; refine jU rfl rfl rfl rfl ?_; refine jz ?_; exact ⟨rfl, rfl⟩; apply jjT; exact rfl; rintro w' hq; have := hq.toStep; refine jU rfl rfl rfl rfl ?_; refine jz ?_; exact ⟨rfl, rfl⟩; apply jjT; exact rfl; rintro w' hq; have := hq.toStep; refine jU rfl rfl rfl rfl ?_; refine jz ?_; exact ⟨rfl, rfl⟩; apply jjT; exact rfl; rintro w' hq; have := hq.toStep; refine jU rfl rfl rfl rfl ?_; refine jz ?_; exact ⟨rfl, rfl⟩; apply jjT; exact rfl; rintro w' hq; have := hq.toStep; refine jU rfl rfl rfl rfl ?_; refine jz ?_; exact ⟨rfl, rfl⟩; apply jjT; exact rfl; rintro w' hq; have := hq.toStep; refine jU rfl rfl rfl rfl ?_; refine jz ?_; exact ⟨rfl, rfl⟩; apply jjT; exact rfl; rintro w' hq; have := hq.toStep; refine jU rfl rfl rfl rfl ?_; refine jz ?_; exact ⟨rfl, rfl⟩; apply jjT; exact rfl; rintro w' hq; have := hq.toStep; refine jU rfl rfl rfl rfl ?_; refine jz ?_; exact ⟨rfl, rfl⟩; apply jjT; exact rfl; rintro w' hq; have := hq.toStep; refine jU rfl rfl rfl rfl ?_; refine jz ?_; exact ⟨rfl, rfl⟩; apply jjT; exact rfl; rintro w' hq; have := hq.toStep; refine jV rfl rfl ?_; refine jz ?_; exact ⟨rfl, rfl⟩; apply jjT; exact rfl; rintro w' hq; have := hq.toStep; refine jV rfl rfl ?_; refine jz ?_; exact ⟨rfl, rfl⟩; apply jjT; exact rfl; rintro w' hq; have := hq.toStep; refine jV rfl rfl ?_; refine jz ?_; exact ⟨rfl, rfl⟩; apply jjT; exact rfl; rintro w' hq; have := hq.toStep; refine jV rfl rfl ?_; refine jz ?_; exact ⟨rfl, rfl⟩; apply jjT; exact rfl; rintro w' hq; have := hq.toStep; refine jV rfl rfl ?_; refine jz ?_; exact ⟨rfl, rfl⟩; apply jjT; exact rfl; rintro w' hq; have := hq.toStep; refine jV rfl rfl ?_; refine jz ?_; exact ⟨rfl, rfl⟩; apply jjT; exact rfl; rintro w' hq; have := hq.toStep; refine jV rfl rfl ?_; refine jz ?_; exact ⟨rfl, rfl⟩; apply jjT; exact rfl; rintro w' hq; have := hq.toStep; refine jV rfl rfl ?_; refine jz ?_; exact ⟨rfl, rfl⟩; apply jjT; exact rfl; rintro w' hq; have := hq.toStep; refine jV rfl rfl ?_; refine jz ?_; exact ⟨rfl, rfl⟩; apply jjT; exact rfl; rintro w' hq; have := hq.toStep; refine jV rfl rfl ?_; refine jz ?_; exact ⟨rfl, rfl⟩; apply jjT; exact rfl; rintro w' hq; have := hq.toStep; refine jV rfl rfl ?_; refine jz ?_; exact ⟨rfl, rfl⟩; apply jjT; exact rfl; rintro w' hq; have := hq.toStep; refine jV rfl rfl ?_; refine jz ?_; exact ⟨rfl, rfl⟩; apply jjT; exact rfl; rintro w' hq; have := hq.toStep; refine jV rfl rfl ?_; refine jz ?_; exact ⟨rfl, rfl⟩; apply jjT; exact rfl; rintro w' hq; have := hq.toStep; refine jV rfl rfl ?_; refine jz ?_; exact ⟨rfl, rfl⟩; apply jjT; exact rfl; rintro w' hq; have := hq.toStep; refine jV rfl rfl ?_; refine jz ?_; exact ⟨rfl, rfl⟩; apply jjT; exact rfl; rintro w' hq; have := hq.toStep; refine jV rfl rfl ?_; refine jz ?_; exact ⟨rfl, rfl⟩; apply jjT; exact rfl; rintro w' hq; have := hq.toStep; refine jV rfl rfl ?_; refine jz ?_; exact ⟨rfl, rfl⟩; apply jjT; exact rfl; rintro w' hq; have := hq.toStep; refine jV rfl rfl ?_; refine jz ?_; exact ⟨rfl, rfl⟩; apply jjT; exact rfl; rintro w' hq; have := hq.toStep; refine jV rfl rfl ?_; refine jz ?_; exact ⟨rfl, rfl⟩; apply jjT; exact rfl; rintro w' hq; have := hq.toStep; refine jV rfl rfl ?_; refine jz ?_; exact ⟨rfl, rfl⟩; apply jjT; exact rfl; rintro w' hq; have := hq.toStep; refine jU rfl rfl rfl rfl ?_; refine jz ?_; exact ⟨rfl, rfl⟩; apply jjT; exact rfl; rintro w' hq; have := hq.toStep; apply jL rfl; exact eB rfl; refine jz ?_; exact ⟨rfl, rfl⟩; refine jjU ?_))))
    refine jjX (by decide +kernel) x1 ?_
    have := x1.toStep
    (refine jjK rfl ?_; refine jjG ?_; refine jjC ?_; apply jI; exact eI rfl; refine jY rfl rfl (by omega) ?_; apply jJ; exact eI rfl; refine jz ?_)
    exact ⟨rfl, by ((refine Same.upd rfl ?_; refine Same.upd rfl ?_; refine Same.upd rfl ?_; refine Same.upd rfl ?_; refine Same.upd rfl ?_; refine Same.upd rfl ?_; refine Same.upd rfl ?_; refine Same.upd rfl ?_; refine Same.upd rfl ?_; refine Same.upd rfl ?_; refine Same.upd rfl ?_; refine Same.upd rfl ?_; refine Same.upd rfl ?_; refine Same.upd rfl ?_; refine Same.upd rfl ?_; refine Same.upd rfl ?_; refine Same.upd rfl ?_; refine Same.upd rfl ?_; refine Same.upd rfl ?_; refine Same.upd rfl ?_; refine Same.upd rfl ?_; refine Same.upd rfl ?_; refine Same.upd rfl ?_; refine Same.upd rfl ?_; refine Same.upd rfl ?_; refine Same.upd rfl ?_; refine Same.upd rfl ?_; refine Same.upd rfl ?_; refine Same.upd rfl ?_; refine Same.upd rfl ?_; refine Same.upd rfl ?_; refine Same.upd rfl ?_; refine Same.upd rfl ?_; refine Same.upd rfl ?_; refine Same.upd rfl ?_; refine Same.upd rfl ?_; refine Same.upd rfl ?_; refine Same.upd rfl ?_; refine Same.upd rfl ?_; refine Same.upd rfl ?_; refine Same.upd rfl ?_; refine Same.upd rfl ?_; refine Same.upd rfl ?_; refine Same.upd rfl ?_; refine Same.upd rfl ?_; refine Same.upd rfl ?_; refine Same.upd rfl ?_; refine Same.upd rfl ?_; refine Same.upd rfl ?_; refine Same.upd rfl ?_; refine Same.upd rfl ?_; refine Same.upd rfl ?_; refine Same.upd rfl ?_; refine Same.upd rfl ?_; refine Same.upd rfl ?_; exact Same.ovN)), rs.length - (i + 1), by omega, inferInstance, i + 1, congrArg (Value.int .i64) (by omega), rfl, by omega, hpre', fun q hq hqi => by omega⟩
  have hi1 : ((i : Nat) : Int) - 1 = ((i - 1 : Nat) : Int) := by omega
  have hii : i - 1 < rs.length := by omega
  have hii2 : i - 1 + 1 < rs.length := by omega
  have hnx0 : ∀ b, nextB rs[i - 1] rs[i] = b → nextB rs[i - 1] rs[i - 1 + 1] = b := fun b h => by
    have e : i - 1 + 1 = i := by omega
    simpa only [e] using h
  have hnx' : nextB rs[i - 1] rs[i] = true → ∀ (q : Nat) (hq : q + 1 < rs.length), q + 1 < i + 1 → nextB rs[q] rs[q + 1] = true := fun h q hq hqi => by
    by_cases e : q = i - 1
    · subst e; exact hnx0 _ h
    · exact hnx q hq (by omega)
  have hz := (hrd.h.ext hE4).place' (map_get hii)
  obtain ⟨ba, oa, rfl, hA⟩ := hz
  have hA5 : At w4 ba (oa + (i - 1) * 5) [.int .i64 rs[i - 1].1.1, .int .i64 rs[i - 1].1.2.1, .int .i64 rs[i - 1].1.2.2, .int .u8 rs[i - 1].2.1, .string rs[i - 1].2.2] := hA
  have hA3 : At w4 ba (oa + (i - 1) * 5 + 0) [.int .i64 rs[i - 1].1.1, .int .i64 rs[i - 1].1.2.1, .int .i64 rs[i - 1].1.2.2] := At.pre (ds := [.int .u8 rs[i - 1].2.1, .string rs[i - 1].2.2]) hA5
  clear hA
  have hz : ∃ B, befP rs[i].1 rs[i - 1].1 = B := ⟨_, rfl⟩
  obtain ⟨B2, hB2⟩ := hz
  (refine jp rfl ?_; refine jz ?_; refine jjK rfl ?_; refine jjG ?_; refine jjB ?_)
  refine W.draw (fun w' => Ext w4 w') ?_
  intro w1 hS1
  have x1 := hS1.ext
  (refine jjV [0] ?_ ?_ ?_; (decide +kernel); (exact x1); (((apply jjT; exact rfl; rintro w' hq; have := hq.toStep; apply jI; exact eI rfl; refine jz ?_; exact ⟨rfl, rfl⟩; refine jjU ?_))))
  refine jjV [1] (by decide +kernel) x1 (jjT (v := .bool true) rfl (fun w' q1 => ?_) (jjU ?_)); (refine jjd rfl rfl (by omega) ?_; refine jz ?_; exact ⟨rfl, rfl⟩)
  (refine jjV [2, 3, 4, 5, 6, 7, 8] ?_ ?_ ?_; (decide +kernel); (exact x1); (((apply jjT; exact rfl; rintro w' hq; have := hq.toStep; apply jI; exact eB rfl; refine jz ?_; exact ⟨rfl, rfl⟩; apply jjT; exact rfl; rintro w' hq; have := hq.toStep; refine jT rfl rfl rfl ?_; refine jm ?_; refine jn rfl ?_; refine jz ?_; exact ⟨rfl, rfl⟩; apply jjT; exact rfl; rintro w' hq; have := hq.toStep; refine jT rfl rfl rfl ?_; refine jO rfl rfl rfl rfl ?_; refine jz ?_; exact ⟨rfl, rfl⟩; apply jjT; exact rfl; rintro w' hq; have := hq.toStep; refine jT rfl rfl rfl ?_; refine jm ?_; refine jn rfl ?_; refine jz ?_; exact ⟨rfl, rfl⟩; apply jjT; exact rfl; rintro w' hq; have := hq.toStep; refine jT rfl rfl rfl ?_; refine jN rfl rfl rfl ?_; refine jz ?_; exact ⟨rfl, rfl⟩; apply jjT; exact rfl; rintro w' hq; have := hq.toStep; refine jT rfl rfl rfl ?_; apply jI; exact eI rfl; refine jz ?_; exact ⟨rfl, rfl⟩; apply jjT; exact rfl; rintro w' hq; have := hq.toStep; refine jT rfl rfl rfl ?_; refine jZ rfl rfl (by omega) ?_; refine jz ?_; exact ⟨rfl, rfl⟩; refine jjU ?_))))
  refine jjV [9] (by decide +kernel) x1 (jjT (v := .pointer (some ⟨ba, oa + (i - 1) * 5, none⟩)) rfl (fun w' q1 => ?_) (jjU ?_)); (refine jT rfl rfl rfl ?_; refine jH (i - 1) rfl rfl hi1 (by omega) ?_; refine jz ?_; exact ⟨rfl, rfl⟩)
  (refine jjV [10] ?_ ?_ ?_; (decide +kernel); (exact x1); (((apply jjT; exact rfl; rintro w' hq; have := hq.toStep; refine jT rfl rfl rfl ?_; refine jm ?_; refine jn rfl ?_; refine jz ?_; exact ⟨rfl, rfl⟩; refine jjU ?_))))
  refine jjV [11] (by decide +kernel) x1 (jjT (v := encPl rs[i - 1].1) rfl (fun w' q1 => ?_) (jjU ?_)); (refine jT rfl rfl rfl ?_; refine Ops.loadA (hA3.ext q1) rfl rfl rfl ?_; refine jz ?_; exact ⟨rfl, rfl⟩)
  (apply jjW 12; (decide +kernel); exact rfl; (exact x1))
  (refine jT rfl rfl rfl ?_)
  refine jjQ ((Before_ref1 rs[i].1 rs[i - 1].1 _).mono fun v _ _ h => h.trans (by rw [hB2])) rfl rfl ?_
  rintro _ w5 hS5 rfl
  refine jz ?_
  have x2 := x1.trans hS5.ext
  cases B2
  rotate_left
  · have hno : nextB rs[i - 1] rs[i] = false := by rw [nextB, hB2]; rfl
    (refine jjV [13, 14, 15, 16, 17, 18, 19, 20, 21, 22, 23, 24, 25, 26, 27, 28, 29, 30, 31, 32, 33, 34, 35] ?_ ?_ ?_; (decide +kernel); (exact x2); (((apply jjT; exact rfl; rintro w' hq; have := hq.toStep; refine jT rfl rfl rfl ?_; apply jI; exact eB rfl; refine jz ?_; exact ⟨rfl, rfl⟩; apply jjT; exact rfl; rintro w' hq; have := hq.toStep; refine jU rfl rfl rfl rfl ?_; refine jz ?_; exact ⟨rfl, rfl⟩; apply jjT; exact rfl; rintro w' hq; have := hq.toStep; refine jU rfl rfl rfl rfl ?_; refine jz ?_; exact ⟨rfl, rfl⟩; apply jjT; exact rfl; rintro w' hq; have := hq.toStep; refine jU rfl rfl rfl rfl ?_; refine jz ?_; exact ⟨rfl, rfl⟩; apply jjT; exact rfl; rintro w' hq; have := hq.toStep; refine jU rfl rfl rfl rfl ?_; refine jz ?_; exact ⟨rfl, rfl⟩; apply jjT; exact rfl; rintro w' hq; have := hq.toStep; refine jU rfl rfl rfl rfl ?_; refine jz ?_; exact ⟨rfl, rfl⟩; apply jjT; exact rfl; rintro w' hq; have := hq.toStep; refine jU rfl rfl rfl rfl ?_; refine jz ?_; exact ⟨rfl, rfl⟩; apply jjT; exact rfl; rintro w' hq; have := hq.toStep; refine jU rfl rfl rfl rfl ?_; refine jz ?_; exact ⟨rfl, rfl⟩; apply jjT; exact rfl; rintro w' hq; have := hq.toStep; refine jU rfl rfl rfl rfl ?_; refine jz ?_; exact ⟨rfl, rfl⟩; apply jjT; exact rfl; rintro w' hq; have := hq.toStep; refine jU rfl rfl rfl rfl ?_; refine jz ?_; exact ⟨rfl, rfl⟩; apply jjT; exact rfl; rintro w' hq; have := hq.toStep; refine jU rfl rfl rfl rfl ?_; refine jz ?_; exact ⟨rfl, rfl⟩; apply jjT; exact rfl; rintro w' hq; have := hq.toStep; refine jU rfl rfl rfl rfl ?_; refine jz ?_; exact ⟨rfl, rfl⟩; apply jjT; exact rfl; rintro w' hq; have := hq.toStep; refine jV rfl rfl ?_; refine jz ?_; exact ⟨rfl, rfl⟩; apply jjT; exact rfl; rintro w' hq; have := hq.toStep; refine jV rfl rfl ?_; refine jz ?_; exact ⟨rfl, rfl⟩; apply jjT; exact rfl; rintro w' hq; have := hq.toStep; refine jV rfl rfl ?_; refine jz ?_; exact ⟨rfl, rfl⟩; apply jjT; exact rfl; rintro w' hq; have := hq.toStep; refine jV rfl rfl ?_; refine jz ?_; exact ⟨rfl, rfl⟩; apply jjT; exact rfl; rintro w' hq; have := hq.toStep; refine jV rfl rfl ?_; refine jz ?_; exact ⟨rfl, rfl⟩; apply jjT; exact rfl; rintro w' hq; have := hq.toStep; refine jV rfl rfl ?_; refine jz ?_; exact ⟨rfl, rfl⟩; apply jjT; exact rfl; rintro w' hq; have := hq.toStep; refine jV rfl rfl ?_; refine jz ?_; exact ⟨rfl, rfl⟩; apply jjT; exact rfl; rintro w' hq; have := hq.toStep; refine jV rfl rfl ?_; refine jz ?_; exact ⟨rfl, rfl⟩; apply jjT; exact rfl; rintro w' hq; have := hq.toStep; refine jU rfl rfl rfl rfl ?_; refine jz ?_; exact ⟨rfl, rfl⟩; apply jjT; exact rfl; rintro w' hq; have := hq.toStep; refine jT rfl rfl rfl ?_; apply jK rfl; exact eB rfl; refine jz ?_; exact ⟨rfl, rfl⟩; apply jjT; exact rfl; rintro w' hq; have := hq.toStep; apply jK rfl; exact eB rfl; refine jz ?_; exact ⟨rfl, rfl⟩; refine jjU ?_))))
    refine jjX (by decide +kernel) x2 ?_
    have := x2.toStep
    (refine jjJ rfl ?_; refine jjB ?_; refine jjC ?_; apply jJ; exact eB rfl; refine jz ?_; refine jjF ?_; refine jB rfl rfl ⟨inferInstance, ?_⟩)
    rw [copyB_next hii2 (hnx0 _ hno)]; exact rfl
  (refine jjV [13, 14, 15, 16, 17, 18, 19] ?_ ?_ ?_; (decide +kernel); (exact x2); (((apply jjT; exact rfl; rintro w' hq; have := hq.toStep; refine jT rfl rfl rfl ?_; apply jI; exact eB rfl; refine jz ?_; exact ⟨rfl, rfl⟩; apply jjT; exact rfl; rintro w' hq; have := hq.toStep; refine jT rfl rfl rfl ?_; refine jm ?_; refine jn rfl ?_; refine jz ?_; exact ⟨rfl, rfl⟩; apply jjT; exact rfl; rintro w' hq; have := hq.toStep; refine jT rfl rfl rfl ?_; refine jO rfl rfl rfl rfl ?_; refine jz ?_; exact ⟨rfl, rfl⟩; apply jjT; exact rfl; rintro w' hq; have := hq.toStep; refine jT rfl rfl rfl ?_; refine jm ?_; refine jn rfl ?_; refine jz ?_; exact ⟨rfl, rfl⟩; apply jjT; exact rfl; rintro w' hq; have := hq.toStep; refine jT rfl rfl rfl ?_; refine jN rfl rfl rfl ?_; refine jz ?_; exact ⟨rfl, rfl⟩; apply jjT; exact rfl; rintro w' hq; have := hq.toStep; refine jT rfl rfl rfl ?_; apply jI; exact eI rfl; refine jz ?_; exact ⟨rfl, rfl⟩; apply jjT; exact rfl; rintro w' hq; have := hq.toStep; refine jT rfl rfl rfl ?_; refine jZ rfl rfl (by omega) ?_; refine jz ?_; exact ⟨rfl, rfl⟩; refine jjU ?_))))
  refine jjV [20] (by decide +kernel) x2 (jjT (v := .pointer (some ⟨ba, oa + (i - 1) * 5, none⟩)) rfl (fun w' q1 => ?_) (jjU ?_)); (refine jT rfl rfl rfl ?_; refine jH (i - 1) rfl rfl hi1 (by omega) ?_; refine jz ?_; exact ⟨rfl, rfl⟩)
  (refine jjV [21] ?_ ?_ ?_; (decide +kernel); (exact x2); (((apply jjT; exact rfl; rintro w' hq; have := hq.toStep; refine jT rfl rfl rfl ?_; refine jm ?_; refine jn rfl ?_; refine jz ?_; exact ⟨rfl, rfl⟩; refine jjU ?_))))
  refine jjV [22] (by decide +kernel) x2 (jjT (v := encPl rs[i - 1].1) rfl (fun w' q1 => ?_) (jjU ?_)); (refine jT rfl rfl rfl ?_; refine Ops.loadA (hA3.ext q1) rfl rfl rfl ?_; refine jz ?_; exact ⟨rfl, rfl⟩)
  by_cases he : rs[i].1 = rs[i - 1].1
  rotate_left
  · have hyes : nextB rs[i - 1] rs[i] = true := by rw [nextB, hB2, decide_eq_false he]; rfl
    refine jjV [23] (by decide +kernel) x2 (jjT (v := .bool false) rfl (fun w' q1 => ?_) (jjU ?_)); (refine jT rfl rfl rfl ?_; refine Ops.eqlT (enc := encPl) rs[i].1 rs[i - 1].1 rfl rfl ?_; rw [decide_eq_false he]; refine jz ?_; exact ⟨rfl, rfl⟩)
    (refine jjV [24, 25, 26, 27, 28, 29, 30, 31, 32, 33, 34, 35] ?_ ?_ ?_; (decide +kernel); (exact x2); (((apply jjT; exact rfl; rintro w' hq; have := hq.toStep; refine jT rfl rfl rfl ?_; apply jI; exact eB rfl; refine jz ?_; exact ⟨rfl, rfl⟩; apply jjT; exact rfl; rintro w' hq; have := hq.toStep; refine jU rfl rfl rfl rfl ?_; refine jz ?_; exact ⟨rfl, rfl⟩; apply jjT; exact rfl; rintro w' hq; have := hq.toStep; refine jU rfl rfl rfl rfl ?_; refine jz ?_; exact ⟨rfl, rfl⟩; apply jjT; exact rfl; rintro w' hq; have := hq.toStep; refine jU rfl rfl rfl rfl ?_; refine jz ?_; exact ⟨rfl, rfl⟩; apply jjT; exact rfl; rintro w' hq; have := hq.toStep; refine jU rfl rfl rfl rfl ?_; refine jz ?_; exact ⟨rfl, rfl⟩; apply jjT; exact rfl; rintro w' hq; have := hq.toStep; refine jU rfl rfl rfl rfl ?_; refine jz ?_; exact ⟨rfl, rfl⟩; apply jjT; exact rfl; rintro w' hq; have := hq.toStep; refine jU rfl rfl rfl rfl ?_; refine jz ?_; exact ⟨rfl, rfl⟩; apply jjT; exact rfl; rintro w' hq; have := hq.toStep; refine jU rfl rfl rfl rfl ?_; refine jz ?_; exact ⟨rfl, rfl⟩; apply jjT; exact rfl; rintro w' hq; have := hq.toStep; refine jU rfl rfl rfl rfl ?_; refine jz ?_; exact ⟨rfl, rfl⟩; apply jjT; exact rfl; rintro w' hq; have := hq.toStep; refine jT rfl rfl rfl ?_; apply jL rfl; exact eB rfl; refine jz ?_; exact ⟨rfl, rfl⟩; apply jjT; exact rfl; rintro w' hq; have := hq.toStep; refine jT rfl rfl rfl ?_; apply jL rfl; exact eB rfl; refine jz ?_; exact ⟨rfl, rfl⟩; apply jjT; exact rfl; rintro w' hq; have := hq.toStep; apply jK rfl; exact eB rfl; refine jz ?_; exact ⟨rfl, rfl⟩; refine jjU ?_))))
    refine jjX (by decide +kernel) x2 ?_
    have := x2.toStep
    (refine jjK rfl ?_; refine jjG ?_; refine jjC ?_; apply jI; exact eI rfl; refine jY rfl rfl (by omega) ?_; apply jJ; exact eI rfl; refine jz ?_)
    exact ⟨rfl, by ((refine Same.upd rfl ?_; refine Same.upd rfl ?_; refine Same.upd rfl ?_; refine Same.upd rfl ?_; refine Same.upd rfl ?_; refine Same.upd rfl ?_; refine Same.upd rfl ?_; refine Same.upd rfl ?_; refine Same.upd rfl ?_; refine Same.upd rfl ?_; refine Same.upd rfl ?_; refine Same.upd rfl ?_; refine Same.upd rfl ?_; refine Same.upd rfl ?_; refine Same.upd rfl ?_; refine Same.upd rfl ?_; refine Same.upd rfl ?_; refine Same.upd rfl ?_; refine Same.upd rfl ?_; refine Same.upd rfl ?_; refine Same.upd rfl ?_; refine Same.upd rfl ?_; refine Same.upd rfl ?_; refine Same.upd rfl ?_; refine Same.upd rfl ?_; refine Same.upd rfl ?_; refine Same.upd rfl ?_; refine Same.upd rfl ?_; refine Same.upd rfl ?_; refine Same.upd rfl ?_; refine Same.upd rfl ?_; refine Same.upd rfl ?_; refine Same.upd rfl ?_; refine Same.upd rfl ?_; refine Same.upd rfl ?_; refine Same.upd rfl ?_; refine Same.upd rfl ?_; refine Same.upd rfl ?_; refine Same.upd rfl ?_; refine Same.upd rfl ?_; refine Same.upd rfl ?_; refine Same.upd rfl ?_; refine Same.upd rfl ?_; refine Same.upd rfl ?_; refine Same.upd rfl ?_; refine Same.upd rfl ?_; refine Same.upd rfl ?_; refine Same.upd rfl ?_; refine Same.upd rfl ?_; refine Same.upd rfl ?_; refine Same.upd rfl ?_; refine Same.upd rfl ?_; refine Same.upd rfl ?_; refine Same.upd rfl ?_; refine Same.upd rfl ?_; exact Same.ovN)), rs.length - (i + 1), by omega, inferInstance, i + 1, congrArg (Value.int .i64) (by omega), rfl, by omega, hpre', hnx' hyes⟩
  refine jjV [23] (by decide +kernel) x2 (jjT (v := .bool true) rfl (fun w' q1 => ?_) (jjU ?_)); (refine jT rfl rfl rfl ?_; refine Ops.eqlT (enc := encPl) rs[i].1 rs[i - 1].1 rfl rfl ?_; rw [decide_eq_true he]; refine jz ?_; exact ⟨rfl, rfl⟩)
  (refine jjV [24, 25, 26, 27, 28] ?_ ?_ ?_; (decide +kernel); (exact x2); (((apply jjT; exact rfl; rintro w' hq; have := hq.toStep; refine jT rfl rfl rfl ?_; apply jI; exact eB rfl; refine jz ?_; exact ⟨rfl, rfl⟩; apply jjT; exact rfl; rintro w' hq; have := hq.toStep; refine jT rfl rfl rfl ?_; refine jm ?_; refine jn rfl ?_; refine jz ?_; exact ⟨rfl, rfl⟩; apply jjT; exact rfl; rintro w' hq; have := hq.toStep; refine jT rfl rfl rfl ?_; refine jN rfl rfl rfl ?_; refine jz ?_; exact ⟨rfl, rfl⟩; apply jjT; exact rfl; rintro w' hq; have := hq.toStep; refine jT rfl rfl rfl ?_; apply jI; exact eI rfl; refine jz ?_; exact ⟨rfl, rfl⟩; apply jjT; exact rfl; rintro w' hq; have := hq.toStep; refine jT rfl rfl rfl ?_; refine jZ rfl rfl (by omega) ?_; refine jz ?_; exact ⟨rfl, rfl⟩; refine jjU ?_))))
  refine jjV [29] (by decide +kernel) x2 (jjT (v := .pointer (some ⟨ba, oa + (i - 1) * 5, none⟩)) rfl (fun w' q1 => ?_) (jjU ?_)); (refine jT rfl rfl rfl ?_; refine jH (i - 1) rfl rfl hi1 (by omega) ?_; refine jz ?_; exact ⟨rfl, rfl⟩)
  (refine jjV [30] ?_ ?_ ?_; (decide +kernel); (exact x2); (((apply jjT; exact rfl; rintro w' hq; have := hq.toStep; refine jT rfl rfl rfl ?_; refine jm ?_; refine jn rfl ?_; refine jz ?_; exact ⟨rfl, rfl⟩; refine jjU ?_))))
  refine jjV [31] (by decide +kernel) x2 (jjT (v := .int .u8 rs[i - 1].2.1) rfl (fun w' q1 => ?_) (jjU ?_)); (refine jT rfl rfl rfl ?_; refine jR ((hA5.ext q1).get (i := 3) rfl) rfl rfl ?_; refine jz ?_; exact ⟨rfl, rfl⟩)
  by_cases hk2 : rs[i - 1].2.1 = 2
  · have hyes : nextB rs[i - 1] rs[i] = true := by rw [nextB, hB2, decide_eq_false (p := rs[i - 1].2.1 ≠ 2) (by simp [hk2]), Bool.and_false]; rfl
    refine jjV [32] (by decide +kernel) x2 (jjT (v := .bool false) rfl (fun w' q1 => ?_) (jjU ?_)); (refine jT rfl rfl rfl ?_; refine jjk rfl rfl (by omega) ?_; refine jz ?_; exact ⟨rfl, rfl⟩)
    (refine jjV [33, 34, 35] ?_ ?_ ?_; (decide +kernel); (exact x2); (((apply jjT; exact rfl; rintro w' hq; have := hq.toStep; refine jT rfl rfl rfl ?_; apply jK rfl; exact eB rfl; refine jz ?_; exact ⟨rfl, rfl⟩; apply jjT; exact rfl; rintro w' hq; have := hq.toStep; refine jT rfl rfl rfl ?_; apply jL rfl; exact eB rfl; refine jz ?_; exact ⟨rfl, rfl⟩; apply jjT; exact rfl; rintro w' hq; have := hq.toStep; apply jK rfl; exact eB rfl; refine jz ?_; exact ⟨rfl, rfl⟩; refine jjU ?_))))
    refine jjX (by decide +kernel) x2 ?_
    have := x2.toStep
    (refine jjK rfl ?_; refine jjG ?_; refine jjC ?_; apply jI; exact eI rfl; refine jY rfl rfl (by omega) ?_; apply jJ; exact eI rfl; refine jz ?_)
    exact ⟨rfl, by ((refine Same.upd rfl ?_; refine Same.upd rfl ?_; refine Same.upd rfl ?_; refine Same.upd rfl ?_; refine Same.upd rfl ?_; refine Same.upd rfl ?_; refine Same.upd rfl ?_; refine Same.upd rfl ?_; refine Same.upd rfl ?_; refine Same.upd rfl ?_; refine Same.upd rfl ?_; refine Same.upd rfl ?_; refine Same.upd rfl ?_; refine Same.upd rfl ?_; refine Same.upd rfl ?_; refine Same.upd rfl ?_; refine Same.upd rfl ?_; refine Same.upd rfl ?_; refine Same.upd rfl ?_; refine Same.upd rfl ?_; refine Same.upd rfl ?_; refine Same.upd rfl ?_; refine Same.upd rfl ?_; refine Same.upd rfl ?_; refine Same.upd rfl ?_; refine Same.upd rfl ?_; refine Same.upd rfl ?_; refine Same.upd rfl ?_; refine Same.upd rfl ?_; refine Same.upd rfl ?_; refine Same.upd rfl ?_; refine Same.upd rfl ?_; refine Same.upd rfl ?_; refine Same.upd rfl ?_; refine Same.upd rfl ?_; refine Same.upd rfl ?_; refine Same.upd rfl ?_; refine Same.upd rfl ?_; refine Same.upd rfl ?_; refine Same.upd rfl ?_; refine Same.upd rfl ?_; refine Same.upd rfl ?_; refine Same.upd rfl ?_; refine Same.upd rfl ?_; refine Same.upd rfl ?_; refine Same.upd rfl ?_; refine Same.upd rfl ?_; refine Same.upd rfl ?_; refine Same.upd rfl ?_; refine Same.upd rfl ?_; refine Same.upd rfl ?_; refine Same.upd rfl ?_; refine Same.upd rfl ?_; refine Same.upd rfl ?_; refine Same.upd rfl ?_; exact Same.ovN)), rs.length - (i + 1), by omega, inferInstance, i + 1, congrArg (Value.int .i64) (by omega), rfl, by omega, hpre', hnx' hyes⟩
  · have hno : nextB rs[i - 1] rs[i] = false := by rw [nextB, hB2, decide_eq_true he, decide_eq_true (p := rs[i - 1].2.1 ≠ 2) hk2]; rfl
    refine jjV [32] (by decide +kernel) x2 (jjT (v := .bool true) rfl (fun w' q1 => ?_) (jjU ?_)); (refine jT rfl rfl rfl ?_; refine jjj rfl rfl (by omega) ?_; refine jz ?_; exact ⟨rfl, rfl⟩)
    (refine jjV [33, 34, 35] ?_ ?_ ?_; (decide +kernel); (exact x2); (((apply jjT; exact rfl; rintro w' hq; have := hq.toStep; refine jT rfl rfl rfl ?_; apply jK rfl; exact eB rfl; refine jz ?_; exact ⟨rfl, rfl⟩; apply jjT; exact rfl; rintro w' hq; have := hq.toStep; refine jT rfl rfl rfl ?_; apply jL rfl; exact eB rfl; refine jz ?_; exact ⟨rfl, rfl⟩; apply jjT; exact rfl; rintro w' hq; have := hq.toStep; apply jK rfl; exact eB rfl; refine jz ?_; exact ⟨rfl, rfl⟩; refine jjU ?_))))
    refine jjX (by decide +kernel) x2 ?_
    have := x2.toStep
    (refine jjJ rfl ?_; refine jjB ?_; refine jjC ?_; apply jJ; exact eB rfl; refine jz ?_; refine jjF ?_; refine jB rfl rfl ⟨inferInstance, ?_⟩)
    rw [copyB_next hii2 (hnx0 _ hno)]; exact rfl
end Go.Proofs.YtgnjjocafmofaaaGreatDoor

/- The proof engine, part 30: comparisons of booleans; >= of strings. -/
namespace Go.Proofs.YtgnjjocafmofaaaGreatDoor
open Go.RowKit
section rules
variable {P : Program} {ro : Option Nat} {n : Nat} {all rest : List Oper} {K : Sl → World → Prop} {s : Sl} {w : World} {d : Nat} {ty : Nat} {pos : String} {af : Array Edge}
variable {x y : Operand} {t t' : Nat}
end rules
end Go.Proofs.YtgnjjocafmofaaaGreatDoor

/- The law: slips of copies. -/
namespace Go.Proofs.YtgnjjocafmofaaaGreatDoor
open Go.RowKit

section
variable (a : Option Addr) (c : Nat) (cs : List Ch) (id : Int) (ra : Option Addr) (rc : Nat) (rs : List Rd) (wd side : Int) (w : World) [hrow : RowI w (.slice a cs.length c) true 2 (cs.map encCh)] [hT : TextI w cs] [hrd : RowI w (.slice ra rs.length rc) true 5 (rs.map encRd)] [hgs : At w 1 0 sidesC] [hgk : At w 0 0 kindsC] [hmx : MxI w]
set_option maxRecDepth 20000 in
set_option maxHeartbeats 16000000 in
theorem SlipCopied_law (hby : ∀ r ∈ rs, 0 ≤ r.2.1 ∧ r.2.1 ≤ 255) (hd : 0 ≤ side ∧ side ≤ 255) (x1 : Nat) (hx1 : x1 ≤ 65535) : Ct Tryz.prog 11 [.agg #[.slice a cs.length c], .agg #[.int .i64 id, .slice ra rs.length rc], encCut wd side, .int .u16 (x1 : Int)] w fun v _ => v = .bool true := by
  refine Ct.ofW (by simp) ?_
  (refine jjB ?_; refine jjC ?_)
  (refine jy rfl ?_; intro b4 w_b4 hb_b4 hs_b4 hS_b4 hk_b4; have hA_b4 := At.ofBlock hk_b4)
  skip
  (refine jy rfl ?_; intro b5 w_b5 hb_b5 hs_b5 hS_b5 hk_b5; have hA_b5 := At.ofBlock hk_b5)
  have hx5 : At w_b5 b5 0 [.int .i64 id, .slice ra rs.length rc] := hA_b5
  skip
  (refine jy rfl ?_; intro b6 w_b6 hb_b6 hs_b6 hS_b6 hk_b6; have hA_b6 := At.ofBlock hk_b6)
  (apply jJ; exact eB rfl; refine jz ?_; refine jjB ?_; refine jjC ?_)
  refine jjQ (alive_law3 _) rfl rfl ?_
  rintro _ w6 hS6 rfl
  obtain ⟨R, hR⟩ : ∃ R, readyB (txF cs) wd side = R := ⟨_, rfl⟩
  (apply jJ; exact eB rfl; refine jz ?_; refine jjB ?_; refine jjB ?_; refine jjC ?_; refine jO rfl rfl rfl rfl ?_; refine jO rfl rfl rfl rfl ?_)
  refine jjQ ((ready_law3 a c cs wd side _ hd).mono fun v _ _ h => h.trans (by rw [hR])) rfl rfl ?_
  rintro _ w7 hS7 rfl
  cases R with
  | false =>
    (refine jq rfl ?_; apply jI; exact eB rfl; refine jU rfl rfl rfl rfl ?_; refine jU rfl rfl rfl rfl ?_; apply jK rfl; exact eB rfl; apply jI; exact eB rfl; refine jU rfl rfl rfl rfl ?_; refine jU rfl rfl rfl rfl ?_; refine jU rfl rfl rfl rfl ?_; refine jU rfl rfl rfl rfl ?_; apply jK rfl; exact eB rfl; apply jI; exact eB rfl; refine jU rfl rfl rfl rfl ?_; refine jU rfl rfl rfl rfl ?_; apply jK rfl; exact eB rfl; refine jz ?_; refine jjJ rfl ?_; refine jjB ?_; refine jjC ?_; apply jI; exact eB rfl; apply jJ; exact eB rfl; refine jz ?_; refine jjF ?_; refine jB rfl rfl ⟨inferInstance, ?_⟩)
    exact rfl
  | true =>
  obtain ⟨hG, hTT, hc⟩ := readyB_yes hR
  have hs := small_of_great hG
  have ha : askE (txF cs) wd side = 0 := askE_yes hTT hc
  obtain ⟨G2, hG2⟩ : ∃ G, greatR rs = G := ⟨_, rfl⟩
  (refine jp rfl ?_; apply jI; exact eB rfl; refine jT rfl rfl rfl ?_; refine jO rfl rfl rfl rfl ?_; refine jT rfl rfl rfl ?_)
  refine jjQ ((GreatCopy_ref1 id ra rc rs _).mono fun v _ _ h => h.trans (by rw [hG2])) rfl rfl ?_
  rintro _ w9 hS9 rfl
  cases G2 with
  | true =>
    (apply jL rfl; exact eB rfl; apply jI; exact eB rfl; refine jU rfl rfl rfl rfl ?_; refine jU rfl rfl rfl rfl ?_; refine jU rfl rfl rfl rfl ?_; refine jU rfl rfl rfl rfl ?_; apply jK rfl; exact eB rfl; apply jI; exact eB rfl; refine jU rfl rfl rfl rfl ?_; refine jU rfl rfl rfl rfl ?_; apply jK rfl; exact eB rfl; refine jz ?_; refine jjJ rfl ?_; refine jjB ?_; refine jjC ?_; apply jI; exact eB rfl; apply jJ; exact eB rfl; refine jz ?_; refine jjF ?_; refine jB rfl rfl ⟨inferInstance, ?_⟩)
    exact rfl
  | false =>
  have hrs := small_of_greatR hG2 hby
  obtain ⟨C, hC⟩ : ∃ C, copyB (txF cs) id rs = C := ⟨_, rfl⟩
  (apply jL rfl; exact eB rfl; apply jI; exact eB rfl; refine jT rfl rfl rfl ?_; refine jO rfl rfl rfl rfl ?_; refine jT rfl rfl rfl ?_; refine jO rfl rfl rfl rfl ?_; refine jT rfl rfl rfl ?_)
  refine jjQ ((Copy_ref1 a c cs _ id ra rc rs hs hrs).mono fun v _ _ h => h.trans (by rw [hC])) rfl rfl ?_
  rintro _ w10 hS10 rfl
  cases C with
  | false =>
    (refine jT rfl rfl rfl ?_; refine jq rfl ?_; apply jL rfl; exact eB rfl; apply jI; exact eB rfl; refine jU rfl rfl rfl rfl ?_; refine jU rfl rfl rfl rfl ?_; apply jK rfl; exact eB rfl; refine jz ?_; refine jjJ rfl ?_; refine jjB ?_; refine jjC ?_; apply jI; exact eB rfl; apply jJ; exact eB rfl; refine jz ?_; refine jjF ?_; refine jB rfl rfl ⟨inferInstance, ?_⟩)
    exact rfl
  | true =>
  have hcp := cpE_yes hTT hC
  have hpos := allP_pos hTT
  obtain ⟨p, hp⟩ := pick_pos hpos x1
  have hpb := placeB_mem.2 (List.mem_of_getElem? hp)
  (refine jT rfl rfl rfl ?_; refine jp rfl ?_; apply jL rfl; exact eB rfl; apply jI; exact eB rfl; refine jT rfl rfl rfl ?_; apply jI; exact eB rfl; refine jT rfl rfl rfl ?_; refine jp rfl ?_; apply jL rfl; exact eB rfl; refine jz ?_; refine jjK rfl ?_; refine jjG ?_; refine jjB ?_; refine jjC ?_; refine jO rfl rfl rfl rfl ?_; apply jI; exact eI rfl)
  refine jjQ (place_law3 a c cs _ hs hTT x1 hx1 p hp) rfl rfl ?_
  rintro _ w11 hS11 rfl
  (apply jI; exact eU rfl; refine ju rfl rfl ?_; refine ju rfl rfl ?_)
  (apply jjR rfl; (intro _; first|exact eI rfl|exact eB rfl|exact eP rfl|exact eS rfl|exact eT rfl|exact eA rfl|exact eU rfl|exact eF rfl|exact eM rfl|exact eN rfl|exact rfl); exact rfl; exact rfl; exact rfl; exact rfl; intro b10 w_b10 hb_b10 hs_b10 hS_b10 hk_b10; have hA_b10 := Bk.of hk_b10)
  have hp10 : At w_b10 b10 0 [.int .i64 p.1, .int .i64 p.2.1, .int .i64 p.2.2] := Bk.toAt (h := hA_b10)
  (apply jJ; exact eB rfl; refine jz ?_; refine jjB ?_; refine jjC ?_; refine jO rfl rfl rfl rfl ?_; refine jO rfl rfl rfl rfl ?_)
  refine jjQ (Read_leaf a c cs _ id ra rc rs hs hrs hcp) rfl rfl ?_
  rintro _ w13 hS13 ⟨ua, uc, ds, rfl, htx, hRu, hTu⟩
  (apply jI; exact eU rfl; refine ju rfl rfl ?_; refine ju rfl rfl ?_)
  (apply jjR rfl; (intro _; first|exact eI rfl|exact eB rfl|exact eP rfl|exact eS rfl|exact eT rfl|exact eA rfl|exact eU rfl|exact eF rfl|exact eM rfl|exact eN rfl|exact rfl); exact rfl; exact rfl; exact rfl; exact rfl; intro b12 w_b12 hb_b12 hs_b12 hS_b12 hk_b12; have hA_b12 := Bk.of hk_b12)
  have iRu : RowI w_b12 (.slice ua ds.length uc) true 2 (ds.map encCh) := ⟨hRu.ext hS_b12.ext⟩
  have hx12 : At w_b12 b12 0 [.slice ua ds.length uc] := Bk.toAt (h := hA_b12)
  have hvu : textB (txF ds) = true := by rw [htx]; exact read_valid hTT hC
  have hsu := small_of_text hvu
  have hau : askE (txF ds) wd side = 0 := askE_yes hvu hc
  (apply jJ; exact eI rfl; refine jz ?_; refine jjB ?_; refine jjC ?_; refine jO rfl rfl rfl rfl ?_; refine jO rfl rfl rfl rfl ?_; refine jO rfl rfl rfl rfl ?_)
  obtain ⟨S, hS⟩ : ∃ S, standsB (txF cs) rs p = S := ⟨_, rfl⟩
  refine jjQ ((Stands_leaf a c cs _ id ra rc rs p hs hrs).mono fun v _ _ h => h.trans (by rw [hcp, if_neg (by simp), hpb, if_neg (by simp), hS])) rfl rfl ?_
  rintro _ w15 hS15 rfl
  obtain ⟨so, hso⟩ := make_yes hpb side wd
  (apply jI; exact eU rfl; refine ju rfl rfl ?_; refine ju rfl rfl ?_; apply jJ; exact eT rfl; apply jJ; exact eI rfl; refine jz ?_; refine jjB ?_; refine jjB ?_; refine jjC ?_; apply jI; exact eB rfl; refine jp rfl ?_; apply jI; exact eB rfl; refine jT rfl rfl rfl ?_; apply jI; exact eI rfl; refine jT rfl rfl rfl ?_; refine jjk rfl rfl (by omega) ?_; apply jL rfl; exact eB rfl; apply jI; exact eB rfl; refine jT rfl rfl rfl ?_; apply jI; exact eI rfl; refine jT rfl rfl rfl ?_; refine jjk rfl rfl (by omega) ?_; apply jL rfl; exact eB rfl; refine jz ?_; refine jjK rfl ?_; refine jjG ?_; refine jjB ?_; refine jjC ?_; refine jO rfl rfl rfl rfl ?_; refine jO rfl rfl rfl rfl ?_; refine jO rfl rfl rfl rfl ?_)
  refine jjQ ((Make_slip a c cs wd side _ p hs hd).mono fun v _ _ h => h.trans (by rw [makeR_some ha hso])) rfl rfl ?_
  rintro _ w16 hS16 rfl
  (apply jI; exact eU rfl; refine ju rfl rfl ?_; refine ju rfl rfl ?_)
  (apply jjR rfl; (intro _; first|exact eI rfl|exact eB rfl|exact eP rfl|exact eS rfl|exact eT rfl|exact eA rfl|exact eU rfl|exact eF rfl|exact eM rfl|exact eN rfl|exact rfl); exact rfl; exact rfl; exact rfl; exact rfl; intro b16 w_b16 hb_b16 hs_b16 hS_b16 hk_b16; have hA_b16 := Bk.of hk_b16)
  have hx16 : At w_b16 b16 0 [.int .i64 so.1.1, .int .i64 so.1.2.1, .int .i64 so.1.2.2, .string so.2.1, .string so.2.2.1, .string so.2.2.2] := Bk.toAt (h := hA_b16)
  have hml := moved_law hTT hC hpb
  rw [hS] at hml
  obtain ⟨m1, hm1⟩ : ∃ m, movedS (txF cs) id rs p = m := ⟨_, rfl⟩
  rw [hm1] at hml
  obtain ⟨x, ex⟩ := m1
  (apply jJ; exact eI rfl; refine jz ?_; refine jjB ?_; refine jjC ?_; refine jO rfl rfl rfl rfl ?_; refine jO rfl rfl rfl rfl ?_; refine jO rfl rfl rfl rfl ?_)
  refine jjQ ((Moved_slip a c cs _ id ra rc rs p hs hrs).mono fun v _ _ h => h.trans (by rw [hm1])) rfl rfl ?_
  rintro _ w17 hS17 rfl
  (apply jI; exact eU rfl; refine ju rfl rfl ?_; refine ju rfl rfl ?_)
  (apply jjR rfl; (intro _; first|exact eI rfl|exact eB rfl|exact eP rfl|exact eS rfl|exact eT rfl|exact eA rfl|exact eU rfl|exact eF rfl|exact eM rfl|exact eN rfl|exact rfl); exact rfl; exact rfl; exact rfl; exact rfl; intro b18 w_b18 hb_b18 hs_b18 hS_b18 hk_b18; have hA_b18 := Bk.of hk_b18)
  have hx18 : At w_b18 b18 0 [.int .i64 x.1, .int .i64 x.2.1, .int .i64 x.2.2] := Bk.toAt (h := hA_b18)
  have hfin : (S.size = 0 ∧ ex = 6) ∨ (ex = 0 ∧ placeB (txF ds) x = true ∧ wordT (txF ds) x = S ∧ ((∀ r ∈ rs, r.1.1 ≠ p.1) → ∀ s', makeF (txF ds) side wd x = some s' → s' = so)) := by
    rcases hml with ⟨hS0, hmv⟩ | ⟨k, n, wn, j, hk, hn, hpe, hmv, hwS, hpx, hwx, _, _⟩
    · exact .inl ⟨hS0, congrArg Prod.snd hmv⟩
    · obtain rfl : x = ((k : Int), (n : Int), (j : Int)) := congrArg Prod.fst hmv
      refine .inr ⟨congrArg Prod.snd hmv, by rw [htx]; exact hpx, by rw [htx]; exact hwx, fun hno s' hs' => ?_⟩
      have h1 := movedS_some hcp hpb (moveR_same (q := p.2.2) hno)
      rw [hm1] at h1
      have hxp : ((k : Int), (n : Int), (j : Int)) = p := congrArg Prod.fst h1
      rw [hxp, htx, make_same hTT hC hk (fun r hr => by have := hno r hr; rw [hpe] at this; exact this) (by rw [hpe]) side wd, hso] at hs'
      exact (Option.some.inj hs').symm
  clear hml hm1 hpb hp hS
  (apply jJ; exact eI rfl; refine jz ?_; refine jjB ?_; refine jjB ?_; refine jjC ?_; apply jI; exact eI rfl; refine jc rfl rfl ?_; refine jz ?_)
  rcases hfin with ⟨hS0, rfl⟩ | ⟨rfl, hpx, hwx, hsame⟩
  · (refine jjJ rfl ?_; refine jjB ?_; refine jjC ?_; apply jI; exact eB rfl; apply jI; exact eB rfl; refine jT rfl rfl rfl ?_; apply jI; exact eI rfl; refine jT rfl rfl rfl ?_; refine jjh rfl rfl (by omega) ?_; apply jK rfl; exact eB rfl; apply jI; exact eB rfl; refine jT rfl rfl rfl ?_; apply jI; exact eI rfl; refine jT rfl rfl rfl ?_; refine jjh rfl rfl (by omega) ?_; apply jK rfl; exact eB rfl; apply jI; exact eB rfl; refine jT rfl rfl rfl ?_; apply jI; exact eT rfl; refine jT rfl rfl rfl ?_)
    refine Ops.eqlS rfl rfl ?_
    rw [decide_eq_true (str_nil.2 hS0)]
    (apply jK rfl; exact eB rfl; apply jJ; exact eB rfl; refine jz ?_; refine jjF ?_; refine jB rfl rfl ⟨inferInstance, ?_⟩)
    exact rfl
  obtain ⟨sx, hsx⟩ := make_yes hpx side wd
  have hat := makeF_at hsx
  have hwd : sx.2.1 = S := (make_word hsx).symm.trans hwx
  have hsame' := fun h => hsame h sx hsx
  clear hsame
  have hE18 : Ext w w_b18 := inferInstance
  (refine jjK rfl ?_; refine jjG ?_; refine jjB ?_; refine jjC ?_; refine jO rfl rfl rfl rfl ?_; refine jO rfl rfl rfl rfl ?_; refine jO rfl rfl rfl rfl ?_)
  refine jjQ ((Make_slip ua uc ds wd side _ x hsu hd).mono fun v _ _ h => h.trans (by rw [makeR_some hau hsx])) rfl rfl ?_
  rintro _ w19 hS19 rfl
  (apply jI; exact eU rfl; refine ju rfl rfl ?_; refine ju rfl rfl ?_)
  (apply jjR rfl; (intro _; first|exact eI rfl|exact eB rfl|exact eP rfl|exact eS rfl|exact eT rfl|exact eA rfl|exact eU rfl|exact eF rfl|exact eM rfl|exact eN rfl|exact rfl); exact rfl; exact rfl; exact rfl; exact rfl; intro b20 w_b20 hb_b20 hs_b20 hS_b20 hk_b20; have hA_b20 := Bk.of hk_b20)
  have hx20 : At w_b20 b20 0 [.int .i64 sx.1.1, .int .i64 sx.1.2.1, .int .i64 sx.1.2.2, .string sx.2.1, .string sx.2.2.1, .string sx.2.2.2] := Bk.toAt (h := hA_b20)
  (apply jJ; exact eI rfl; refine jz ?_; refine jjB ?_; refine jjB ?_; refine jjC ?_; apply jI; exact eI rfl; refine jjk rfl rfl (by omega) ?_; apply jI; exact eB rfl; refine jT rfl rfl rfl ?_; apply jI; exact eI rfl; refine jT rfl rfl rfl ?_; refine jjk rfl rfl (by omega) ?_; apply jL rfl; exact eB rfl; apply jI; exact eB rfl; refine jT rfl rfl rfl ?_; refine jm ?_; refine jn rfl ?_; refine jT rfl rfl rfl ?_; refine jN rfl rfl rfl ?_; refine jT rfl rfl rfl ?_; apply jI; exact eT rfl; refine jT rfl rfl rfl ?_)
  refine Ops.neqS rfl rfl ?_
  rw [decide_eq_false (p := ¬ sx.2.1 = S) (fun h => h hwd)]
  (apply jL rfl; exact eB rfl; apply jI; exact eB rfl; refine jT rfl rfl rfl ?_; refine jm ?_; refine jn rfl ?_; refine jT rfl rfl rfl ?_; refine jO rfl rfl rfl rfl ?_; refine jT rfl rfl rfl ?_; refine jO rfl rfl rfl rfl ?_; refine jT rfl rfl rfl ?_)
  refine Ops.neqT (enc := encPl) sx.1 x rfl rfl ?_
  rw [decide_eq_false (p := ¬ sx.1 = x) (fun h => h hat)]
  (apply jL rfl; exact eB rfl; refine jz ?_; refine jjK rfl ?_; refine jjG ?_; refine jjB ?_; refine jjB ?_; refine jjC ?_; refine jm ?_; refine jn rfl ?_; refine jN rfl rfl rfl ?_; refine jh rfl ?_; apply jI; exact eI rfl; refine jz ?_; refine jjD ?_)
  have y10 : At w_b20 b10 0 [.int .i64 p.1, .int .i64 p.2.1, .int .i64 p.2.2] := hp10.ext inferInstance
  have y16 : At w_b20 b16 0 [.int .i64 so.1.1, .int .i64 so.1.2.1, .int .i64 so.1.2.2, .string so.2.1, .string so.2.2.1, .string so.2.2.2] := hx16.ext inferInstance
  have irs : RowI w_b20 (.slice ra rs.length rc) true 5 (rs.map encRd) := inferInstance
  clear hA_b10 hA_b16 hA_b20 hA_b18 hA_b12
  refine W.keep0 [(9, .bool true), (10, .pointer (some ⟨b10, 0, none⟩)), (16, .pointer (some ⟨b16, 0, none⟩)), (20, .pointer (some ⟨b20, 0, none⟩)), (128, .slice ra rs.length rc), (129, .int .i64 (rs.length : Int)), (130, .int .i64 ((0 : Nat) : Int))] ⟨eB rfl, eP rfl, eP rfl, eP rfl, eS rfl, eI rfl, eI rfl, trivial⟩ fun s0 => ?_
  have hrl := hrs.len
  refine W.loop (131 :: 132 :: 133 :: 23 :: 134 :: 135 :: 136 :: 137 :: 138 :: 139 :: 140 :: 8 :: 141 :: 130 :: []) (fun g s' V => ∃ k : Nat, s' 130 = .int .i64 ((k : Nat) : Int) ∧ g = rs.length - k ∧ k ≤ rs.length ∧ ∀ (j : Nat) (hj : j < rs.length), j < k → rs[j].1.1 ≠ p.1) rs.length ⟨0, rfl, rfl, Nat.zero_le _, by intros; omega⟩ ?_
  rintro _ sd V hSV ⟨k, h130, rfl, hk, hno⟩
  refine W.fix (d := 130) h130 ?_
  clear h130
  by_cases hk3 : k < rs.length
  · obtain ⟨u, hu⟩ : ∃ u, rs[k] = u := ⟨_, rfl⟩
    (refine jjB ?_; refine jjC ?_; refine jjZ rfl rfl (by omega) ?_; refine jz ?_; refine jjB ?_; refine jjJ rfl ?_; refine jjG ?_; refine jjB ?_; refine jjD ?_; refine jjB ?_; refine jjC ?_; refine jF rfl rfl rfl (map_get (by omega)) ?_; intro _ _ _; refine jQ rfl rfl ?_)
    rw [hu]
    (apply jjR rfl; (intro _; first|exact eI rfl|exact eB rfl|exact eP rfl|exact eS rfl|exact eT rfl|exact eA rfl|exact eU rfl|exact eF rfl|exact eM rfl|exact eN rfl|exact rfl); exact rfl; exact rfl; exact rfl; exact rfl; intro b23 w_b23 hb_b23 hs_b23 hS_b23 hk_b23; have hA_b23 := Bk.of hk_b23)
    have hx23 : At w_b23 b23 0 [.int .i64 u.1.1, .int .i64 u.1.2.1, .int .i64 u.1.2.2, .int .u8 u.2.1, .string u.2.2] := Bk.toAt (h := hA_b23)
    by_cases he : u.1.1 = p.1
    · (refine jz ?_; refine jjB ?_; refine jjC ?_; refine jm ?_; refine jn rfl ?_; refine jm ?_; refine jn rfl ?_; refine jN rfl rfl rfl ?_; refine jm ?_; refine jn rfl ?_; refine jN rfl rfl rfl ?_; refine jjh rfl rfl (by omega) ?_; refine jz ?_; refine jjJ rfl ?_; refine jjB ?_; refine jjC ?_; apply jI; exact eB rfl; apply jJ; exact eB rfl; refine jz ?_; refine jjF ?_; refine jB rfl rfl ⟨inferInstance, ?_⟩)
      exact rfl
    · (refine jz ?_; refine jjB ?_; refine jjC ?_; refine jm ?_; refine jn rfl ?_; refine jm ?_; refine jn rfl ?_; refine jN rfl rfl rfl ?_; refine jm ?_; refine jn rfl ?_; refine jN rfl rfl rfl ?_; refine jji rfl rfl (by omega) ?_; refine jz ?_; refine jjK rfl ?_; refine jjG ?_; refine jjC ?_; refine jY rfl rfl (by omega) ?_; apply jI; exact eI rfl; refine jz ?_)
      exact ⟨rfl, by ((refine Same.upd rfl ?_; refine Same.upd rfl ?_; refine Same.upd rfl ?_; refine Same.upd rfl ?_; refine Same.upd rfl ?_; refine Same.upd rfl ?_; refine Same.upd rfl ?_; refine Same.upd rfl ?_; refine Same.upd rfl ?_; refine Same.upd rfl ?_; refine Same.upd rfl ?_; refine Same.upd rfl ?_; refine Same.upd rfl ?_; exact Same.ovN)), rs.length - (k + 1), by omega, inferInstance, k + 1, congrArg (Value.int .i64) (by omega), rfl, by omega, fun j hj hjk => by
        rcases Nat.lt_or_ge j k with h | h
        · exact hno j hj h
        · obtain rfl : j = k := by omega
          rw [hu]; exact he⟩
  obtain rfl : k = rs.length := by omega
  have hss : sx = so := hsame' fun r hr => by
    obtain ⟨i, hi, rfl⟩ := List.mem_iff_getElem.1 hr
    exact hno i hi hi
  (refine jjB ?_; refine jjC ?_; refine jja rfl rfl (by omega) ?_; refine jz ?_; refine jjB ?_; refine jjK rfl ?_; refine jjE ?_; refine jjB ?_; refine jjC ?_; apply jI; exact eB rfl; apply jI; exact eB rfl; refine jT rfl rfl rfl ?_; refine jO rfl rfl rfl rfl ?_; refine jT rfl rfl rfl ?_; refine jO rfl rfl rfl rfl ?_; refine jT rfl rfl rfl ?_)
  refine Ops.eqlT (enc := encSl) sx so rfl rfl ?_
  rw [decide_eq_true hss]
  (apply jK rfl; exact eB rfl; apply jJ; exact eB rfl; refine jz ?_; refine jjF ?_; refine jB rfl rfl ⟨inferInstance, ?_⟩)
  exact rfl
end
end Go.Proofs.YtgnjjocafmofaaaGreatDoor
