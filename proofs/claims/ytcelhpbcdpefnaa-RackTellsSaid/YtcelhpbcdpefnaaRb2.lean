/- The reference of rack: Valid, Sort. -/
import Derived.Test.YtcelhpbcdpefnaaRb1
namespace Go.Proofs.Ytcelhpbcdpefnaa
open Go.RowKit

/-- Box by box. -/
def bktF (row : List Int) (L : List Int) (m : Nat) : List Int := (List.range m).flatMap fun (b : Nat) => L.filter fun x => decide (keyD row x = (b : Int))
theorem bktF_succ (row L : List Int) (m : Nat) : bktF row L (m + 1) = bktF row L m ++ L.filter fun x => decide (keyD row x = (m : Int)) := by simp [bktF, List.range_succ]
theorem bktF_mem {row L : List Int} {m : Nat} {y : Int} (h : y ∈ bktF row L m) : y ∈ L ∧ 0 ≤ keyD row y ∧ keyD row y < m := by
  simp only [bktF, List.mem_flatMap, List.mem_range, List.mem_filter, decide_eq_true_eq] at h
  obtain ⟨b, hb, h1, h2⟩ := h
  exact ⟨h1, by omega, by omega⟩
theorem bktF_filter (row L : List Int) (m : Nat) (c : Int) : (bktF row L m).filter (fun x => decide (keyD row x = c)) = if 0 ≤ c ∧ c < m then L.filter (fun x => decide (keyD row x = c)) else [] := by
  induction m with
  | zero => rw [if_neg (by omega)]; rfl
  | succ m ih =>
    rw [bktF_succ, List.filter_append, ih, List.filter_filter]
    by_cases e : c = (m : Int)
    · subst e
      rw [if_neg (by omega), if_pos (by omega), List.nil_append]
      congr 1
      funext x
      by_cases h : keyD row x = (m : Int) <;> simp [h]
    · have : (L.filter fun x => decide (keyD row x = c) && decide (keyD row x = (m : Int))) = [] := by
        rw [List.filter_eq_nil_iff]
        intro x _
        simp only [Bool.and_eq_true, decide_eq_true_eq]
        intro ⟨h1, h2⟩
        exact e (h1.symm.trans h2)
      rw [this, List.append_nil]
      by_cases h : 0 ≤ c ∧ c < (m : Int)
      · rw [if_pos h, if_pos (by omega)]
      · rw [if_neg h, if_neg (by omega)]
theorem bktF_srt (row L : List Int) (m : Nat) : Srt (keyD row) (bktF row L m) := by
  induction m with
  | zero => simp [bktF, Srt]
  | succ m ih =>
    rw [bktF_succ]
    refine List.pairwise_append.2 ⟨ih, ?_, fun x hx y hy => ?_⟩
    · refine List.pairwise_iff_getElem.2 fun i j hi hj _ => ?_
      have h1 := (List.mem_filter.1 (List.getElem_mem hi)).2
      have h2 := (List.mem_filter.1 (List.getElem_mem hj)).2
      simp only [decide_eq_true_eq] at h1 h2
      omega
    · have h1 := (bktF_mem hx).2
      have h2 := (List.mem_filter.1 hy).2
      simp only [decide_eq_true_eq] at h2
      omega
theorem bktF_len (row L : List Int) (m : Nat) : (bktF row L m).length ≤ m * L.length := by
  induction m with
  | zero => simp [bktF]
  | succ m ih =>
    have h3 := List.length_filter_le (fun y => decide (keyD row y = (m : Int))) L
    rw [bktF_succ, List.length_append, Nat.succ_mul]; omega
theorem bktF_ssort {row L : List Int} {m : Nat} (h : ∀ x ∈ L, 0 ≤ keyD row x ∧ keyD row x < m) : bktF row L m = ssort (keyD row) L := by
  refine ssort_eq (bktF_srt row L m) fun c => ?_
  rw [bktF_filter]
  by_cases hc : 0 ≤ c ∧ c < (m : Int)
  · rw [if_pos hc]
  · rw [if_neg hc, List.filter_eq_nil_iff]
    intro x hx
    have := h x hx
    simp only [decide_eq_true_eq]
    omega

section
variable (a pa : Option Addr) (c pc : Nat) (d : List Int) (boxes : Int) (rs : List Rw) (w : World) [hrow : RowI w (.slice a d.length c) false 1 (d.map intV)] [hp : RowI w (.slice pa rs.length pc) false 1 (rs.map encW)] [hrs : RowsI w rs]
omit hrow in
set_option maxHeartbeats 2000000 in
theorem Valid_ref (hrl : rs.length ≤ 1000000) (hil : ∀ x ∈ rs, x.2.2.length ≤ 1000000) (hb : 2 ≤ boxes ∧ boxes ≤ 20) : Ct Try.prog 42 [.slice a d.length c, .int .i64 boxes, .slice pa rs.length pc] w fun v _ => v = .bool (!planBad d.length boxes rs) := by
  have hbad : ∀ (k : Nat) (hk : k < rs.length), rowBad d.length boxes rs[k] = true → planBad d.length boxes rs = true := fun k hk h => by
    have : rs.any (rowBad d.length boxes) = true := List.any_eq_true.2 ⟨_, List.getElem_mem hk, h⟩
    simp [planBad, this]
  refine Ct.ofW (by simp) ?_
  repeat' (first |((first|apply jI|apply jJ|apply jK rfl|apply jL rfl); first|exact eI rfl|exact eB rfl|exact eP rfl|exact eS rfl|exact eT rfl|exact eA rfl|exact eU rfl|exact eF rfl|exact eM rfl|exact eN rfl|exact rfl)|(refine jM ?_; first|refine jN rfl rfl rfl ?_|refine jO rfl rfl rfl rfl ?_|refine jP rfl rfl rfl ?_|refine jQ rfl rfl ?_|refine jR (by assumption) rfl rfl ?_)|(refine jS ?_; first|refine jT rfl rfl rfl ?_|refine jU rfl rfl rfl rfl ?_|refine jV rfl rfl ?_)|(refine jW ?_; first|refine jX rfl rfl ?_|refine jY rfl rfl (by omega) ?_|refine jZ rfl rfl (by omega) ?_|refine ja rfl rfl ?_|refine jb rfl rfl ?_|refine jc rfl rfl ?_|refine jd rfl rfl ?_|refine je rfl rfl ?_|refine jf rfl rfl ?_)|(refine jg ?_; first|refine jh rfl ?_|refine ji rfl ?_|refine jj rfl rfl ?_|refine jk rfl rfl ?_|refine jl rfl ?_)|(refine jm ?_; refine jn rfl ?_)|(refine jo ?_; first|refine jp rfl ?_|refine jq rfl ?_|refine jr rfl ?_|refine js rfl ?_) |(refine jE ?_; first|(refine jF rfl rfl rfl (map_get (by omega)) ?_; intro _ _ _)|refine jG rfl rfl rfl (by omega) ?_)|refine jt rfl rfl rfl (by omega) ?_|refine ju rfl rfl ?_|refine jv ?_|refine jw rfl ?_ |refine jz ?_|(refine jjA ?_; first|refine jjB ?_|refine jjC ?_|refine jjD ?_|refine jjE ?_|refine jjF ?_|refine jjG ?_|refine jjH ?_|refine jjI ?_|refine jjJ rfl ?_|refine jjK rfl ?_) |refine jA rfl ⟨⟨_, rfl⟩, ?_⟩|refine jB rfl rfl ⟨inferInstance, ?_⟩|refine jC rfl rfl rfl ⟨inferInstance, ?_⟩|refine jD rfl rfl rfl rfl ⟨inferInstance, ?_⟩|refine jA rfl ⟨inferInstance, ?_⟩)
  refine W.keep0 [(0, .slice a d.length c), (1, .int .i64 boxes), (2, .slice pa rs.length pc), (7, .int .i64 ((0 : Nat) : Int))] ⟨eS rfl, eI rfl, eS rfl, eI rfl, trivial⟩ fun s0 => ?_
  refine W.loop (9 :: 10 :: 11 :: 12 :: 8 :: 15 :: 16 :: 17 :: 18 :: 19 :: 20 :: 21 :: 24 :: 25 :: 26 :: 27 :: 28 :: 29 :: 30 :: 31 :: 32 :: 33 :: 34 :: 6 :: 22 :: 23 :: 35 :: 36 :: 37 :: 38 :: 39 :: 40 :: 41 :: 42 :: 13 :: 14 :: 7 :: []) (fun g s' V => ∃ k : Nat, s' 7 = .int .i64 ((k : Nat) : Int) ∧ g = rs.length - k ∧ k ≤ rs.length ∧ ∀ (j : Nat) (hj : j < rs.length), j < k → rowBad d.length boxes rs[j] = false) rs.length ⟨0, rfl, rfl, Nat.zero_le _, by intros; omega⟩ ?_
  rintro _ sd w1 hS1 ⟨k, h7, rfl, hk, hpre⟩
  refine W.fix h7 ?_
  clear h7
  repeat' (first |((first|apply jI|apply jJ|apply jK rfl|apply jL rfl); first|exact eI rfl|exact eB rfl|exact eP rfl|exact eS rfl|exact eT rfl|exact eA rfl|exact eU rfl|exact eF rfl|exact eM rfl|exact eN rfl|exact rfl)|(refine jM ?_; first|refine jN rfl rfl rfl ?_|refine jO rfl rfl rfl rfl ?_|refine jP rfl rfl rfl ?_|refine jQ rfl rfl ?_|refine jR (by assumption) rfl rfl ?_)|(refine jS ?_; first|refine jT rfl rfl rfl ?_|refine jU rfl rfl rfl rfl ?_|refine jV rfl rfl ?_)|(refine jW ?_; first|refine jX rfl rfl ?_|refine jY rfl rfl (by omega) ?_|refine jZ rfl rfl (by omega) ?_|refine ja rfl rfl ?_|refine jb rfl rfl ?_|refine jc rfl rfl ?_|refine jd rfl rfl ?_|refine je rfl rfl ?_|refine jf rfl rfl ?_)|(refine jg ?_; first|refine jh rfl ?_|refine ji rfl ?_|refine jj rfl rfl ?_|refine jk rfl rfl ?_|refine jl rfl ?_)|(refine jm ?_; refine jn rfl ?_)|(refine jo ?_; first|refine jp rfl ?_|refine jq rfl ?_|refine jr rfl ?_|refine js rfl ?_) |(refine jE ?_; first|(refine jF rfl rfl rfl (map_get (by omega)) ?_; intro _ _ _)|refine jG rfl rfl rfl (by omega) ?_)|refine jt rfl rfl rfl (by omega) ?_|refine ju rfl rfl ?_|refine jv ?_|refine jw rfl ?_ |(refine jx ?_; refine jy rfl ?_; intro _ _ _ _ _ hblk; have := At.ofBlock hblk; clear hblk) |refine jz ?_|(refine jjA ?_; first|refine jjB ?_|refine jjC ?_|refine jjD ?_|refine jjE ?_|refine jjF ?_|refine jjG ?_|refine jjH ?_|refine jjI ?_|refine jjJ rfl ?_|refine jjK rfl ?_) |(refine jS ?_; first|(refine jjL rfl rfl ?_ ?_ <;> intro _)|(refine jjM rfl rfl ?_ ?_ <;> intro _))|(refine jjA ?_; first|(refine jjN rfl ?_ ?_ <;> intro _)|(refine jjO rfl ?_ ?_ <;> intro _)) |refine jA rfl ⟨⟨_, rfl⟩, ?_⟩|refine jB rfl rfl ⟨inferInstance, ?_⟩|refine jC rfl rfl rfl ⟨inferInstance, ?_⟩|refine jD rfl rfl rfl rfl ⟨inferInstance, ?_⟩|refine jA rfl ⟨inferInstance, ?_⟩)
  · have hk' : k < rs.length := by omega
    have hg : RowsI w1 rs := inferInstance
    have := hg.get hk'
    have hxl := hil rs[k] (List.getElem_mem hk')
    refine W.keep [(0, .slice a d.length c), (1, .int .i64 boxes), (2, .slice pa rs.length pc), (7, .int .i64 ((k : Nat) : Int)), (8, .int .i64 ((0 : Nat) : Int))] (D := (9 :: 10 :: 11 :: 12 :: 8 :: 15 :: 16 :: 17 :: 18 :: 19 :: 20 :: 21 :: 24 :: 25 :: 26 :: 27 :: 28 :: 29 :: 30 :: 31 :: 32 :: 33 :: 34 :: 6 :: 22 :: 23 :: 35 :: 36 :: 37 :: 38 :: 39 :: 40 :: 41 :: 42 :: 13 :: 14 :: 7 :: [])) (sO := upds s0 _) (by (repeat' (first|assumption|exact Same.ovN|refine Same.upd rfl ?_|refine Same.putS rfl ?_|refine Same.ovN' rfl ?_|exact Same.refl _ _|exact Same.putN ?_))) ⟨eS rfl, eI rfl, eS rfl, eI rfl, eI rfl, trivial⟩ fun sk hsk => ?_
    refine W.loop (15 :: 16 :: 17 :: 18 :: 19 :: 20 :: 21 :: 24 :: 25 :: 26 :: 27 :: 28 :: 29 :: 30 :: 31 :: 32 :: 33 :: 34 :: 6 :: 22 :: 23 :: 8 :: []) (fun g s' V => ∃ q : Nat, s' 8 = .int .i64 ((q : Nat) : Int) ∧ g = rs[k].2.2.length - q ∧ q ≤ rs[k].2.2.length ∧ ∀ (j : Nat) (hj : j < rs[k].2.2.length), j < q → inB 0 (boxes - 1) rs[k].2.2[j] = true) rs[k].2.2.length ⟨0, rfl, rfl, Nat.zero_le _, by intros; omega⟩ ?_
    rintro _ sd2 w2 hS2 ⟨q, h8, rfl, hq, hpre2⟩
    refine W.fix h8 ?_
    clear h8
    repeat' (first |((first|apply jI|apply jJ|apply jK rfl|apply jL rfl); first|exact eI rfl|exact eB rfl|exact eP rfl|exact eS rfl|exact eT rfl|exact eA rfl|exact eU rfl|exact eF rfl|exact eM rfl|exact eN rfl|exact rfl)|(refine jM ?_; first|refine jN rfl rfl rfl ?_|refine jO rfl rfl rfl rfl ?_|refine jP rfl rfl rfl ?_|refine jQ rfl rfl ?_|refine jR (by assumption) rfl rfl ?_)|(refine jS ?_; first|refine jT rfl rfl rfl ?_|refine jU rfl rfl rfl rfl ?_|refine jV rfl rfl ?_)|(refine jW ?_; first|refine jX rfl rfl ?_|refine jY rfl rfl (by omega) ?_|refine jZ rfl rfl (by omega) ?_|refine ja rfl rfl ?_|refine jb rfl rfl ?_|refine jc rfl rfl ?_|refine jd rfl rfl ?_|refine je rfl rfl ?_|refine jf rfl rfl ?_)|(refine jg ?_; first|refine jh rfl ?_|refine ji rfl ?_|refine jj rfl rfl ?_|refine jk rfl rfl ?_|refine jl rfl ?_)|(refine jm ?_; refine jn rfl ?_)|(refine jo ?_; first|refine jp rfl ?_|refine jq rfl ?_|refine jr rfl ?_|refine js rfl ?_) |(refine jE ?_; first|(refine jF rfl rfl rfl (map_get (by omega)) ?_; intro _ _ _)|refine jG rfl rfl rfl (by omega) ?_)|refine jt rfl rfl rfl (by omega) ?_|refine ju rfl rfl ?_|refine jv ?_|refine jw rfl ?_ |(refine jx ?_; refine jy rfl ?_; intro _ _ _ _ _ hblk; have := At.ofBlock hblk; clear hblk) |refine jz ?_|(refine jjA ?_; first|refine jjB ?_|refine jjC ?_|refine jjD ?_|refine jjE ?_|refine jjF ?_|refine jjG ?_|refine jjH ?_|refine jjI ?_|refine jjJ rfl ?_|refine jjK rfl ?_) |(refine jS ?_; first|(refine jjL rfl rfl ?_ ?_ <;> intro _)|(refine jjM rfl rfl ?_ ?_ <;> intro _))|(refine jjA ?_; first|(refine jjN rfl ?_ ?_ <;> intro _)|(refine jjO rfl ?_ ?_ <;> intro _)) |refine jA rfl ⟨⟨_, rfl⟩, ?_⟩|refine jB rfl rfl ⟨inferInstance, ?_⟩|refine jC rfl rfl rfl ⟨inferInstance, ?_⟩|refine jD rfl rfl rfl rfl ⟨inferInstance, ?_⟩|refine jA rfl ⟨inferInstance, ?_⟩)
    · have hq' : q < rs[k].2.2.length := by omega
      refine jjQ (within_postilref06 rs[k].2.2[q] 0 (boxes - 1) _) rfl rfl ?_
      rintro _ w3 hS3 rfl
      cases hb3 : inB 0 (boxes - 1) rs[k].2.2[q]
      · repeat' (first |(refine jW ?_; first|refine jjZ rfl rfl (by omega) ?_|refine jja rfl rfl (by omega) ?_|refine jjb rfl rfl (by omega) ?_|refine jjc rfl rfl (by omega) ?_|refine jjd rfl rfl (by omega) ?_|refine jje rfl rfl (by omega) ?_|refine jjf rfl rfl (by omega) ?_|refine jjg rfl rfl (by omega) ?_|refine jjh rfl rfl (by omega) ?_|refine jji rfl rfl (by omega) ?_|refine jjj rfl rfl (by omega) ?_|refine jjk rfl rfl (by omega) ?_) |((first|apply jI|apply jJ|apply jK rfl|apply jL rfl); first|exact eI rfl|exact eB rfl|exact eP rfl|exact eS rfl|exact eT rfl|exact eA rfl|exact eU rfl|exact eF rfl|exact eM rfl|exact eN rfl|exact rfl)|(refine jM ?_; first|refine jN rfl rfl rfl ?_|refine jO rfl rfl rfl rfl ?_|refine jP rfl rfl rfl ?_|refine jQ rfl rfl ?_|refine jR (by assumption) rfl rfl ?_)|(refine jS ?_; first|refine jT rfl rfl rfl ?_|refine jU rfl rfl rfl rfl ?_|refine jV rfl rfl ?_)|(refine jW ?_; first|refine jX rfl rfl ?_|refine jY rfl rfl (by omega) ?_|refine jZ rfl rfl (by omega) ?_|refine ja rfl rfl ?_|refine jb rfl rfl ?_|refine jc rfl rfl ?_|refine jd rfl rfl ?_|refine je rfl rfl ?_|refine jf rfl rfl ?_)|(refine jg ?_; first|refine jh rfl ?_|refine ji rfl ?_|refine jj rfl rfl ?_|refine jk rfl rfl ?_|refine jl rfl ?_)|(refine jm ?_; refine jn rfl ?_)|(refine jo ?_; first|refine jp rfl ?_|refine jq rfl ?_|refine jr rfl ?_|refine js rfl ?_) |(refine jE ?_; first|(refine jF rfl rfl rfl (map_get (by omega)) ?_; intro _ _ _)|refine jG rfl rfl rfl (by omega) ?_)|refine jt rfl rfl rfl (by omega) ?_|refine ju rfl rfl ?_|refine jv ?_|refine jw rfl ?_ |(refine jx ?_; refine jy rfl ?_; intro _ _ _ _ _ hblk; have := At.ofBlock hblk; clear hblk) |refine jz ?_|(refine jjA ?_; first|refine jjB ?_|refine jjC ?_|refine jjD ?_|refine jjE ?_|refine jjF ?_|refine jjG ?_|refine jjH ?_|refine jjI ?_|refine jjJ rfl ?_|refine jjK rfl ?_) |refine jA rfl ⟨⟨_, rfl⟩, ?_⟩|refine jB rfl rfl ⟨inferInstance, ?_⟩|refine jC rfl rfl rfl ⟨inferInstance, ?_⟩|refine jD rfl rfl rfl rfl ⟨inferInstance, ?_⟩|refine jA rfl ⟨inferInstance, ?_⟩)
        have : rowBad d.length boxes rs[k] = true := by
          have h1 : rs[k].2.2.all (inB 0 (boxes - 1)) = false := by rw [List.all_eq_false]; exact ⟨_, List.getElem_mem hq', by rw [hb3]; simp⟩
          simp [rowBad, h1]
        rw [hbad k hk' this]; exact rfl
      · repeat' (first |(refine jW ?_; first|refine jjZ rfl rfl (by omega) ?_|refine jja rfl rfl (by omega) ?_|refine jjb rfl rfl (by omega) ?_|refine jjc rfl rfl (by omega) ?_|refine jjd rfl rfl (by omega) ?_|refine jje rfl rfl (by omega) ?_|refine jjf rfl rfl (by omega) ?_|refine jjg rfl rfl (by omega) ?_|refine jjh rfl rfl (by omega) ?_|refine jji rfl rfl (by omega) ?_|refine jjj rfl rfl (by omega) ?_|refine jjk rfl rfl (by omega) ?_) |((first|apply jI|apply jJ|apply jK rfl|apply jL rfl); first|exact eI rfl|exact eB rfl|exact eP rfl|exact eS rfl|exact eT rfl|exact eA rfl|exact eU rfl|exact eF rfl|exact eM rfl|exact eN rfl|exact rfl)|(refine jM ?_; first|refine jN rfl rfl rfl ?_|refine jO rfl rfl rfl rfl ?_|refine jP rfl rfl rfl ?_|refine jQ rfl rfl ?_|refine jR (by assumption) rfl rfl ?_)|(refine jS ?_; first|refine jT rfl rfl rfl ?_|refine jU rfl rfl rfl rfl ?_|refine jV rfl rfl ?_)|(refine jW ?_; first|refine jX rfl rfl ?_|refine jY rfl rfl (by omega) ?_|refine jZ rfl rfl (by omega) ?_|refine ja rfl rfl ?_|refine jb rfl rfl ?_|refine jc rfl rfl ?_|refine jd rfl rfl ?_|refine je rfl rfl ?_|refine jf rfl rfl ?_)|(refine jg ?_; first|refine jh rfl ?_|refine ji rfl ?_|refine jj rfl rfl ?_|refine jk rfl rfl ?_|refine jl rfl ?_)|(refine jm ?_; refine jn rfl ?_)|(refine jo ?_; first|refine jp rfl ?_|refine jq rfl ?_|refine jr rfl ?_|refine js rfl ?_) |(refine jE ?_; first|(refine jF rfl rfl rfl (map_get (by omega)) ?_; intro _ _ _)|refine jG rfl rfl rfl (by omega) ?_)|refine jt rfl rfl rfl (by omega) ?_|refine ju rfl rfl ?_|refine jv ?_|refine jw rfl ?_ |(refine jx ?_; refine jy rfl ?_; intro _ _ _ _ _ hblk; have := At.ofBlock hblk; clear hblk) |refine jz ?_|(refine jjA ?_; first|refine jjB ?_|refine jjC ?_|refine jjD ?_|refine jjE ?_|refine jjF ?_|refine jjG ?_|refine jjH ?_|refine jjI ?_|refine jjJ rfl ?_|refine jjK rfl ?_) |refine jA rfl ⟨⟨_, rfl⟩, ?_⟩|refine jB rfl rfl ⟨inferInstance, ?_⟩|refine jC rfl rfl rfl ⟨inferInstance, ?_⟩|refine jD rfl rfl rfl rfl ⟨inferInstance, ?_⟩|refine jA rfl ⟨inferInstance, ?_⟩)
        refine ⟨rfl, by (repeat' (first|assumption|exact Same.ovN|refine Same.upd rfl ?_|refine Same.putS rfl ?_|refine Same.ovN' rfl ?_|exact Same.refl _ _|exact Same.putN ?_)), rs[k].2.2.length - (q + 1), by omega, inferInstance, q + 1, congrArg (Value.int .i64) (by omega), rfl, by omega, fun i hi hik => ?_⟩
        by_cases e : i = q
        · subst e; exact hb3
        · exact hpre2 i hi (by omega)
    · have : rowBad d.length boxes rs[k] = true := by simp [rowBad]; omega
      rw [hbad k hk' this]; exact rfl
    · refine ⟨rfl, by (repeat' (first|assumption|exact Same.ovN|refine Same.upd rfl ?_|refine Same.putS rfl ?_|refine Same.ovN' rfl ?_|exact Same.refl _ _|exact Same.putN ?_)), rs.length - (k + 1), by omega, inferInstance, k + 1, congrArg (Value.int .i64) (by omega), rfl, by omega, fun i hi hik => ?_⟩
      by_cases e : i = k
      · subst e
        have h1 : rs[i].2.2.all (inB 0 (boxes - 1)) = true := by
          rw [List.all_eq_true]
          intro x hx
          obtain ⟨z, hz, rfl⟩ := List.mem_iff_getElem.1 hx
          exact hpre2 z hz (by omega)
        have h2 : rs[i].2.2.length = d.length := by omega
        simp [rowBad, h1, h2]
      · exact hpre i hi (by omega)
  · have h1 : rs.any (rowBad d.length boxes) = false := by
      rw [List.any_eq_false]
      intro x hx
      obtain ⟨z, hz, rfl⟩ := List.mem_iff_getElem.1 hx
      rw [hpre z hz (by omega)]; simp
    exact congrArg Value.bool (by rw [planBad, h1, Bool.false_or, ← decide_not, decide_eq_decide]; omega)

set_option maxHeartbeats 2000000 in
theorem Sort_ref6 (hl : d.length ≤ 1000000) (hrl : rs.length ≤ 1000000) (hil : ∀ x ∈ rs, x.2.2.length ≤ 1000000) : Ct Try.prog 11 [.slice a d.length c, .int .i64 boxes, .slice pa rs.length pc] w fun v w' => SortR d boxes rs w.heap.size v w' := by
  refine Ct.ofW (by simp) ?_
  repeat' (first |((first|apply jI|apply jJ|apply jK rfl|apply jL rfl); first|exact eI rfl|exact eB rfl|exact eP rfl|exact eS rfl|exact eT rfl|exact eA rfl|exact eU rfl|exact eF rfl|exact eM rfl|exact eN rfl|exact rfl)|(refine jM ?_; first|refine jN rfl rfl rfl ?_|refine jO rfl rfl rfl rfl ?_|refine jP rfl rfl rfl ?_|refine jQ rfl rfl ?_|refine jR (by assumption) rfl rfl ?_)|(refine jS ?_; first|refine jT rfl rfl rfl ?_|refine jU rfl rfl rfl rfl ?_|refine jV rfl rfl ?_)|(refine jW ?_; first|refine jX rfl rfl ?_|refine jY rfl rfl (by omega) ?_|refine jZ rfl rfl (by omega) ?_|refine ja rfl rfl ?_|refine jb rfl rfl ?_|refine jc rfl rfl ?_|refine jd rfl rfl ?_|refine je rfl rfl ?_|refine jf rfl rfl ?_)|(refine jg ?_; first|refine jh rfl ?_|refine ji rfl ?_|refine jj rfl rfl ?_|refine jk rfl rfl ?_|refine jl rfl ?_)|(refine jm ?_; refine jn rfl ?_)|(refine jo ?_; first|refine jp rfl ?_|refine jq rfl ?_|refine jr rfl ?_|refine js rfl ?_) |(refine jE ?_; first|(refine jF rfl rfl rfl (map_get (by omega)) ?_; intro _ _ _)|refine jG rfl rfl rfl (by omega) ?_)|refine jt rfl rfl rfl (by omega) ?_|refine ju rfl rfl ?_|refine jv ?_|refine jw rfl ?_ |refine jz ?_|(refine jjA ?_; first|refine jjB ?_|refine jjC ?_|refine jjD ?_|refine jjE ?_|refine jjF ?_|refine jjG ?_|refine jjH ?_|refine jjI ?_|refine jjJ rfl ?_|refine jjK rfl ?_) |refine jA rfl ⟨⟨_, rfl⟩, ?_⟩|refine jB rfl rfl ⟨inferInstance, ?_⟩|refine jC rfl rfl rfl ⟨inferInstance, ?_⟩|refine jD rfl rfl rfl rfl ⟨inferInstance, ?_⟩|refine jA rfl ⟨inferInstance, ?_⟩)
  refine jjQ (asked_ref6 a c d _ boxes hl) rfl rfl ?_
  rintro _ w1 hS1 rfl
  by_cases he : opE d boxes = 0
  rotate_left
  · repeat' (first |(refine jW ?_; first|refine jjZ rfl rfl (by omega) ?_|refine jja rfl rfl (by omega) ?_|refine jjb rfl rfl (by omega) ?_|refine jjc rfl rfl (by omega) ?_|refine jjd rfl rfl (by omega) ?_|refine jje rfl rfl (by omega) ?_|refine jjf rfl rfl (by omega) ?_|refine jjg rfl rfl (by omega) ?_|refine jjh rfl rfl (by omega) ?_|refine jji rfl rfl (by omega) ?_|refine jjj rfl rfl (by omega) ?_|refine jjk rfl rfl (by omega) ?_) |((first|apply jI|apply jJ|apply jK rfl|apply jL rfl); first|exact eI rfl|exact eB rfl|exact eP rfl|exact eS rfl|exact eT rfl|exact eA rfl|exact eU rfl|exact eF rfl|exact eM rfl|exact eN rfl|exact rfl)|(refine jM ?_; first|refine jN rfl rfl rfl ?_|refine jO rfl rfl rfl rfl ?_|refine jP rfl rfl rfl ?_|refine jQ rfl rfl ?_|refine jR (by assumption) rfl rfl ?_)|(refine jS ?_; first|refine jT rfl rfl rfl ?_|refine jU rfl rfl rfl rfl ?_|refine jV rfl rfl ?_)|(refine jW ?_; first|refine jX rfl rfl ?_|refine jY rfl rfl (by omega) ?_|refine jZ rfl rfl (by omega) ?_|refine ja rfl rfl ?_|refine jb rfl rfl ?_|refine jc rfl rfl ?_|refine jd rfl rfl ?_|refine je rfl rfl ?_|refine jf rfl rfl ?_)|(refine jg ?_; first|refine jh rfl ?_|refine ji rfl ?_|refine jj rfl rfl ?_|refine jk rfl rfl ?_|refine jl rfl ?_)|(refine jm ?_; refine jn rfl ?_)|(refine jo ?_; first|refine jp rfl ?_|refine jq rfl ?_|refine jr rfl ?_|refine js rfl ?_) |(refine jE ?_; first|(refine jF rfl rfl rfl (map_get (by omega)) ?_; intro _ _ _)|refine jG rfl rfl rfl (by omega) ?_)|refine jt rfl rfl rfl (by omega) ?_|refine ju rfl rfl ?_|refine jv ?_|refine jw rfl ?_ |(refine jx ?_; refine jy rfl ?_; intro _ _ _ _ _ hblk; have := At.ofBlock hblk; clear hblk) |refine jz ?_|(refine jjA ?_; first|refine jjB ?_|refine jjC ?_|refine jjD ?_|refine jjE ?_|refine jjF ?_|refine jjG ?_|refine jjH ?_|refine jjI ?_|refine jjJ rfl ?_|refine jjK rfl ?_) |refine jA rfl ⟨⟨_, rfl⟩, ?_⟩|refine jB rfl rfl ⟨inferInstance, ?_⟩|refine jC rfl rfl rfl ⟨inferInstance, ?_⟩|refine jD rfl rfl rfl rfl ⟨inferInstance, ?_⟩|refine jA rfl ⟨inferInstance, ?_⟩)
    exact .inl ⟨he, rfl⟩
  rw [he]
  have hbx : 2 ≤ boxes ∧ boxes ≤ 20 := by
    simp only [opE] at he
    split at he
    · split at he
      · rename_i h; simpa [inB] using h
      · omega
    · omega
  have hdl : d.length ≤ 60 := by
    simp only [opE] at he
    split at he
    · exact deckB_len ‹_›
    · omega
  repeat' (first |(refine jW ?_; first|refine jjZ rfl rfl (by omega) ?_|refine jja rfl rfl (by omega) ?_|refine jjb rfl rfl (by omega) ?_|refine jjc rfl rfl (by omega) ?_|refine jjd rfl rfl (by omega) ?_|refine jje rfl rfl (by omega) ?_|refine jjf rfl rfl (by omega) ?_|refine jjg rfl rfl (by omega) ?_|refine jjh rfl rfl (by omega) ?_|refine jji rfl rfl (by omega) ?_|refine jjj rfl rfl (by omega) ?_|refine jjk rfl rfl (by omega) ?_) |((first|apply jI|apply jJ|apply jK rfl|apply jL rfl); first|exact eI rfl|exact eB rfl|exact eP rfl|exact eS rfl|exact eT rfl|exact eA rfl|exact eU rfl|exact eF rfl|exact eM rfl|exact eN rfl|exact rfl)|(refine jM ?_; first|refine jN rfl rfl rfl ?_|refine jO rfl rfl rfl rfl ?_|refine jP rfl rfl rfl ?_|refine jQ rfl rfl ?_|refine jR (by assumption) rfl rfl ?_)|(refine jS ?_; first|refine jT rfl rfl rfl ?_|refine jU rfl rfl rfl rfl ?_|refine jV rfl rfl ?_)|(refine jW ?_; first|refine jX rfl rfl ?_|refine jY rfl rfl (by omega) ?_|refine jZ rfl rfl (by omega) ?_|refine ja rfl rfl ?_|refine jb rfl rfl ?_|refine jc rfl rfl ?_|refine jd rfl rfl ?_|refine je rfl rfl ?_|refine jf rfl rfl ?_)|(refine jg ?_; first|refine jh rfl ?_|refine ji rfl ?_|refine jj rfl rfl ?_|refine jk rfl rfl ?_|refine jl rfl ?_)|(refine jm ?_; refine jn rfl ?_)|(refine jo ?_; first|refine jp rfl ?_|refine jq rfl ?_|refine jr rfl ?_|refine js rfl ?_) |(refine jE ?_; first|(refine jF rfl rfl rfl (map_get (by omega)) ?_; intro _ _ _)|refine jG rfl rfl rfl (by omega) ?_)|refine jt rfl rfl rfl (by omega) ?_|refine ju rfl rfl ?_|refine jv ?_|refine jw rfl ?_ |(refine jx ?_; refine jy rfl ?_; intro _ _ _ _ _ hblk; have := At.ofBlock hblk; clear hblk) |refine jz ?_|(refine jjA ?_; first|refine jjB ?_|refine jjC ?_|refine jjD ?_|refine jjE ?_|refine jjF ?_|refine jjG ?_|refine jjH ?_|refine jjI ?_|refine jjJ rfl ?_|refine jjK rfl ?_) |refine jA rfl ⟨⟨_, rfl⟩, ?_⟩|refine jB rfl rfl ⟨inferInstance, ?_⟩|refine jC rfl rfl rfl ⟨inferInstance, ?_⟩|refine jD rfl rfl rfl rfl ⟨inferInstance, ?_⟩|refine jA rfl ⟨inferInstance, ?_⟩)
  refine jjQ (Valid_ref a pa c pc d boxes rs _ hrl hil hbx) rfl rfl ?_
  rintro _ w2 hS2 rfl
  cases hpb : planBad d.length boxes rs
  rotate_left
  · repeat' (first |(refine jW ?_; first|refine jjZ rfl rfl (by omega) ?_|refine jja rfl rfl (by omega) ?_|refine jjb rfl rfl (by omega) ?_|refine jjc rfl rfl (by omega) ?_|refine jjd rfl rfl (by omega) ?_|refine jje rfl rfl (by omega) ?_|refine jjf rfl rfl (by omega) ?_|refine jjg rfl rfl (by omega) ?_|refine jjh rfl rfl (by omega) ?_|refine jji rfl rfl (by omega) ?_|refine jjj rfl rfl (by omega) ?_|refine jjk rfl rfl (by omega) ?_) |((first|apply jI|apply jJ|apply jK rfl|apply jL rfl); first|exact eI rfl|exact eB rfl|exact eP rfl|exact eS rfl|exact eT rfl|exact eA rfl|exact eU rfl|exact eF rfl|exact eM rfl|exact eN rfl|exact rfl)|(refine jM ?_; first|refine jN rfl rfl rfl ?_|refine jO rfl rfl rfl rfl ?_|refine jP rfl rfl rfl ?_|refine jQ rfl rfl ?_|refine jR (by assumption) rfl rfl ?_)|(refine jS ?_; first|refine jT rfl rfl rfl ?_|refine jU rfl rfl rfl rfl ?_|refine jV rfl rfl ?_)|(refine jW ?_; first|refine jX rfl rfl ?_|refine jY rfl rfl (by omega) ?_|refine jZ rfl rfl (by omega) ?_|refine ja rfl rfl ?_|refine jb rfl rfl ?_|refine jc rfl rfl ?_|refine jd rfl rfl ?_|refine je rfl rfl ?_|refine jf rfl rfl ?_)|(refine jg ?_; first|refine jh rfl ?_|refine ji rfl ?_|refine jj rfl rfl ?_|refine jk rfl rfl ?_|refine jl rfl ?_)|(refine jm ?_; refine jn rfl ?_)|(refine jo ?_; first|refine jp rfl ?_|refine jq rfl ?_|refine jr rfl ?_|refine js rfl ?_) |(refine jE ?_; first|(refine jF rfl rfl rfl (map_get (by omega)) ?_; intro _ _ _)|refine jG rfl rfl rfl (by omega) ?_)|refine jt rfl rfl rfl (by omega) ?_|refine ju rfl rfl ?_|refine jv ?_|refine jw rfl ?_ |(refine jx ?_; refine jy rfl ?_; intro _ _ _ _ _ hblk; have := At.ofBlock hblk; clear hblk) |refine jz ?_|(refine jjA ?_; first|refine jjB ?_|refine jjC ?_|refine jjD ?_|refine jjE ?_|refine jjF ?_|refine jjG ?_|refine jjH ?_|refine jjI ?_|refine jjJ rfl ?_|refine jjK rfl ?_) |refine jA rfl ⟨⟨_, rfl⟩, ?_⟩|refine jB rfl rfl ⟨inferInstance, ?_⟩|refine jC rfl rfl rfl ⟨inferInstance, ?_⟩|refine jD rfl rfl rfl rfl ⟨inferInstance, ?_⟩|refine jA rfl ⟨inferInstance, ?_⟩)
    exact .inr (.inl ⟨he, hpb, rfl⟩)
  obtain ⟨bn, rfl⟩ : ∃ bn : Nat, boxes = bn := ⟨boxes.toNat, by omega⟩
  repeat' (first |(refine jW ?_; first|refine jjZ rfl rfl (by omega) ?_|refine jja rfl rfl (by omega) ?_|refine jjb rfl rfl (by omega) ?_|refine jjc rfl rfl (by omega) ?_|refine jjd rfl rfl (by omega) ?_|refine jje rfl rfl (by omega) ?_|refine jjf rfl rfl (by omega) ?_|refine jjg rfl rfl (by omega) ?_|refine jjh rfl rfl (by omega) ?_|refine jji rfl rfl (by omega) ?_|refine jjj rfl rfl (by omega) ?_|refine jjk rfl rfl (by omega) ?_) |((first|apply jI|apply jJ|apply jK rfl|apply jL rfl); first|exact eI rfl|exact eB rfl|exact eP rfl|exact eS rfl|exact eT rfl|exact eA rfl|exact eU rfl|exact eF rfl|exact eM rfl|exact eN rfl|exact rfl)|(refine jM ?_; first|refine jN rfl rfl rfl ?_|refine jO rfl rfl rfl rfl ?_|refine jP rfl rfl rfl ?_|refine jQ rfl rfl ?_|refine jR (by assumption) rfl rfl ?_)|(refine jS ?_; first|refine jT rfl rfl rfl ?_|refine jU rfl rfl rfl rfl ?_|refine jV rfl rfl ?_)|(refine jW ?_; first|refine jX rfl rfl ?_|refine jY rfl rfl (by omega) ?_|refine jZ rfl rfl (by omega) ?_|refine ja rfl rfl ?_|refine jb rfl rfl ?_|refine jc rfl rfl ?_|refine jd rfl rfl ?_|refine je rfl rfl ?_|refine jf rfl rfl ?_)|(refine jg ?_; first|refine jh rfl ?_|refine ji rfl ?_|refine jj rfl rfl ?_|refine jk rfl rfl ?_|refine jl rfl ?_)|(refine jm ?_; refine jn rfl ?_)|(refine jo ?_; first|refine jp rfl ?_|refine jq rfl ?_|refine jr rfl ?_|refine js rfl ?_) |(refine jE ?_; first|(refine jF rfl rfl rfl (map_get (by omega)) ?_; intro _ _ _)|refine jG rfl rfl rfl (by omega) ?_)|refine jt rfl rfl rfl (by omega) ?_|refine ju rfl rfl ?_|refine jv ?_|refine jw rfl ?_ |(refine jx ?_; refine jy rfl ?_; intro _ _ _ _ _ hblk; have := At.ofBlock hblk; clear hblk) |refine jz ?_|(refine jjA ?_; first|refine jjB ?_|refine jjC ?_|refine jjD ?_|refine jjE ?_|refine jjF ?_|refine jjG ?_|refine jjH ?_|refine jjI ?_|refine jjJ rfl ?_|refine jjK rfl ?_) |refine jA rfl ⟨⟨_, rfl⟩, ?_⟩|refine jB rfl rfl ⟨inferInstance, ?_⟩|refine jC rfl rfl rfl ⟨inferInstance, ?_⟩|refine jD rfl rfl rfl rfl ⟨inferInstance, ?_⟩|refine jA rfl ⟨inferInstance, ?_⟩)
  have hE2 : Ext w w2 := inferInstance
  have z2 := hE2.size
  refine W.keep0 [(0, .slice a d.length c), (1, .int .i64 (bn : Int)), (2, .slice pa rs.length pc), (9, .slice none 0 0), (10, .int .i64 ((0 : Nat) : Int))] ⟨eS rfl, eI rfl, eS rfl, eS rfl, eI rfl, trivial⟩ fun s0 => ?_
  refine W.loop (26 :: 27 :: 28 :: 29 :: 32 :: 33 :: 34 :: 35 :: 9 :: 30 :: 31 :: 10 :: []) (fun g s' w' => ∃ (i : Nat) (v : Value), s' 10 = .int .i64 ((i : Nat) : Int) ∧ s' 9 = v ∧ g = d.length - i ∧ i ≤ d.length ∧ OwnL w' w2.heap.size 3 false 1 v ((upN i).map intV)) d.length ⟨0, _, rfl, rfl, rfl, Nat.zero_le _, OwnL.nil _ _ _ _ _⟩ ?_
  rintro _ sd w4 hS4 ⟨i, v, h10, h9, rfl, hi, hO1⟩
  refine W.fix h10 (W.fix (d := 9) h9 ?_)
  clear h10 h9
  have z4 := hS4.size
  repeat' (first |((first|apply jI|apply jJ|apply jK rfl|apply jL rfl); first|exact eI rfl|exact eB rfl|exact eP rfl|exact eS rfl|exact eT rfl|exact eA rfl|exact eU rfl|exact eF rfl|exact eM rfl|exact eN rfl|exact rfl)|(refine jM ?_; first|refine jN rfl rfl rfl ?_|refine jO rfl rfl rfl rfl ?_|refine jP rfl rfl rfl ?_|refine jQ rfl rfl ?_|refine jR (by assumption) rfl rfl ?_)|(refine jS ?_; first|refine jT rfl rfl rfl ?_|refine jU rfl rfl rfl rfl ?_|refine jV rfl rfl ?_)|(refine jW ?_; first|refine jX rfl rfl ?_|refine jY rfl rfl (by omega) ?_|refine jZ rfl rfl (by omega) ?_|refine ja rfl rfl ?_|refine jb rfl rfl ?_|refine jc rfl rfl ?_|refine jd rfl rfl ?_|refine je rfl rfl ?_|refine jf rfl rfl ?_)|(refine jg ?_; first|refine jh rfl ?_|refine ji rfl ?_|refine jj rfl rfl ?_|refine jk rfl rfl ?_|refine jl rfl ?_)|(refine jm ?_; refine jn rfl ?_)|(refine jo ?_; first|refine jp rfl ?_|refine jq rfl ?_|refine jr rfl ?_|refine js rfl ?_) |(refine jE ?_; first|(refine jF rfl rfl rfl (map_get (by omega)) ?_; intro _ _ _)|refine jG rfl rfl rfl (by omega) ?_)|refine jt rfl rfl rfl (by omega) ?_|refine ju rfl rfl ?_|refine jv ?_|refine jw rfl ?_ |(refine jx ?_; refine jy rfl ?_; intro _ _ _ _ _ hblk; have := At.ofBlock hblk; clear hblk) |refine jz ?_|(refine jjA ?_; first|refine jjB ?_|refine jjC ?_|refine jjD ?_|refine jjE ?_|refine jjF ?_|refine jjG ?_|refine jjH ?_|refine jjI ?_|refine jjJ rfl ?_|refine jjK rfl ?_) |(refine jS ?_; first|(refine jjL rfl rfl ?_ ?_ <;> intro _)|(refine jjM rfl rfl ?_ ?_ <;> intro _))|(refine jjA ?_; first|(refine jjN rfl ?_ ?_ <;> intro _)|(refine jjO rfl ?_ ?_ <;> intro _)) |refine jA rfl ⟨⟨_, rfl⟩, ?_⟩|refine jB rfl rfl ⟨inferInstance, ?_⟩|refine jC rfl rfl rfl ⟨inferInstance, ?_⟩|refine jD rfl rfl rfl rfl ⟨inferInstance, ?_⟩|refine jA rfl ⟨inferInstance, ?_⟩)
  · (refine jjP (v := .int _ _) rfl (by exact rfl) (by exact rfl) (by exact rfl) (by exact rfl) ?_; intro b5 w_b5 hb_b5 hs_b5 hS_b5 hk_b5; have hR_b5 := RowV.one (agg := false) (k := 1) rfl hk_b5)
    have z5 := hS_b5.size
    refine Ops.appendL (hO1.ext hS_b5.ext) (by omega) hR_b5 rfl rfl rfl rfl (one_int _) ?_ ?_ ?_
    · simp only [List.length_map, upN_len, List.length_cons, List.length_nil]; omega
    · simp only [List.length_map, upN_len, List.length_cons, List.length_nil]; omega
    intro v2 w6 hA6 hO6 _ _
    have hE6 : Ext w2 w6 := hA6.ext inferInstance (Nat.le_refl _)
    repeat' (first |((first|apply jI|apply jJ|apply jK rfl|apply jL rfl); first|exact eI rfl|exact eB rfl|exact eP rfl|exact eS rfl|exact eT rfl|exact eA rfl|exact eU rfl|exact eF rfl|exact eM rfl|exact eN rfl|exact rfl)|(refine jM ?_; first|refine jN rfl rfl rfl ?_|refine jO rfl rfl rfl rfl ?_|refine jP rfl rfl rfl ?_|refine jQ rfl rfl ?_|refine jR (by assumption) rfl rfl ?_)|(refine jS ?_; first|refine jT rfl rfl rfl ?_|refine jU rfl rfl rfl rfl ?_|refine jV rfl rfl ?_)|(refine jW ?_; first|refine jX rfl rfl ?_|refine jY rfl rfl (by omega) ?_|refine jZ rfl rfl (by omega) ?_|refine ja rfl rfl ?_|refine jb rfl rfl ?_|refine jc rfl rfl ?_|refine jd rfl rfl ?_|refine je rfl rfl ?_|refine jf rfl rfl ?_)|(refine jg ?_; first|refine jh rfl ?_|refine ji rfl ?_|refine jj rfl rfl ?_|refine jk rfl rfl ?_|refine jl rfl ?_)|(refine jm ?_; refine jn rfl ?_)|(refine jo ?_; first|refine jp rfl ?_|refine jq rfl ?_|refine jr rfl ?_|refine js rfl ?_) |(refine jE ?_; first|(refine jF rfl rfl rfl (map_get (by omega)) ?_; intro _ _ _)|refine jG rfl rfl rfl (by omega) ?_)|refine jt rfl rfl rfl (by omega) ?_|refine ju rfl rfl ?_|refine jv ?_|refine jw rfl ?_ |refine jz ?_|(refine jjA ?_; first|refine jjB ?_|refine jjC ?_|refine jjD ?_|refine jjE ?_|refine jjF ?_|refine jjG ?_|refine jjH ?_|refine jjI ?_|refine jjJ rfl ?_|refine jjK rfl ?_) |refine jA rfl ⟨⟨_, rfl⟩, ?_⟩|refine jB rfl rfl ⟨inferInstance, ?_⟩|refine jC rfl rfl rfl ⟨inferInstance, ?_⟩|refine jD rfl rfl rfl rfl ⟨inferInstance, ?_⟩|refine jA rfl ⟨inferInstance, ?_⟩)
    refine ⟨rfl, by (repeat' (first|assumption|exact Same.ovN|refine Same.upd rfl ?_|refine Same.putS rfl ?_|refine Same.ovN' rfl ?_|exact Same.refl _ _|exact Same.putN ?_)), d.length - (i + 1), by omega, hE6, i + 1, v2, congrArg (Value.int .i64) (by omega), rfl, rfl, by omega, ?_⟩
    rw [upN_succ, List.map_append]; exact hO6
  · have hie : i = d.length := by omega
    subst hie
    have hany : rs.any (rowBad d.length (bn : Int)) = false := by
      simp only [planBad, Bool.or_eq_false_iff] at hpb; exact hpb.1
    refine W.keep0 [(1, .int .i64 (bn : Int)), (2, .slice pa rs.length pc), (9, v), (11, .int .i64 ((0 : Nat) : Int))] ⟨eI rfl, eS rfl, rfl, eI rfl, trivial⟩ fun s1 => ?_
    refine W.loop (36 :: 37 :: 38 :: 39 :: 12 :: 13 :: 42 :: 43 :: 44 :: 14 :: 47 :: 48 :: 49 :: 50 :: 53 :: 54 :: 55 :: 56 :: 57 :: 58 :: 59 :: 60 :: 61 :: 62 :: 63 :: 64 :: 65 :: 66 :: 67 :: 68 :: 69 :: 70 :: 71 :: 51 :: 52 :: 45 :: 46 :: 72 :: 9 :: 40 :: 41 :: 11 :: []) (fun g s' V => ∃ (k : Nat) (v : Value), s' 11 = .int .i64 ((k : Nat) : Int) ∧ s' 9 = v ∧ g = rs.length - k ∧ k ≤ rs.length ∧ OwnL V w2.heap.size 3 false 1 v ((sortF d.length (rs.take k)).map intV)) rs.length ⟨0, _, rfl, rfl, rfl, Nat.zero_le _, by rw [List.take_zero]; exact hO1⟩ ?_
    clear hO1
    rintro _ sd2 V hSV ⟨k, v, h11, h9, rfl, hk, hOV⟩
    refine W.fix h11 (W.fix (d := 9) h9 ?_)
    clear h11 h9
    have hL : (sortF d.length (rs.take k)).length = d.length := sortF_len _ _
    obtain ⟨av, cv, ev⟩ := hOV.slice
    rw [List.length_map, hL] at ev
    subst ev
    have zV := hSV.size
    repeat' (first |((first|apply jI|apply jJ|apply jK rfl|apply jL rfl); first|exact eI rfl|exact eB rfl|exact eP rfl|exact eS rfl|exact eT rfl|exact eA rfl|exact eU rfl|exact eF rfl|exact eM rfl|exact eN rfl|exact rfl)|(refine jM ?_; first|refine jN rfl rfl rfl ?_|refine jO rfl rfl rfl rfl ?_|refine jP rfl rfl rfl ?_|refine jQ rfl rfl ?_|refine jR (by assumption) rfl rfl ?_)|(refine jS ?_; first|refine jT rfl rfl rfl ?_|refine jU rfl rfl rfl rfl ?_|refine jV rfl rfl ?_)|(refine jW ?_; first|refine jX rfl rfl ?_|refine jY rfl rfl (by omega) ?_|refine jZ rfl rfl (by omega) ?_|refine ja rfl rfl ?_|refine jb rfl rfl ?_|refine jc rfl rfl ?_|refine jd rfl rfl ?_|refine je rfl rfl ?_|refine jf rfl rfl ?_)|(refine jg ?_; first|refine jh rfl ?_|refine ji rfl ?_|refine jj rfl rfl ?_|refine jk rfl rfl ?_|refine jl rfl ?_)|(refine jm ?_; refine jn rfl ?_)|(refine jo ?_; first|refine jp rfl ?_|refine jq rfl ?_|refine jr rfl ?_|refine js rfl ?_) |(refine jE ?_; first|(refine jF rfl rfl rfl (map_get (by omega)) ?_; intro _ _ _)|refine jG rfl rfl rfl (by omega) ?_)|refine jt rfl rfl rfl (by omega) ?_|refine ju rfl rfl ?_|refine jv ?_|refine jw rfl ?_ |(refine jx ?_; refine jy rfl ?_; intro _ _ _ _ _ hblk; have := At.ofBlock hblk; clear hblk) |refine jz ?_|(refine jjA ?_; first|refine jjB ?_|refine jjC ?_|refine jjD ?_|refine jjE ?_|refine jjF ?_|refine jjG ?_|refine jjH ?_|refine jjI ?_|refine jjJ rfl ?_|refine jjK rfl ?_) |(refine jS ?_; first|(refine jjL rfl rfl ?_ ?_ <;> intro _)|(refine jjM rfl rfl ?_ ?_ <;> intro _))|(refine jjA ?_; first|(refine jjN rfl ?_ ?_ <;> intro _)|(refine jjO rfl ?_ ?_ <;> intro _)) |refine jA rfl ⟨⟨_, rfl⟩, ?_⟩|refine jB rfl rfl ⟨inferInstance, ?_⟩|refine jC rfl rfl rfl ⟨inferInstance, ?_⟩|refine jD rfl rfl rfl rfl ⟨inferInstance, ?_⟩|refine jA rfl ⟨inferInstance, ?_⟩)
    · have hk' : k < rs.length := by omega
      have hbad : rowBad d.length (bn : Int) rs[k] = false := by
        rw [List.any_eq_false] at hany
        simpa using hany rs[k] (List.getElem_mem hk')
      have hLm : ∀ y ∈ sortF d.length (rs.take k), 0 ≤ y ∧ y < d.length := fun y hy => sortF_mem.1 hy
      have hgx := List.getElem?_eq_getElem hk'
      have hsn : sortF d.length (rs.take (k + 1)) = ssort (keyD rs[k].2.2) (sortF d.length (rs.take k)) := by rw [take_snoc_get hgx, sortF_snoc]
      generalize sortF d.length (rs.take k) = L at hOV hL hLm hsn
      have hlen : rs[k].2.2.length = d.length := by simp [rowBad] at hbad; omega
      have hall : rs[k].2.2.all (inB 0 ((bn : Int) - 1)) = true := by simp [rowBad] at hbad; simpa using hbad.2
      have hpV : RowI V (.slice pa rs.length pc) false 1 (rs.map encW) := inferInstance
      have hxV : RowV V false 1 (encW rs[k]) (rs[k].2.2.map intV) := (hrs.h _ (List.getElem_mem hk')).ext (inferInstance : Ext w V)
      have hpk := map_get (enc := encW) hk'
      generalize rs[k] = x3 at *
      obtain ⟨ax, cx, xl⟩ := x3
      replace hxV : RowV V false 1 (.slice ax xl.length cx) (xl.map intV) := hxV
      replace hlen : xl.length = d.length := hlen
      replace hall : xl.all (inB 0 ((bn : Int) - 1)) = true := hall
      replace hpk : (rs.map encW)[k]? = some (.slice ax xl.length cx) := hpk
      replace hsn : sortF d.length (rs.take (k + 1)) = ssort (keyD xl) L := hsn
      have hkb : ∀ y ∈ L, 0 ≤ keyD xl y ∧ keyD xl y < bn := fun y hy => by
        obtain ⟨yn, rfl⟩ : ∃ yn : Nat, y = yn := ⟨y.toNat, by have := hLm y hy; omega⟩
        have hyl : yn < xl.length := by have := hLm _ hy; omega
        rw [keyD_nat hyl]
        have := List.all_eq_true.1 hall _ (List.getElem_mem hyl)
        simp only [inB, decide_eq_true_eq] at this
        omega
      have hlV : RowI V (.slice av d.length cv) false 1 (L.map intV) := ⟨hOV.row⟩
      refine W.keep [(1, .int .i64 (bn : Int)), (2, .slice pa rs.length pc), (9, .slice av d.length cv), (11, .int .i64 ((k : Nat) : Int)), (12, .slice none 0 0), (13, .int .i64 ((0 : Nat) : Int))] (D := (36 :: 37 :: 38 :: 39 :: 12 :: 13 :: 42 :: 43 :: 44 :: 14 :: 47 :: 48 :: 49 :: 50 :: 53 :: 54 :: 55 :: 56 :: 57 :: 58 :: 59 :: 60 :: 61 :: 62 :: 63 :: 64 :: 65 :: 66 :: 67 :: 68 :: 69 :: 70 :: 71 :: 51 :: 52 :: 45 :: 46 :: 72 :: 9 :: 40 :: 41 :: 11 :: [])) (sO := upds s1 _) (by (repeat' (first|assumption|exact Same.ovN|refine Same.upd rfl ?_|refine Same.putS rfl ?_|refine Same.ovN' rfl ?_|exact Same.refl _ _|exact Same.putN ?_))) ⟨eI rfl, eS rfl, eS rfl, eI rfl, eS rfl, eI rfl, trivial⟩ fun s2 hs2 => ?_
      refine W.loop (42 :: 43 :: 44 :: 14 :: 47 :: 48 :: 49 :: 50 :: 53 :: 54 :: 55 :: 56 :: 57 :: 58 :: 59 :: 60 :: 61 :: 62 :: 63 :: 64 :: 65 :: 66 :: 67 :: 68 :: 69 :: 70 :: 71 :: 12 :: 51 :: 52 :: 45 :: 46 :: 13 :: []) (fun g s' W3 => ∃ (bx : Nat) (nv : Value), s' 13 = .int .i64 ((bx : Nat) : Int) ∧ s' 12 = nv ∧ g = bn - bx ∧ bx ≤ bn ∧ OwnL W3 V.heap.size 3 false 1 nv ((bktF xl L bx).map intV)) bn ⟨0, _, rfl, rfl, rfl, Nat.zero_le _, OwnL.nil _ _ _ _ _⟩ ?_
      rintro _ sd3 W3 hS3 ⟨bx, nv, h13, h12, rfl, hbx3, hO3⟩
      refine W.fix h13 (W.fix (d := 12) h12 ?_)
      clear h13 h12
      repeat' (first |((first|apply jI|apply jJ|apply jK rfl|apply jL rfl); first|exact eI rfl|exact eB rfl|exact eP rfl|exact eS rfl|exact eT rfl|exact eA rfl|exact eU rfl|exact eF rfl|exact eM rfl|exact eN rfl|exact rfl)|(refine jM ?_; first|refine jN rfl rfl rfl ?_|refine jO rfl rfl rfl rfl ?_|refine jP rfl rfl rfl ?_|refine jQ rfl rfl ?_|refine jR (by assumption) rfl rfl ?_)|(refine jS ?_; first|refine jT rfl rfl rfl ?_|refine jU rfl rfl rfl rfl ?_|refine jV rfl rfl ?_)|(refine jW ?_; first|refine jX rfl rfl ?_|refine jY rfl rfl (by omega) ?_|refine jZ rfl rfl (by omega) ?_|refine ja rfl rfl ?_|refine jb rfl rfl ?_|refine jc rfl rfl ?_|refine jd rfl rfl ?_|refine je rfl rfl ?_|refine jf rfl rfl ?_)|(refine jg ?_; first|refine jh rfl ?_|refine ji rfl ?_|refine jj rfl rfl ?_|refine jk rfl rfl ?_|refine jl rfl ?_)|(refine jm ?_; refine jn rfl ?_)|(refine jo ?_; first|refine jp rfl ?_|refine jq rfl ?_|refine jr rfl ?_|refine js rfl ?_) |(refine jE ?_; first|(refine jF rfl rfl rfl (map_get (by omega)) ?_; intro _ _ _)|refine jG rfl rfl rfl (by omega) ?_)|refine jt rfl rfl rfl (by omega) ?_|refine ju rfl rfl ?_|refine jv ?_|refine jw rfl ?_ |(refine jx ?_; refine jy rfl ?_; intro _ _ _ _ _ hblk; have := At.ofBlock hblk; clear hblk) |refine jz ?_|(refine jjA ?_; first|refine jjB ?_|refine jjC ?_|refine jjD ?_|refine jjE ?_|refine jjF ?_|refine jjG ?_|refine jjH ?_|refine jjI ?_|refine jjJ rfl ?_|refine jjK rfl ?_) |(refine jS ?_; first|(refine jjL rfl rfl ?_ ?_ <;> intro _)|(refine jjM rfl rfl ?_ ?_ <;> intro _))|(refine jjA ?_; first|(refine jjN rfl ?_ ?_ <;> intro _)|(refine jjO rfl ?_ ?_ <;> intro _)) |refine jA rfl ⟨⟨_, rfl⟩, ?_⟩|refine jB rfl rfl ⟨inferInstance, ?_⟩|refine jC rfl rfl rfl ⟨inferInstance, ?_⟩|refine jD rfl rfl rfl rfl ⟨inferInstance, ?_⟩|refine jA rfl ⟨inferInstance, ?_⟩)
      · refine W.keep [(1, .int .i64 (bn : Int)), (2, .slice pa rs.length pc), (9, .slice av d.length cv), (11, .int .i64 ((k : Nat) : Int)), (12, nv), (13, .int .i64 ((bx : Nat) : Int)), (14, .int .i64 ((0 : Nat) : Int))] (D := (42 :: 43 :: 44 :: 14 :: 47 :: 48 :: 49 :: 50 :: 53 :: 54 :: 55 :: 56 :: 57 :: 58 :: 59 :: 60 :: 61 :: 62 :: 63 :: 64 :: 65 :: 66 :: 67 :: 68 :: 69 :: 70 :: 71 :: 12 :: 51 :: 52 :: 45 :: 46 :: 13 :: [])) (sO := upds s2 _) (by (repeat' (first|assumption|exact Same.ovN|refine Same.upd rfl ?_|refine Same.putS rfl ?_|refine Same.ovN' rfl ?_|exact Same.refl _ _|exact Same.putN ?_))) ⟨eI rfl, eS rfl, eS rfl, eI rfl, rfl, eI rfl, eI rfl, trivial⟩ fun s3 hs3 => ?_
        refine W.loopG (47 :: 48 :: 49 :: 50 :: 53 :: 54 :: 55 :: 56 :: 57 :: 58 :: 59 :: 60 :: 61 :: 62 :: 63 :: 64 :: 65 :: 66 :: 67 :: 68 :: 69 :: 70 :: 71 :: 12 :: 51 :: 52 :: 14 :: []) (fun g s' W4 => ∃ (i : Nat) (nv : Value), s' 14 = .int .i64 ((i : Nat) : Int) ∧ s' 12 = nv ∧ g = d.length - i ∧ i ≤ d.length ∧ Ext V W4 ∧ OwnL W4 V.heap.size 3 false 1 nv ((bktF xl L bx ++ (L.take i).filter fun y => decide (keyD xl y = (bx : Int))).map intV)) d.length ⟨0, _, rfl, rfl, rfl, Nat.zero_le _, hS3.ext, by rw [List.take_zero, List.filter_nil, List.append_nil]; exact hO3⟩ ?_
        clear hO3
        rintro _ sd4 W4 ⟨i, nv, h14, h12, rfl, hi4, hE4, hO4⟩
        refine W.fix h14 (W.fix (d := 12) h12 ?_)
        clear h14 h12
        have := hE4.toStep
        have z4 := hE4.size
        repeat' (first |((first|apply jI|apply jJ|apply jK rfl|apply jL rfl); first|exact eI rfl|exact eB rfl|exact eP rfl|exact eS rfl|exact eT rfl|exact eA rfl|exact eU rfl|exact eF rfl|exact eM rfl|exact eN rfl|exact rfl)|(refine jM ?_; first|refine jN rfl rfl rfl ?_|refine jO rfl rfl rfl rfl ?_|refine jP rfl rfl rfl ?_|refine jQ rfl rfl ?_|refine jR (by assumption) rfl rfl ?_)|(refine jS ?_; first|refine jT rfl rfl rfl ?_|refine jU rfl rfl rfl rfl ?_|refine jV rfl rfl ?_)|(refine jW ?_; first|refine jX rfl rfl ?_|refine jY rfl rfl (by omega) ?_|refine jZ rfl rfl (by omega) ?_|refine ja rfl rfl ?_|refine jb rfl rfl ?_|refine jc rfl rfl ?_|refine jd rfl rfl ?_|refine je rfl rfl ?_|refine jf rfl rfl ?_)|(refine jg ?_; first|refine jh rfl ?_|refine ji rfl ?_|refine jj rfl rfl ?_|refine jk rfl rfl ?_|refine jl rfl ?_)|(refine jm ?_; refine jn rfl ?_)|(refine jo ?_; first|refine jp rfl ?_|refine jq rfl ?_|refine jr rfl ?_|refine js rfl ?_) |(refine jE ?_; first|(refine jF rfl rfl rfl (map_get (by omega)) ?_; intro _ _ _)|refine jG rfl rfl rfl (by omega) ?_)|refine jt rfl rfl rfl (by omega) ?_|refine ju rfl rfl ?_|refine jv ?_|refine jw rfl ?_ |(refine jx ?_; refine jy rfl ?_; intro _ _ _ _ _ hblk; have := At.ofBlock hblk; clear hblk) |refine jz ?_|(refine jjA ?_; first|refine jjB ?_|refine jjC ?_|refine jjD ?_|refine jjE ?_|refine jjF ?_|refine jjG ?_|refine jjH ?_|refine jjI ?_|refine jjJ rfl ?_|refine jjK rfl ?_) |(refine jS ?_; first|(refine jjL rfl rfl ?_ ?_ <;> intro _)|(refine jjM rfl rfl ?_ ?_ <;> intro _))|(refine jjA ?_; first|(refine jjN rfl ?_ ?_ <;> intro _)|(refine jjO rfl ?_ ?_ <;> intro _)) |refine jA rfl ⟨⟨_, rfl⟩, ?_⟩|refine jB rfl rfl ⟨inferInstance, ?_⟩|refine jC rfl rfl rfl ⟨inferInstance, ?_⟩|refine jD rfl rfl rfl rfl ⟨inferInstance, ?_⟩|refine jA rfl ⟨inferInstance, ?_⟩)
        · have hiL : i < L.length := by omega
          have hLi := hLm L[i] (List.getElem_mem hiL)
          have hgi := List.getElem?_eq_getElem hiL
          have hz := Int.eq_ofNat_of_zero_le hLi.1
          obtain ⟨xi, hxi⟩ := hz
          rw [hxi] at hLi hgi
          have hxl : xi < xl.length := by omega
          have hnew : bktF xl L bx ++ (L.take (i + 1)).filter (fun y => decide (keyD xl y = (bx : Int))) = (bktF xl L bx ++ (L.take i).filter fun y => decide (keyD xl y = (bx : Int))) ++ if xl[xi]'hxl = (bx : Int) then [(xi : Int)] else [] := by
            rw [take_snoc_get hgi, List.filter_append, List.append_assoc]
            congr 2
            by_cases hq : xl[xi]'hxl = (bx : Int) <;> simp [keyD_nat hxl, hq]
          refine W.draw (fun w' => Ext W4 w') ?_
          intro W5 hS5
          have hz := (hpV.h.ext hE4).place' hpk
          obtain ⟨q1, o1, rfl, hA1⟩ := hz
          have hz := (hlV.h.ext hE4).place' (map_get hiL)
          obtain ⟨q2, o2, rfl, hA2⟩ := hz
          have hz := (hxV.ext hE4).place' (map_get hxl)
          obtain ⟨q3, o3, rfl, hA3⟩ := hz
          rw [hxi] at hA2
          rw [Nat.mul_one] at hA1 hA2 hA3
          refine jjV [0, 1, 2, 3, 4, 5, 6, 7, 8, 9, 10, 11] (by decide +kernel) hS5.ext ?_
          ((repeat' (first|(apply jjT; exact rfl)|rintro w' hq; have := hq.toStep; |((first|apply jI|apply jJ|apply jK rfl|apply jL rfl); first|exact eI rfl|exact eB rfl|exact eP rfl|exact eS rfl|exact eT rfl|exact eA rfl|exact eU rfl|exact eF rfl|exact eM rfl|exact eN rfl|exact rfl)|(refine jM ?_; first|refine jN rfl rfl rfl ?_|refine jO rfl rfl rfl rfl ?_|refine jP rfl rfl rfl ?_|refine jQ rfl rfl ?_|refine jR (by assumption) rfl rfl ?_)|(refine jS ?_; first|refine jT rfl rfl rfl ?_|refine jU rfl rfl rfl rfl ?_|refine jV rfl rfl ?_)|(refine jW ?_; first|refine jX rfl rfl ?_|refine jY rfl rfl (by omega) ?_|refine jZ rfl rfl (by omega) ?_|refine ja rfl rfl ?_|refine jb rfl rfl ?_|refine jc rfl rfl ?_|refine jd rfl rfl ?_|refine je rfl rfl ?_|refine jf rfl rfl ?_)|(refine jg ?_; first|refine jh rfl ?_|refine ji rfl ?_|refine jj rfl rfl ?_|refine jk rfl rfl ?_|refine jl rfl ?_)|(refine jm ?_; refine jn rfl ?_)|(refine jo ?_; first|refine jp rfl ?_|refine jq rfl ?_|refine jr rfl ?_|refine js rfl ?_) |(refine jE ?_; first|refine jG rfl rfl rfl (by omega) ?_|refine jG rfl rfl (by assumption) (by omega) ?_|refine jH _ rfl rfl rfl (by omega) ?_)|refine jt rfl rfl rfl (by omega) ?_|refine ju rfl rfl ?_|refine jv ?_|refine jw rfl ?_|refine jz ?_|exact ⟨rfl, rfl⟩|refine jjU ?_)))
          refine jjX (by decide +kernel) hS5.ext ?_
          have hE5 := hE4.trans hS5.ext
          have hO5 := hO4.ext hS5.ext
          have z5 := hE5.size
          repeat' (first |((first|apply jI|apply jJ|apply jK rfl|apply jL rfl); first|exact eI rfl|exact eB rfl|exact eP rfl|exact eS rfl|exact eT rfl|exact eA rfl|exact eU rfl|exact eF rfl|exact eM rfl|exact eN rfl|exact rfl)|(refine jM ?_; first|refine jN rfl rfl rfl ?_|refine jO rfl rfl rfl rfl ?_|refine jP rfl rfl rfl ?_|refine jQ rfl rfl ?_|refine jR (by assumption) rfl rfl ?_)|(refine jS ?_; first|refine jT rfl rfl rfl ?_|refine jU rfl rfl rfl rfl ?_|refine jV rfl rfl ?_)|(refine jW ?_; first|refine jX rfl rfl ?_|refine jY rfl rfl (by omega) ?_|refine jZ rfl rfl (by omega) ?_|refine ja rfl rfl ?_|refine jb rfl rfl ?_|refine jc rfl rfl ?_|refine jd rfl rfl ?_|refine je rfl rfl ?_|refine jf rfl rfl ?_)|(refine jg ?_; first|refine jh rfl ?_|refine ji rfl ?_|refine jj rfl rfl ?_|refine jk rfl rfl ?_|refine jl rfl ?_)|(refine jm ?_; refine jn rfl ?_)|(refine jo ?_; first|refine jp rfl ?_|refine jq rfl ?_|refine jr rfl ?_|refine js rfl ?_) |(refine jE ?_; first|(refine jF rfl rfl rfl (map_get (by omega)) ?_; intro _ _ _)|refine jG rfl rfl rfl (by omega) ?_)|refine jt rfl rfl rfl (by omega) ?_|refine ju rfl rfl ?_|refine jv ?_|refine jw rfl ?_ |(refine jx ?_; refine jy rfl ?_; intro _ _ _ _ _ hblk; have := At.ofBlock hblk; clear hblk) |refine jz ?_|(refine jjA ?_; first|refine jjB ?_|refine jjC ?_|refine jjD ?_|refine jjE ?_|refine jjF ?_|refine jjG ?_|refine jjH ?_|refine jjI ?_|refine jjJ rfl ?_|refine jjK rfl ?_) |(refine jS ?_; first|(refine jjL rfl rfl ?_ ?_ <;> intro _)|(refine jjM rfl rfl ?_ ?_ <;> intro _))|(refine jjA ?_; first|(refine jjN rfl ?_ ?_ <;> intro _)|(refine jjO rfl ?_ ?_ <;> intro _)) |refine jA rfl ⟨⟨_, rfl⟩, ?_⟩|refine jB rfl rfl ⟨inferInstance, ?_⟩|refine jC rfl rfl rfl ⟨inferInstance, ?_⟩|refine jD rfl rfl rfl rfl ⟨inferInstance, ?_⟩|refine jA rfl ⟨inferInstance, ?_⟩)
          · have hq : xl[xi] = (bx : Int) := by assumption
            rw [if_pos hq] at hnew
            have hbl : (bktF xl L bx ++ (L.take i).filter fun y => decide (keyD xl y = (bx : Int))).length ≤ 1300 := by
              have h1 := bktF_len xl L bx
              have h2 : bx * L.length ≤ 20 * 60 := Nat.mul_le_mul (by omega) (by omega)
              have h3 := List.length_filter_le (fun y => decide (keyD xl y = (bx : Int))) (L.take i)
              have h4 := List.length_take_le i L
              rw [List.length_append]; omega
            (refine jjP (v := .int _ _) rfl (by exact rfl) (by exact rfl) (by exact rfl) (by exact rfl) ?_; intro b6 w_b6 hb_b6 hs_b6 hS_b6 hk_b6; have hR_b6 := RowV.one (agg := false) (k := 1) rfl hk_b6)
            have z6 := hS_b6.size
            refine Ops.appendL (hO5.ext hS_b6.ext) (by omega) hR_b6 rfl rfl rfl rfl (one_int _) ?_ ?_ ?_
            · rw [List.length_map]; simp only [List.length_cons, List.length_nil]; omega
            · rw [List.length_map]; simp only [List.length_cons, List.length_nil]; omega
            intro v7 w7 hA7 hO7 _ _
            have hE7 : Ext V w7 := hA7.ext (hE5.trans hS_b6.ext) (Nat.le_refl _)
            repeat' (first |((first|apply jI|apply jJ|apply jK rfl|apply jL rfl); first|exact eI rfl|exact eB rfl|exact eP rfl|exact eS rfl|exact eT rfl|exact eA rfl|exact eU rfl|exact eF rfl|exact eM rfl|exact eN rfl|exact rfl)|(refine jM ?_; first|refine jN rfl rfl rfl ?_|refine jO rfl rfl rfl rfl ?_|refine jP rfl rfl rfl ?_|refine jQ rfl rfl ?_|refine jR (by assumption) rfl rfl ?_)|(refine jS ?_; first|refine jT rfl rfl rfl ?_|refine jU rfl rfl rfl rfl ?_|refine jV rfl rfl ?_)|(refine jW ?_; first|refine jX rfl rfl ?_|refine jY rfl rfl (by omega) ?_|refine jZ rfl rfl (by omega) ?_|refine ja rfl rfl ?_|refine jb rfl rfl ?_|refine jc rfl rfl ?_|refine jd rfl rfl ?_|refine je rfl rfl ?_|refine jf rfl rfl ?_)|(refine jg ?_; first|refine jh rfl ?_|refine ji rfl ?_|refine jj rfl rfl ?_|refine jk rfl rfl ?_|refine jl rfl ?_)|(refine jm ?_; refine jn rfl ?_)|(refine jo ?_; first|refine jp rfl ?_|refine jq rfl ?_|refine jr rfl ?_|refine js rfl ?_) |(refine jE ?_; first|(refine jF rfl rfl rfl (map_get (by omega)) ?_; intro _ _ _)|refine jG rfl rfl rfl (by omega) ?_)|refine jt rfl rfl rfl (by omega) ?_|refine ju rfl rfl ?_|refine jv ?_|refine jw rfl ?_ |refine jz ?_|(refine jjA ?_; first|refine jjB ?_|refine jjC ?_|refine jjD ?_|refine jjE ?_|refine jjF ?_|refine jjG ?_|refine jjH ?_|refine jjI ?_|refine jjJ rfl ?_|refine jjK rfl ?_) |refine jA rfl ⟨⟨_, rfl⟩, ?_⟩|refine jB rfl rfl ⟨inferInstance, ?_⟩|refine jC rfl rfl rfl ⟨inferInstance, ?_⟩|refine jD rfl rfl rfl rfl ⟨inferInstance, ?_⟩|refine jA rfl ⟨inferInstance, ?_⟩)
            refine ⟨rfl, by (repeat' (first|assumption|exact Same.ovN|refine Same.upd rfl ?_|refine Same.putS rfl ?_|refine Same.ovN' rfl ?_|exact Same.refl _ _|exact Same.putN ?_)), d.length - (i + 1), by omega, i + 1, v7, congrArg (Value.int .i64) (by omega), rfl, rfl, by omega, hE7, ?_⟩
            rw [hxi] at hO7; rw [hnew, List.map_append]; exact hO7
          · have hq : ¬ xl[xi] = (bx : Int) := by assumption
            rw [if_neg hq, List.append_nil] at hnew
            exact ⟨rfl, by (repeat' (first|assumption|exact Same.ovN|refine Same.upd rfl ?_|refine Same.putS rfl ?_|refine Same.ovN' rfl ?_|exact Same.refl _ _|exact Same.putN ?_)), d.length - (i + 1), by omega, i + 1, nv, congrArg (Value.int .i64) (by omega), rfl, rfl, by omega, hE5, by rw [hnew]; exact hO5⟩
        · have hie : i = d.length := by omega
          subst hie
          rw [← hL, List.take_length] at hO4
          have hE6 : Ext V W4 := hE4
          repeat' (first |((first|apply jI|apply jJ|apply jK rfl|apply jL rfl); first|exact eI rfl|exact eB rfl|exact eP rfl|exact eS rfl|exact eT rfl|exact eA rfl|exact eU rfl|exact eF rfl|exact eM rfl|exact eN rfl|exact rfl)|(refine jM ?_; first|refine jN rfl rfl rfl ?_|refine jO rfl rfl rfl rfl ?_|refine jP rfl rfl rfl ?_|refine jQ rfl rfl ?_|refine jR (by assumption) rfl rfl ?_)|(refine jS ?_; first|refine jT rfl rfl rfl ?_|refine jU rfl rfl rfl rfl ?_|refine jV rfl rfl ?_)|(refine jW ?_; first|refine jX rfl rfl ?_|refine jY rfl rfl (by omega) ?_|refine jZ rfl rfl (by omega) ?_|refine ja rfl rfl ?_|refine jb rfl rfl ?_|refine jc rfl rfl ?_|refine jd rfl rfl ?_|refine je rfl rfl ?_|refine jf rfl rfl ?_)|(refine jg ?_; first|refine jh rfl ?_|refine ji rfl ?_|refine jj rfl rfl ?_|refine jk rfl rfl ?_|refine jl rfl ?_)|(refine jm ?_; refine jn rfl ?_)|(refine jo ?_; first|refine jp rfl ?_|refine jq rfl ?_|refine jr rfl ?_|refine js rfl ?_) |(refine jE ?_; first|(refine jF rfl rfl rfl (map_get (by omega)) ?_; intro _ _ _)|refine jG rfl rfl rfl (by omega) ?_)|refine jt rfl rfl rfl (by omega) ?_|refine ju rfl rfl ?_|refine jv ?_|refine jw rfl ?_ |refine jz ?_|(refine jjA ?_; first|refine jjB ?_|refine jjC ?_|refine jjD ?_|refine jjE ?_|refine jjF ?_|refine jjG ?_|refine jjH ?_|refine jjI ?_|refine jjJ rfl ?_|refine jjK rfl ?_) |refine jA rfl ⟨⟨_, rfl⟩, ?_⟩|refine jB rfl rfl ⟨inferInstance, ?_⟩|refine jC rfl rfl rfl ⟨inferInstance, ?_⟩|refine jD rfl rfl rfl rfl ⟨inferInstance, ?_⟩|refine jA rfl ⟨inferInstance, ?_⟩)
          refine ⟨rfl, by (repeat' (first|assumption|exact Same.ovN|refine Same.upd rfl ?_|refine Same.putS rfl ?_|refine Same.ovN' rfl ?_|exact Same.refl _ _|exact Same.putN ?_)), bn - (bx + 1), by omega, hE6, bx + 1, nv, congrArg (Value.int .i64) (by omega), rfl, rfl, by omega, ?_⟩
          rw [bktF_succ]; exact hO4
      · have hbe : bx = bn := by omega
        subst hbe
        rw [bktF_ssort hkb, ← hsn] at hO3
        have hE3 : Ext w4 W3 := hSV.ext.trans hS3.ext
        have zw := hS4.size
        repeat' (first |((first|apply jI|apply jJ|apply jK rfl|apply jL rfl); first|exact eI rfl|exact eB rfl|exact eP rfl|exact eS rfl|exact eT rfl|exact eA rfl|exact eU rfl|exact eF rfl|exact eM rfl|exact eN rfl|exact rfl)|(refine jM ?_; first|refine jN rfl rfl rfl ?_|refine jO rfl rfl rfl rfl ?_|refine jP rfl rfl rfl ?_|refine jQ rfl rfl ?_|refine jR (by assumption) rfl rfl ?_)|(refine jS ?_; first|refine jT rfl rfl rfl ?_|refine jU rfl rfl rfl rfl ?_|refine jV rfl rfl ?_)|(refine jW ?_; first|refine jX rfl rfl ?_|refine jY rfl rfl (by omega) ?_|refine jZ rfl rfl (by omega) ?_|refine ja rfl rfl ?_|refine jb rfl rfl ?_|refine jc rfl rfl ?_|refine jd rfl rfl ?_|refine je rfl rfl ?_|refine jf rfl rfl ?_)|(refine jg ?_; first|refine jh rfl ?_|refine ji rfl ?_|refine jj rfl rfl ?_|refine jk rfl rfl ?_|refine jl rfl ?_)|(refine jm ?_; refine jn rfl ?_)|(refine jo ?_; first|refine jp rfl ?_|refine jq rfl ?_|refine jr rfl ?_|refine js rfl ?_) |(refine jE ?_; first|(refine jF rfl rfl rfl (map_get (by omega)) ?_; intro _ _ _)|refine jG rfl rfl rfl (by omega) ?_)|refine jt rfl rfl rfl (by omega) ?_|refine ju rfl rfl ?_|refine jv ?_|refine jw rfl ?_ |refine jz ?_|(refine jjA ?_; first|refine jjB ?_|refine jjC ?_|refine jjD ?_|refine jjE ?_|refine jjF ?_|refine jjG ?_|refine jjH ?_|refine jjI ?_|refine jjJ rfl ?_|refine jjK rfl ?_) |refine jA rfl ⟨⟨_, rfl⟩, ?_⟩|refine jB rfl rfl ⟨inferInstance, ?_⟩|refine jC rfl rfl rfl ⟨inferInstance, ?_⟩|refine jD rfl rfl rfl rfl ⟨inferInstance, ?_⟩|refine jA rfl ⟨inferInstance, ?_⟩)
        exact ⟨rfl, by (repeat' (first|assumption|exact Same.ovN|refine Same.upd rfl ?_|refine Same.putS rfl ?_|refine Same.ovN' rfl ?_|exact Same.refl _ _|exact Same.putN ?_)), rs.length - (k + 1), by omega, hE3, k + 1, nv, congrArg (Value.int .i64) (by omega), rfl, rfl, by omega, hO3.mono (Nat.le_trans zw zV)⟩
    · have hke : k = rs.length := by omega
      subst hke
      rw [List.take_length] at hOV
      repeat' (first |((first|apply jI|apply jJ|apply jK rfl|apply jL rfl); first|exact eI rfl|exact eB rfl|exact eP rfl|exact eS rfl|exact eT rfl|exact eA rfl|exact eU rfl|exact eF rfl|exact eM rfl|exact eN rfl|exact rfl)|(refine jM ?_; first|refine jN rfl rfl rfl ?_|refine jO rfl rfl rfl rfl ?_|refine jP rfl rfl rfl ?_|refine jQ rfl rfl ?_|refine jR (by assumption) rfl rfl ?_)|(refine jS ?_; first|refine jT rfl rfl rfl ?_|refine jU rfl rfl rfl rfl ?_|refine jV rfl rfl ?_)|(refine jW ?_; first|refine jX rfl rfl ?_|refine jY rfl rfl (by omega) ?_|refine jZ rfl rfl (by omega) ?_|refine ja rfl rfl ?_|refine jb rfl rfl ?_|refine jc rfl rfl ?_|refine jd rfl rfl ?_|refine je rfl rfl ?_|refine jf rfl rfl ?_)|(refine jg ?_; first|refine jh rfl ?_|refine ji rfl ?_|refine jj rfl rfl ?_|refine jk rfl rfl ?_|refine jl rfl ?_)|(refine jm ?_; refine jn rfl ?_)|(refine jo ?_; first|refine jp rfl ?_|refine jq rfl ?_|refine jr rfl ?_|refine js rfl ?_) |(refine jE ?_; first|(refine jF rfl rfl rfl (map_get (by omega)) ?_; intro _ _ _)|refine jG rfl rfl rfl (by omega) ?_)|refine jt rfl rfl rfl (by omega) ?_|refine ju rfl rfl ?_|refine jv ?_|refine jw rfl ?_ |refine jz ?_|(refine jjA ?_; first|refine jjB ?_|refine jjC ?_|refine jjD ?_|refine jjE ?_|refine jjF ?_|refine jjG ?_|refine jjH ?_|refine jjI ?_|refine jjJ rfl ?_|refine jjK rfl ?_) |refine jA rfl ⟨⟨_, rfl⟩, ?_⟩|refine jB rfl rfl ⟨inferInstance, ?_⟩|refine jC rfl rfl rfl ⟨inferInstance, ?_⟩|refine jD rfl rfl rfl rfl ⟨inferInstance, ?_⟩|refine jA rfl ⟨inferInstance, ?_⟩)
      exact .inr (.inr ⟨he, hpb, av, cv, rfl, hOV.mono z2⟩)
end
end Go.Proofs.Ytcelhpbcdpefnaa
