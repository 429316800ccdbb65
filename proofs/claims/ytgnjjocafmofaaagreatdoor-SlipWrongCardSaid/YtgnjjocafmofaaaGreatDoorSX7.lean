/- Texts of the proof, part 7: LawWr. -/
import Derived.Test.YtgnjjocafmofaaaGreatDoorSX6
/- The law: what is wrong with a slip is the first thing in which it differs from the one of its place. -/
namespace Go.Proofs.YtgnjjocafmofaaaGreatDoor
open Go.RowKit

section
variable (a : Option Addr) (c : Nat) (cs : List Ch) (wd side : Int) (s : Slp) (w : World) [hrow : RowI w (.slice a cs.length c) true 2 (cs.map encCh)] [hT : TextI w cs] [hgs : At w 1 0 sidesC] [hgk : At w 0 0 kindsC] [hmx : MxI w]
set_option maxHeartbeats 16000000 in
theorem SlipWrong_law (hd : 0 ≤ side ∧ side ≤ 255) : Ct Tryz.prog 6 [.agg #[.slice a cs.length c], encCut wd side, encSl s] w fun v _ => v = .bool true := by
  refine Ct.ofW (by simp) ?_
  (refine jjB ?_; refine jjC ?_)
  (refine jy rfl ?_; intro b3 w_b3 hb_b3 hs_b3 hS_b3 hk_b3; have hA_b3 := At.ofBlock hk_b3)
  skip
  (refine jy rfl ?_; intro b4 w_b4 hb_b4 hs_b4 hS_b4 hk_b4; have hA_b4 := At.ofBlock hk_b4)
  skip
  (refine jy rfl ?_; intro b5 w_b5 hb_b5 hs_b5 hS_b5 hk_b5; have hA_b5 := At.ofBlock hk_b5)
  have hx5 : At w_b5 b5 0 [.int .i64 s.1.1, .int .i64 s.1.2.1, .int .i64 s.1.2.2, .string s.2.1, .string s.2.2.1, .string s.2.2.2] := hA_b5
  (apply jJ; exact eB rfl; refine jz ?_; refine jjB ?_; refine jjC ?_)
  refine jjQ (alive_law3 _) rfl rfl ?_
  rintro _ w6 hS6 rfl
  obtain ⟨R, hR⟩ : ∃ R, readyB (txF cs) wd side = R := ⟨_, rfl⟩
  (apply jJ; exact eB rfl; refine jz ?_; refine jjB ?_; refine jjB ?_; refine jjC ?_; refine jO rfl rfl rfl rfl ?_; refine jO rfl rfl rfl rfl ?_)
  refine jjQ ((ready_law3 a c cs wd side _ hd).mono fun v _ _ h => h.trans (by rw [hR])) rfl rfl ?_
  rintro _ w7 hS7 rfl
  cases R with
  | false =>
    (refine jq rfl ?_; apply jI; exact eB rfl; refine jU rfl rfl rfl rfl ?_; refine jU rfl rfl rfl rfl ?_; apply jK rfl; exact eB rfl; apply jI; exact eB rfl; refine jU rfl rfl rfl rfl ?_; refine jU rfl rfl rfl rfl ?_; refine jU rfl rfl rfl rfl ?_; apply jK rfl; exact eB rfl; apply jI; exact eB rfl; refine jU rfl rfl rfl rfl ?_; refine jU rfl rfl rfl rfl ?_; apply jK rfl; exact eB rfl; refine jz ?_; refine jjJ rfl ?_; refine jjB ?_; refine jjC ?_; apply jI; exact eB rfl; apply jJ; exact eB rfl; refine jz ?_; refine jjF ?_; refine jB rfl rfl ⟨inferInstance, ?_⟩)
    exact rfl
  | true =>
  obtain ⟨hG, ht, hc⟩ := readyB_yes hR
  have hs := small_of_great hG
  obtain ⟨G2, hG2⟩ : ∃ G, greatSl s = G := ⟨_, rfl⟩
  (refine jp rfl ?_; apply jI; exact eB rfl; refine jT rfl rfl rfl ?_; refine jO rfl rfl rfl rfl ?_; refine jT rfl rfl rfl ?_)
  refine jjQ ((GreatSl_ref3 s _).mono fun v _ _ h => h.trans (by rw [hG2])) rfl rfl ?_
  rintro _ w8 hS8 rfl
  cases G2 with
  | true =>
    (apply jL rfl; exact eB rfl; apply jI; exact eB rfl; refine jU rfl rfl rfl rfl ?_; refine jU rfl rfl rfl rfl ?_; refine jU rfl rfl rfl rfl ?_; apply jK rfl; exact eB rfl; apply jI; exact eB rfl; refine jU rfl rfl rfl rfl ?_; refine jU rfl rfl rfl rfl ?_; apply jK rfl; exact eB rfl; refine jz ?_; refine jjJ rfl ?_; refine jjB ?_; refine jjC ?_; apply jI; exact eB rfl; apply jJ; exact eB rfl; refine jz ?_; refine jjF ?_; refine jB rfl rfl ⟨inferInstance, ?_⟩)
    exact rfl
  | false =>
  have hss := small_of_greatSl hG2
  obtain ⟨B, hB⟩ : ∃ B, slipB s = B := ⟨_, rfl⟩
  (apply jL rfl; exact eB rfl; apply jI; exact eB rfl; refine jT rfl rfl rfl ?_; refine jO rfl rfl rfl rfl ?_; refine jT rfl rfl rfl ?_)
  refine jjQ ((Slip_ref3 s _ hss).mono fun v _ _ h => h.trans (by rw [hB])) rfl rfl ?_
  rintro _ w9 hS9 rfl
  cases B with
  | false =>
    (refine jT rfl rfl rfl ?_; refine jq rfl ?_; apply jL rfl; exact eB rfl; apply jI; exact eB rfl; refine jU rfl rfl rfl rfl ?_; refine jU rfl rfl rfl rfl ?_; apply jK rfl; exact eB rfl; refine jz ?_; refine jjJ rfl ?_; refine jjB ?_; refine jjC ?_; apply jI; exact eB rfl; apply jJ; exact eB rfl; refine jz ?_; refine jjF ?_; refine jB rfl rfl ⟨inferInstance, ?_⟩)
    exact rfl
  | true =>
  have ha : askE (txF cs) wd side = 0 := askE_yes ht hc
  obtain ⟨fo, hfo⟩ : ∃ fo, makeF (txF cs) side wd s.1 = fo := ⟨_, rfl⟩
  cases fo with
  | none =>
    have e3 : placeC cs s.1 = false := (placeC_B cs s.1).trans (makeF_no_place hfo)
    (refine jT rfl rfl rfl ?_; refine jp rfl ?_; apply jL rfl; exact eB rfl; apply jI; exact eB rfl; refine jT rfl rfl rfl ?_; apply jI; exact eB rfl; refine jT rfl rfl rfl ?_; refine jp rfl ?_; apply jL rfl; exact eB rfl; refine jz ?_; refine jjK rfl ?_; refine jjG ?_; refine jjB ?_; refine jjC ?_; refine jO rfl rfl rfl rfl ?_; refine jO rfl rfl rfl rfl ?_; refine jO rfl rfl rfl rfl ?_)
    refine jjQ ((Wrong_slip a c cs wd side _ s hs hd hss).mono fun v _ _ h => h.trans (by rw [wrongR_none ha hB hfo])) rfl rfl ?_
    rintro _ w10 hS10 rfl
    (apply jI; exact eU rfl; refine ju rfl rfl ?_; refine ju rfl rfl ?_; apply jJ; exact eI rfl; apply jJ; exact eI rfl; refine jz ?_; refine jjB ?_; refine jjC ?_; refine jO rfl rfl rfl rfl ?_; refine jO rfl rfl rfl rfl ?_; refine jm ?_; refine jn rfl ?_; refine jO rfl rfl rfl rfl ?_)
    refine jjQ ((Make_slip a c cs wd side _ s.1 hs hd).mono fun v _ _ h => h.trans (by rw [makeR_none ha hfo])) rfl rfl ?_
    rintro _ w11 hS11 rfl
    (apply jI; exact eU rfl; refine ju rfl rfl ?_; refine ju rfl rfl ?_)
    (apply jjR rfl; (intro _; first|exact eI rfl|exact eB rfl|exact eP rfl|exact eS rfl|exact eT rfl|exact eA rfl|exact eU rfl|exact eF rfl|exact eM rfl|exact eN rfl|exact rfl); exact rfl; exact rfl; exact rfl; exact rfl; intro b10 w_b10 hb_b10 hs_b10 hS_b10 hk_b10; have hA_b10 := Bk.of hk_b10)
    (apply jJ; exact eI rfl; refine jz ?_; refine jjB ?_; refine jjC ?_; refine jO rfl rfl rfl rfl ?_; refine jO rfl rfl rfl rfl ?_)
    refine jjQ ((Where_slip a c cs _ s hs hss).mono fun v _ _ h => by rw [whereR_yes ht hB] at h; exact h) rfl rfl ?_
    rintro _ w12 hS12 ⟨sv, rfl, hO⟩
    (apply jI; exact eU rfl; refine ju rfl rfl ?_; refine ju rfl rfl ?_; apply jJ; exact rfl; apply jJ; exact eI rfl; refine jz ?_; refine jjB ?_; refine jjB ?_; refine jjC ?_; apply jI; exact eI rfl; refine jjk rfl rfl (by omega) ?_; apply jI; exact eB rfl; refine jT rfl rfl rfl ?_; apply jI; exact eI rfl; refine jT rfl rfl rfl ?_; refine jjk rfl rfl (by omega) ?_; apply jL rfl; exact eB rfl; apply jI; exact eB rfl; refine jT rfl rfl rfl ?_; apply jI; exact eI rfl; refine jT rfl rfl rfl ?_; refine jji rfl rfl (by omega) ?_; refine jT rfl rfl rfl ?_; refine jO rfl rfl rfl rfl ?_; refine jT rfl rfl rfl ?_; refine jm ?_; refine jn rfl ?_; refine jT rfl rfl rfl ?_; refine jO rfl rfl rfl rfl ?_; refine jT rfl rfl rfl ?_)
    refine jjQ ((Place_ref1 a c cs _ s.1 hs).mono fun v _ _ h => h.trans (by rw [e3])) rfl rfl ?_
    rintro _ w13 hS13 rfl
    (refine jT rfl rfl rfl ?_; refine Ops.neqBB rfl rfl ?_; apply jL rfl; exact eB rfl; refine jz ?_; refine jjK rfl ?_; refine jjG ?_; refine jjB ?_; refine jjB ?_; refine jjC ?_; apply jI; exact eI rfl; refine jjj rfl rfl (by omega) ?_; refine jz ?_; refine jjJ rfl ?_; refine jjB ?_; refine jjC ?_; apply jI; exact eB rfl; apply jI; exact eB rfl; refine jT rfl rfl rfl ?_; apply jI; exact eI rfl; refine jT rfl rfl rfl ?_; refine jjh rfl rfl (by omega) ?_; apply jK rfl; exact eB rfl; apply jI; exact eB rfl; refine jT rfl rfl rfl ?_; apply jI; exact eI rfl; refine jT rfl rfl rfl ?_; refine jjh rfl rfl (by omega) ?_; apply jK rfl; exact eB rfl; apply jJ; exact eB rfl; refine jz ?_; refine jjF ?_; refine jB rfl rfl ⟨inferInstance, ?_⟩)
    exact  rfl
  | some x =>
  have e3 : placeC cs s.1 = true := (placeC_B cs s.1).trans (makeF_place hfo)
  have hat := makeF_at hfo
  have hself := where_self ht hc hfo
  have hword := where_make hfo
  obtain ⟨wn, hW⟩ : ∃ wn, (wrongR (txF cs) wd side s).1 = wn := ⟨_, rfl⟩
  have hW2 : wrongR (txF cs) wd side s = (wn, 0) := by
    rw [← hW, wrongR_some ha hB hfo]; repeat' split
    all_goals rfl
  (refine jT rfl rfl rfl ?_; refine jp rfl ?_; apply jL rfl; exact eB rfl; apply jI; exact eB rfl; refine jT rfl rfl rfl ?_; apply jI; exact eB rfl; refine jT rfl rfl rfl ?_; refine jp rfl ?_; apply jL rfl; exact eB rfl; refine jz ?_; refine jjK rfl ?_; refine jjG ?_; refine jjB ?_; refine jjC ?_; refine jO rfl rfl rfl rfl ?_; refine jO rfl rfl rfl rfl ?_; refine jO rfl rfl rfl rfl ?_)
  refine jjQ ((Wrong_slip a c cs wd side _ s hs hd hss).mono fun v _ _ h => h.trans (by rw [hW2])) rfl rfl ?_
  rintro _ w10 hS10 rfl
  (apply jI; exact eU rfl; refine ju rfl rfl ?_; refine ju rfl rfl ?_; apply jJ; exact eI rfl; apply jJ; exact eI rfl; refine jz ?_; refine jjB ?_; refine jjC ?_; refine jO rfl rfl rfl rfl ?_; refine jO rfl rfl rfl rfl ?_; refine jm ?_; refine jn rfl ?_; refine jO rfl rfl rfl rfl ?_)
  refine jjQ ((Make_slip a c cs wd side _ s.1 hs hd).mono fun v _ _ h => h.trans (by rw [makeR_some ha hfo])) rfl rfl ?_
  rintro _ w11 hS11 rfl
  (apply jI; exact eU rfl; refine ju rfl rfl ?_; refine ju rfl rfl ?_)
  (apply jjR rfl; (intro _; first|exact eI rfl|exact eB rfl|exact eP rfl|exact eS rfl|exact eT rfl|exact eA rfl|exact eU rfl|exact eF rfl|exact eM rfl|exact eN rfl|exact rfl); exact rfl; exact rfl; exact rfl; exact rfl; intro b10 w_b10 hb_b10 hs_b10 hS_b10 hk_b10; have hA_b10 := Bk.of hk_b10)
  have hx10 : At w_b10 b10 0 [.int .i64 x.1.1, .int .i64 x.1.2.1, .int .i64 x.1.2.2, .string x.2.1, .string x.2.2.1, .string x.2.2.2] := Bk.toAt (h := hA_b10)
  (apply jJ; exact eI rfl; refine jz ?_; refine jjB ?_; refine jjC ?_; refine jO rfl rfl rfl rfl ?_; refine jO rfl rfl rfl rfl ?_)
  refine jjQ ((Where_slip a c cs _ s hs hss).mono fun v _ _ h => by rw [whereR_yes ht hB] at h; exact h) rfl rfl ?_
  rintro _ w12 hS12 ⟨sv, rfl, hO⟩
  (apply jI; exact eU rfl; refine ju rfl rfl ?_; refine ju rfl rfl ?_; apply jJ; exact rfl; apply jJ; exact eI rfl; refine jz ?_; refine jjB ?_; refine jjB ?_; refine jjC ?_; apply jI; exact eI rfl; refine jjk rfl rfl (by omega) ?_; apply jI; exact eB rfl; refine jT rfl rfl rfl ?_; apply jI; exact eI rfl; refine jT rfl rfl rfl ?_; refine jjk rfl rfl (by omega) ?_; apply jL rfl; exact eB rfl; apply jI; exact eB rfl; refine jT rfl rfl rfl ?_; apply jI; exact eI rfl; refine jT rfl rfl rfl ?_; refine jjh rfl rfl (by omega) ?_; refine jT rfl rfl rfl ?_; refine jO rfl rfl rfl rfl ?_; refine jT rfl rfl rfl ?_; refine jm ?_; refine jn rfl ?_; refine jT rfl rfl rfl ?_; refine jO rfl rfl rfl rfl ?_; refine jT rfl rfl rfl ?_)
  refine jjQ ((Place_ref1 a c cs _ s.1 hs).mono fun v _ _ h => h.trans (by rw [e3])) rfl rfl ?_
  rintro _ w13 hS13 rfl
  (refine jT rfl rfl rfl ?_; refine Ops.neqBB rfl rfl ?_; apply jL rfl; exact eB rfl; refine jz ?_; refine jjK rfl ?_; refine jjG ?_; refine jjB ?_; refine jjB ?_; refine jjC ?_; apply jI; exact eI rfl; refine jjk rfl rfl (by omega) ?_; refine jz ?_; refine jjK rfl ?_; refine jjG ?_; refine jjB ?_; refine jjC ?_; apply jJ; exact eB rfl; refine jz ?_; refine jjB ?_; refine jjB ?_; refine jjC ?_; apply jI; exact rfl)
  obtain ⟨ls, hls⟩ : ∃ ls, whereF (txF cs) s = ls := ⟨_, rfl⟩
  have hwf : (wn = 0 ∧ x = s ∧ s.1 ∈ ls) ∨ (wn = 2 ∧ x.2.1 ≠ s.2.1 ∧ ¬ s.1 ∈ ls) ∨ (wn = 3 ∧ x.2.1 = s.2.1 ∧ x.2.2.1 ≠ s.2.2.1) ∨ (wn = 4 ∧ x.2.1 = s.2.1 ∧ x.2.2.1 = s.2.2.1 ∧ x.2.2.2 ≠ s.2.2.2) := by
    have h := wrongR_some ha hB hfo
    rw [hW2] at h
    by_cases q1 : x.2.1 = s.2.1
    · rw [if_neg (by simp [q1])] at h
      by_cases q2 : x.2.2.1 = s.2.2.1
      · rw [if_neg (by simp [q2])] at h
        by_cases q3 : x.2.2.2 = s.2.2.2
        · rw [if_neg (by simp [q3])] at h
          have e : x = s := by
            refine Prod.ext hat (Prod.ext q1 (Prod.ext q2 q3))
          rw [e, hls] at hself
          exact .inl ⟨congrArg Prod.fst h, e, hself⟩
        · rw [if_pos q3] at h
          exact .inr (.inr (.inr ⟨congrArg Prod.fst h, q1, q2, q3⟩))
      · rw [if_pos q2] at h
        exact .inr (.inr (.inl ⟨congrArg Prod.fst h, q1, q2⟩))
    · rw [if_pos q1] at h
      exact .inr (.inl ⟨congrArg Prod.fst h, q1, fun hm => q1 (hword (by rw [hls]; exact hm))⟩)
  rw [hls] at hO
  clear hself hword
  obtain ⟨ma, mc, rfl⟩ := hO.slice
  rw [List.length_map] at hO ⊢
  have i2 : RowI w13 (.slice ma ls.length mc) true 3 (ls.map encPl) := RowI.mk (hO.row.ext hS13.ext)
  have hx5' : At w13 b5 0 [.int .i64 s.1.1, .int .i64 s.1.2.1, .int .i64 s.1.2.2, .string s.2.1, .string s.2.2.1, .string s.2.2.2] := inferInstance
  have hx10' : At w13 b10 0 [.int .i64 x.1.1, .int .i64 x.1.2.1, .int .i64 x.1.2.2, .string x.2.1, .string x.2.2.1, .string x.2.2.2] := inferInstance
  (refine jh rfl ?_; apply jI; exact eI rfl; refine jz ?_; refine jjD ?_)
  refine W.keep0 [(5, .pointer (some ⟨b5, 0, none⟩)), (7, .bool true), (8, .int .u8 wn), (10, .pointer (some ⟨b10, 0, none⟩)), (83, .slice ma ls.length mc), (84, .int .i64 (ls.length : Int)), (85, .int .i64 ((0 : Nat) : Int)), (14, .bool false)] ⟨eP rfl, eB rfl, eI rfl, eP rfl, eS rfl, eI rfl, eI rfl, eB rfl, trivial⟩ fun s0 => ?_
  have hlen : ls.length ≤ 140737488355328 := by have := hO.len; rwa [List.length_map] at this
  refine W.loop (86 :: 87 :: 88 :: 16 :: 89 :: 90 :: 91 :: 92 :: 93 :: 94 :: 95 :: 14 :: 96 :: 85 :: []) (fun g s' V => ∃ k : Nat, s' 85 = .int .i64 ((k : Nat) : Int) ∧ g = ls.length - k ∧ k ≤ ls.length ∧ s' 14 = .bool (decide (s.1 ∈ ls.take k))) ls.length ⟨0, rfl, rfl, Nat.zero_le _, rfl⟩ ?_
  rintro _ sd V hS ⟨k, h85, rfl, hk, h14⟩
  by_cases hk3 : k < ls.length
  · have hnx : (s.1 ∈ ls.take (k + 1)) = (s.1 ∈ ls.take k ∨ ls[k] = s.1) := by
      rw [List.take_add_one, List.getElem?_eq_getElem hk3]
      simp only [List.mem_append, Option.toList_some, List.mem_singleton]
      rw [eq_comm (a := s.1) (b := ls[k])]
    obtain ⟨u, hu⟩ : ∃ u, ls[k] = u := ⟨_, rfl⟩
    obtain ⟨D, hD⟩ : ∃ D, decide (s.1 ∈ ls.take k) = D := ⟨_, rfl⟩
    rw [hD] at h14
    refine W.fix (d := 14) h14 (W.fix (d := 85) h85 ?_)
    clear h85 h14
    (refine jjB ?_; refine jjC ?_; refine jjZ rfl rfl (by omega) ?_; refine jz ?_; refine jjB ?_; refine jjJ rfl ?_; refine jjG ?_; refine jjB ?_; refine jjD ?_; refine jjB ?_; refine jjC ?_; refine jF rfl rfl rfl (map_get (by omega)) ?_; intro _ _ _; refine jQ rfl rfl ?_)
    (apply jjR rfl; (intro _; first|exact eI rfl|exact eB rfl|exact eP rfl|exact eS rfl|exact eT rfl|exact eA rfl|exact eU rfl|exact eF rfl|exact eM rfl|exact eN rfl|exact rfl); exact rfl; exact rfl; exact rfl; exact rfl; intro b16 w_b16 hb_b16 hs_b16 hS_b16 hk_b16; have hA_b16 := Bk.of hk_b16)
    rw [hu] at hA_b16
    have hx16 : At w_b16 b16 0 [.int .i64 u.1, .int .i64 u.2.1, .int .i64 u.2.2] := Bk.toAt (h := hA_b16)
    cases D with
    | true =>
      (refine jz ?_; refine jjC ?_; apply jI; exact eB rfl; apply jI; exact eB rfl; refine jU rfl rfl rfl rfl ?_; refine jU rfl rfl rfl rfl ?_; refine jU rfl rfl rfl rfl ?_; refine jU rfl rfl rfl rfl ?_; apply jK rfl; exact eB rfl; apply jJ; exact eB rfl; refine jz ?_; refine jjC ?_; refine jY rfl rfl (by omega) ?_; apply jI; exact eI rfl; refine jz ?_)
      refine ⟨rfl, by ((refine Same.upd rfl ?_; refine Same.upd rfl ?_; refine Same.upd rfl ?_; refine Same.upd rfl ?_; refine Same.upd rfl ?_; refine Same.upd rfl ?_; refine Same.upd rfl ?_; refine Same.upd rfl ?_; refine Same.upd rfl ?_; refine Same.upd rfl ?_; refine Same.upd rfl ?_; refine Same.upd rfl ?_; refine Same.upd rfl ?_; refine Same.upd rfl ?_; refine Same.upd rfl ?_; refine Same.upd rfl ?_; exact Same.ovN)), ls.length - (k + 1), by omega, inferInstance, k + 1, congrArg (Value.int .i64) (by omega), rfl, by omega, ?_⟩
      rw [show decide (s.1 ∈ ls.take (k + 1)) = true from decide_eq_true (hnx ▸ .inl (of_decide_eq_true hD))]
      rfl
    | false =>
      (refine jz ?_; refine jjC ?_; apply jI; exact eB rfl; apply jI; exact eB rfl; refine jT rfl rfl rfl ?_; refine jO rfl rfl rfl rfl ?_; refine jT rfl rfl rfl ?_; refine jm ?_; refine jn rfl ?_; refine jT rfl rfl rfl ?_; refine jO rfl rfl rfl rfl ?_; refine jT rfl rfl rfl ?_)
      refine Ops.eqlT (enc := encPl) u s.1 rfl rfl ?_
      (apply jL rfl; exact eB rfl; apply jJ; exact eB rfl; refine jz ?_; refine jjC ?_; refine jY rfl rfl (by omega) ?_; apply jI; exact eI rfl; refine jz ?_)
      refine ⟨rfl, by ((refine Same.upd rfl ?_; refine Same.upd rfl ?_; refine Same.upd rfl ?_; refine Same.upd rfl ?_; refine Same.upd rfl ?_; refine Same.upd rfl ?_; refine Same.upd rfl ?_; refine Same.upd rfl ?_; refine Same.upd rfl ?_; refine Same.upd rfl ?_; refine Same.upd rfl ?_; refine Same.upd rfl ?_; refine Same.upd rfl ?_; refine Same.upd rfl ?_; refine Same.upd rfl ?_; refine Same.upd rfl ?_; exact Same.ovN)), ls.length - (k + 1), by omega, inferInstance, k + 1, congrArg (Value.int .i64) (by omega), rfl, by omega, ?_⟩
      rw [show decide (s.1 ∈ ls.take (k + 1)) = decide (u = s.1) from decide_eq_decide.2 (by rw [hnx, hu]; exact or_iff_right (of_decide_eq_false hD))]
      rfl
  obtain rfl : k = ls.length := by omega
  rw [List.take_length] at h14
  refine W.fix (d := 14) h14 (W.fix (d := 85) h85 ?_)
  clear h85 h14
  rcases hwf with ⟨rfl, rfl, q⟩ | ⟨rfl, q1, q⟩ | ⟨rfl, q1, q2⟩ | ⟨rfl, q1, q2, q3⟩
  · rw [decide_eq_true q]
    (refine jjB ?_; refine jjC ?_; refine jja rfl rfl (by omega) ?_; refine jz ?_; refine jjB ?_; refine jjK rfl ?_; refine jjE ?_; refine jjB ?_; refine jjB ?_; refine jjC ?_; apply jI; exact eI rfl; refine jz ?_; refine jjD ?_; refine jjB ?_; refine jjC ?_; refine jjh rfl rfl (by omega) ?_; apply jJ; exact eB rfl; refine jz ?_; refine jjJ rfl ?_; refine jjB ?_; refine jjC ?_; apply jI; exact eB rfl; apply jI; exact eB rfl; refine jT rfl rfl rfl ?_; refine jO rfl rfl rfl rfl ?_; refine jT rfl rfl rfl ?_; refine jO rfl rfl rfl rfl ?_; refine jT rfl rfl rfl ?_)
    refine Ops.eqlT (enc := encSl) x x rfl rfl ?_
    rw [decide_eq_true rfl]
    (apply jK rfl; exact eB rfl; apply jI; exact eB rfl; refine jT rfl rfl rfl ?_; apply jI; exact eB rfl; apply jK rfl; exact eB rfl; apply jJ; exact eB rfl; refine jz ?_; refine jjF ?_; refine jB rfl rfl ⟨inferInstance, ?_⟩)
    exact rfl
  · rw [decide_eq_false q]
    (refine jjB ?_; refine jjC ?_; refine jja rfl rfl (by omega) ?_; refine jz ?_; refine jjB ?_; refine jjK rfl ?_; refine jjE ?_; refine jjB ?_; refine jjB ?_; refine jjC ?_; apply jI; exact eI rfl; refine jz ?_; refine jjD ?_; refine jjB ?_; refine jjC ?_; refine jji rfl rfl (by omega) ?_; apply jJ; exact eB rfl; refine jz ?_; refine jjK rfl ?_; refine jjB ?_; refine jjC ?_; refine jjh rfl rfl (by omega) ?_; apply jJ; exact eB rfl; refine jz ?_; refine jjJ rfl ?_; refine jjB ?_; refine jjC ?_; apply jI; exact eB rfl; apply jI; exact eB rfl; refine jT rfl rfl rfl ?_; refine jm ?_; refine jn rfl ?_; refine jT rfl rfl rfl ?_; refine jN rfl rfl rfl ?_; refine jT rfl rfl rfl ?_; refine jm ?_; refine jn rfl ?_; refine jT rfl rfl rfl ?_; refine jN rfl rfl rfl ?_; refine jT rfl rfl rfl ?_)
    refine Ops.neqS rfl rfl ?_
    rw [decide_eq_true (p := ¬ x.2.1 = s.2.1) q1]
    (apply jK rfl; exact eB rfl; apply jI; exact eB rfl; refine jT rfl rfl rfl ?_; apply jI; exact eB rfl; refine jT rfl rfl rfl ?_; refine jq rfl ?_; apply jK rfl; exact eB rfl; apply jJ; exact eB rfl; refine jz ?_; refine jjF ?_; refine jB rfl rfl ⟨inferInstance, ?_⟩)
    exact rfl
  · (refine jjB ?_; refine jjC ?_; refine jja rfl rfl (by omega) ?_; refine jz ?_; refine jjB ?_; refine jjK rfl ?_; refine jjE ?_; refine jjB ?_; refine jjB ?_; refine jjC ?_; apply jI; exact eI rfl; refine jz ?_; refine jjD ?_; refine jjB ?_; refine jjC ?_; refine jji rfl rfl (by omega) ?_; apply jJ; exact eB rfl; refine jz ?_; refine jjK rfl ?_; refine jjB ?_; refine jjC ?_; refine jji rfl rfl (by omega) ?_; apply jJ; exact eB rfl; refine jz ?_; refine jjK rfl ?_; refine jjB ?_; refine jjC ?_; refine jjh rfl rfl (by omega) ?_; apply jJ; exact eB rfl; refine jz ?_; refine jjJ rfl ?_; refine jjB ?_; refine jjC ?_; apply jI; exact eB rfl; apply jI; exact eB rfl; refine jT rfl rfl rfl ?_; refine jm ?_; refine jn rfl ?_; refine jT rfl rfl rfl ?_; refine jN rfl rfl rfl ?_; refine jT rfl rfl rfl ?_; refine jm ?_; refine jn rfl ?_; refine jT rfl rfl rfl ?_; refine jN rfl rfl rfl ?_; refine jT rfl rfl rfl ?_)
    refine Ops.eqlS rfl rfl ?_
    rw [decide_eq_true q1]
    (apply jK rfl; exact eB rfl; apply jI; exact eB rfl; refine jT rfl rfl rfl ?_; refine jm ?_; refine jn rfl ?_; refine jT rfl rfl rfl ?_; refine jN rfl rfl rfl ?_; refine jT rfl rfl rfl ?_; refine jm ?_; refine jn rfl ?_; refine jT rfl rfl rfl ?_; refine jN rfl rfl rfl ?_; refine jT rfl rfl rfl ?_)
    refine Ops.neqS rfl rfl ?_
    rw [decide_eq_true (p := ¬ x.2.2.1 = s.2.2.1) q2]
    (apply jK rfl; exact eB rfl; apply jJ; exact eB rfl; refine jz ?_; refine jjF ?_; refine jB rfl rfl ⟨inferInstance, ?_⟩)
    exact rfl
  · (refine jjB ?_; refine jjC ?_; refine jja rfl rfl (by omega) ?_; refine jz ?_; refine jjB ?_; refine jjK rfl ?_; refine jjE ?_; refine jjB ?_; refine jjB ?_; refine jjC ?_; apply jI; exact eI rfl; refine jz ?_; refine jjD ?_; refine jjB ?_; refine jjC ?_; refine jji rfl rfl (by omega) ?_; apply jJ; exact eB rfl; refine jz ?_; refine jjK rfl ?_; refine jjB ?_; refine jjC ?_; refine jji rfl rfl (by omega) ?_; apply jJ; exact eB rfl; refine jz ?_; refine jjK rfl ?_; refine jjB ?_; refine jjC ?_; refine jji rfl rfl (by omega) ?_; apply jJ; exact eB rfl; refine jz ?_; refine jjK rfl ?_; refine jjB ?_; refine jjC ?_; refine jjh rfl rfl (by omega) ?_; apply jJ; exact eB rfl; refine jz ?_; refine jjJ rfl ?_; refine jjB ?_; refine jjC ?_; apply jI; exact eB rfl; apply jI; exact eB rfl; refine jT rfl rfl rfl ?_; refine jm ?_; refine jn rfl ?_; refine jT rfl rfl rfl ?_; refine jN rfl rfl rfl ?_; refine jT rfl rfl rfl ?_; refine jm ?_; refine jn rfl ?_; refine jT rfl rfl rfl ?_; refine jN rfl rfl rfl ?_; refine jT rfl rfl rfl ?_)
    refine Ops.eqlS rfl rfl ?_
    rw [decide_eq_true q1]
    (apply jK rfl; exact eB rfl; apply jI; exact eB rfl; refine jT rfl rfl rfl ?_; refine jm ?_; refine jn rfl ?_; refine jT rfl rfl rfl ?_; refine jN rfl rfl rfl ?_; refine jT rfl rfl rfl ?_; refine jm ?_; refine jn rfl ?_; refine jT rfl rfl rfl ?_; refine jN rfl rfl rfl ?_; refine jT rfl rfl rfl ?_)
    refine Ops.eqlS rfl rfl ?_
    rw [decide_eq_true q2]
    (apply jK rfl; exact eB rfl; apply jI; exact eB rfl; refine jT rfl rfl rfl ?_; refine jm ?_; refine jn rfl ?_; refine jT rfl rfl rfl ?_; refine jN rfl rfl rfl ?_; refine jT rfl rfl rfl ?_; refine jm ?_; refine jn rfl ?_; refine jT rfl rfl rfl ?_; refine jN rfl rfl rfl ?_; refine jT rfl rfl rfl ?_)
    refine Ops.neqS rfl rfl ?_
    rw [decide_eq_true (p := ¬ x.2.2.2 = s.2.2.2) q3]
    (apply jK rfl; exact eB rfl; apply jJ; exact eB rfl; refine jz ?_; refine jjF ?_; refine jB rfl rfl ⟨inferInstance, ?_⟩)
    exact rfl
end
end Go.Proofs.YtgnjjocafmofaaaGreatDoor
