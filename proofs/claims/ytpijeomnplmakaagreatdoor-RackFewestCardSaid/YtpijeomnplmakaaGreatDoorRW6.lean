/- Texts of the proof, part 6: Gk3, Rb1, Rb3, Rb4, Rb6, Rb7, Rb8, Eng43, Eng44, Eng45, Gk4, LawRw. -/
import Derived.Test.YtpijeomnplmakaaGreatDoorRW5
/- The statements' examples: slips; what the program answers at the examples. -/
namespace Go.Proofs.YtpijeomnplmakaaGreatDoor
open Go.RowKit

theorem slips_law6 (w : World) : Ct Tryz.prog 23 [] w fun v w' => ∃ b, v = .slice (some ⟨b, 0, none⟩) 4 4 ∧ RowV w' true 6 (.slice (some ⟨b, 0, none⟩) 4 4) (exS.map encSl) := by
  refine Ct.ofW (by simp) ?_
  (refine jjB ?_; refine jjC ?_; apply jJ; exact eS rfl; refine jz ?_; refine jjB ?_; refine jjC ?_)
  (refine jjS (cells := [.int .i64 0, .int .i64 0, .int .i64 0, .string xSea, .string ⟨#[]⟩, .string ⟨#[]⟩]) ?_ ?_; exact rfl)
  (refine jjS (cells := [.int .i64 0, .int .i64 0, .int .i64 0, .string xOld, .string ⟨#[]⟩, .string ⟨#[]⟩]) ?_ ?_; exact rfl)
  (refine jjS (cells := [.int .i64 0, .int .i64 0, .int .i64 0, .string xSea, .string ⟨#[]⟩, .string xIs]) ?_ ?_; exact rfl)
  (refine jjS (cells := [.int .i64 0, .int .i64 0, .int .i64 0, .string xAnd, .string ⟨#[]⟩, .string ⟨#[]⟩]) ?_ ?_; exact rfl)
  refine Ops.buildSliceF (cells := exS.flatMap fun x => (encSl x).cells.toList) rfl rfl rfl ?_
  intro b w2 hb2 hs2 hS2 hk2
  (apply jJ; exact eS rfl; refine jz ?_; refine jjF ?_; refine jB rfl rfl ⟨inferInstance, ?_⟩)
  refine ⟨b, rfl, ?_⟩
  exact Bk.rows (xs := exS.map encSl) hk2 (by simp [exS, fitsV]) (by simp [exS])
section
variable (b : Nat) (w : World) (h : RowV w false 1 (.slice (some ⟨b, 0, none⟩) 4 4) (exD.map intV))
include h
theorem exd_row : RowI w (.slice (some ⟨b, 0, none⟩) exD.length 4) false 1 (exD.map intV) := ⟨h⟩
theorem ex_runs : Ct Tryz.prog 32 [.slice (some ⟨b, 0, none⟩) 4 4] w fun v w' => ∃ a c, v = .tuple #[.slice a 4 c, .int .i64 0] ∧ RowV w' false 1 (.slice a 4 c) (([2, 0, 1, 0] : List Int).map intV) := by
  have := exd_row b w h
  refine Ct.mono (Runs_rack (some ⟨b, 0, none⟩) 4 exD w (by decide)) fun v w' _ h => ?_
  unfold RunsR at h
  rw [exD_open.1, if_pos rfl, exD_num] at h
  exact h
theorem ex_passes2 : Ct Tryz.prog 14 [.slice (some ⟨b, 0, none⟩) 4 4, .int .i64 2] w fun v w' => v = .tuple #[.int .i64 2, .int .i64 0] := by
  have := exd_row b w h
  refine Ct.mono (Passes_rack (some ⟨b, 0, none⟩) 4 exD 2 w (by decide)) fun v w' _ h => ?_
  obtain ⟨p, hp, rfl⟩ := h
  rw [exD_open.1, if_pos rfl] at hp
  rw [exD_open.1, exD_pass2 hp]; rfl
theorem ex_plan2 : Ct Tryz.prog 16 [.slice (some ⟨b, 0, none⟩) 4 4, .int .i64 2] w fun v w' => ∃ (a : Option Addr) (c : Nat) (rs : List Rw), v = .tuple #[.slice a rs.length c, .int .i64 0] ∧ rs.map (·.2.2) = [[0, 0, 1, 0], [1, 0, 0, 0]] ∧ RowV w' false 1 (.slice a rs.length c) (rs.map encW) ∧ RowsI w' rs := by
  have := exd_row b w h
  refine Ct.mono (Plan_rack (some ⟨b, 0, none⟩) 4 exD 2 w (by decide)) fun v w' _ h => ?_
  rcases h with ⟨h1, _⟩ | ⟨_, p, a, c, rs, hp, rfl, h2, h3, h4⟩
  · exact absurd exD_open.1 h1
  · obtain rfl := exD_pass2 hp
    exact ⟨a, c, rs, rfl, h2.trans exD_plan2, h3, h4⟩
theorem ex_sort (a : Option Addr) (c : Nat) (rs : List Rw) (hr : rs.map (·.2.2) = [[0, 0, 1, 0], [1, 0, 0, 0]]) [h1 : RowI w (.slice a rs.length c) false 1 (rs.map encW)] [h2 : RowsI w rs] : Ct Tryz.prog 20 [.slice (some ⟨b, 0, none⟩) 4 4, .int .i64 2, .slice a rs.length c] w fun v w' => ∃ a c, v = .tuple #[.slice a 4 c, .int .i64 0] ∧ RowV w' false 1 (.slice a 4 c) (([1, 3, 2, 0] : List Int).map intV) := by
  have := exd_row b w h
  have hl : rs.length = 2 := by have := congrArg List.length hr; simpa using this
  refine Ct.mono (Sort_rack (some ⟨b, 0, none⟩) a 4 c exD 2 rs w (by decide) (by omega)) fun v w' _ h => ?_
  have hpb : planBad exD.length 2 rs = false := by
    match rs, hr with
    | [x, y], hr =>
      simp only [List.map_cons, List.map_nil, List.cons.injEq, and_true] at hr
      obtain ⟨x1, x2, x3⟩ := x
      obtain ⟨y1, y2, y3⟩ := y
      obtain ⟨e1, e2⟩ := hr
      simp only at e1 e2
      subst e1 e2
      rfl
  rcases h with ⟨h1, _⟩ | ⟨_, h1, _⟩ | ⟨_, _, av, cv, rfl, hO⟩
  · exact absurd exD_open.1 h1
  · rw [hpb] at h1; exact absurd h1 (by decide)
  · rw [sortF_P, hr] at hO
    have := hO.row
    rw [show sortP exD.length [[0, 0, 1, 0], [1, 0, 0, 0]] = [1, 3, 2, 0] from exD_sort] at this
    exact ⟨av, cv, rfl, this⟩
theorem ex_proof2 : Ct Tryz.prog 17 [.slice (some ⟨b, 0, none⟩) 4 4, .int .i64 2] w fun v w' => ∃ a c, v = .tuple #[.slice a 2 c, .int .i64 0] ∧ RowV w' true 2 (.slice a 2 c) (([(3, 2), (2, 0)] : List (Int × Int)).map encII) := by
  have := exd_row b w h
  refine Ct.mono (Proof_rack (some ⟨b, 0, none⟩) 4 exD 2 w (by decide)) fun v w' _ h => ?_
  obtain ⟨l, e, a, c, rfl, hR, h1 | ⟨_, h1, _⟩ | ⟨_, p, h1, rfl, rfl⟩⟩ := h
  · exact absurd exD_open.1 h1.1
  · exact absurd (exD_pass2 h1) (by decide)
  · have hp := exD_pass2 h1
    obtain rfl : p = 1 := by omega
    rw [exD_end] at hR
    exact ⟨a, c, by rw [exD_end]; rfl, hR⟩
theorem ex_keep : Ct Tryz.prog 36 [.slice (some ⟨b, 0, none⟩) 4 4] w fun v w' => ∃ a c, v = .tuple #[.slice a 2 c, .int .i64 0] ∧ RowV w' false 1 (.slice a 2 c) (([1, 2] : List Int).map intV) := by
  have := exd_row b w h
  refine Ct.mono (Keep_rack (some ⟨b, 0, none⟩) 4 exD w (by decide)) fun v w' _ h => ?_
  obtain ⟨l, e, a, c, rfl, hR, ⟨h1, _⟩ | ⟨_, rfl, C, hC, rfl⟩⟩ := h
  · rw [exD_open.2.2] at h1; exact absurd h1 (by decide)
  · rw [exD_keep hC] at hR
    exact ⟨a, c, by rw [exD_keep hC]; rfl, hR⟩
theorem ex_chains : Ct Tryz.prog 40 [.slice (some ⟨b, 0, none⟩) 4 4] w fun v w' => ∃ a c, v = .tuple #[.slice a 4 c, .int .i64 0] ∧ RowV w' false 1 (.slice a 4 c) (([0, 0, 1, 1] : List Int).map intV) := by
  have := exd_row b w h
  refine Ct.mono (Chains_rack (some ⟨b, 0, none⟩) 4 exD w (by decide)) fun v w' _ h => ?_
  obtain ⟨l, e, a, c, rfl, hR, ⟨h1, _⟩ | ⟨_, hC, rfl⟩⟩ := h
  · rw [exD_open.2.2] at h1; exact absurd h1 (by decide)
  · obtain rfl := hC.uniq exD_chain
    exact ⟨a, c, rfl, hR⟩
theorem ex_mend : Ct Tryz.prog 35 [.slice (some ⟨b, 0, none⟩) 4 4] w fun v w' => ∃ a c, v = .tuple #[.slice a 2 c, .int .i64 0] ∧ RowV w' true 2 (.slice a 2 c) (([(0, 3), (2, 1)] : List (Int × Int)).map encII) := by
  have := exd_row b w h
  refine Ct.mono (Mend_rack (some ⟨b, 0, none⟩) 4 exD w (by decide)) fun v w' _ h => ?_
  obtain ⟨l, e, a, c, rfl, hR, ⟨h1, _⟩ | ⟨_, rfl, C, hC, hl⟩⟩ := h
  · rw [exD_open.2.2] at h1; exact absurd h1 (by decide)
  · rw [exD_mend hC] at hl
    subst hl
    exact ⟨a, c, rfl, hR⟩
set_option maxHeartbeats 1000000 in
theorem ex_moved (a : Option Addr) (c : Nat) (hm : RowV w true 2 (.slice a 2 c) (([(0, 3), (2, 1)] : List (Int × Int)).map encII)) : Ct Tryz.prog 21 [.slice (some ⟨b, 0, none⟩) 4 4, .slice a 2 c] w fun v w' => ∃ a c, v = .tuple #[.slice a 4 c, .int .i64 0] ∧ RowV w' false 1 (.slice a 4 c) (([1, 3, 2, 0] : List Int).map intV) := by
  have := exd_row b w h
  have : RowI w (.slice a ([(0, 3), (2, 1)] : List (Int × Int)).length c) true 2 (([(0, 3), (2, 1)] : List (Int × Int)).map encII) := ⟨hm⟩
  refine Ct.mono (Moved_rack (some ⟨b, 0, none⟩) a 4 c exD [(0, 3), (2, 1)] w (by decide) (by decide)) fun v w' _ h => ?_
  obtain ⟨l, e, a', c', rfl, hR, ⟨h1, _⟩ | ⟨_, h1, _⟩ | ⟨_, _, h1, _⟩ | ⟨_, _, _, rfl, rfl⟩⟩ := h
  · rw [exD_open.2.2] at h1; exact absurd h1 (by decide +kernel)
  · exact absurd h1 (by decide +kernel)
  · exact absurd h1 (by decide +kernel)
  · rw [show movedF exD.length [(0, 3), (2, 1)] = [1, 3, 2, 0] from exD_moved] at hR
    exact ⟨a', c', by rw [show movedF exD.length [(0, 3), (2, 1)] = [1, 3, 2, 0] from exD_moved]; rfl, hR⟩
end
section
variable (b : Nat) (w : World) (h : RowV w true 6 (.slice (some ⟨b, 0, none⟩) 4 4) (exS.map encSl)) [hgb : At w 0 0 bysC] [hmx : MxI w]
include h
omit hgb hmx in
theorem exs_row : RowI w (.slice (some ⟨b, 0, none⟩) exS.length 4) true 6 (exS.map encSl) := ⟨h⟩
theorem ex_ranks : Ct Tryz.prog 22 [.slice (some ⟨b, 0, none⟩) 4 4, .int .u8 2] w fun v w' => ∃ a c, v = .tuple #[.slice a 4 c, .int .i64 0] ∧ RowV w' false 1 (.slice a 4 c) (([2, 1, 2, 0] : List Int).map intV) := by
  have := exs_row b w h
  refine Ct.mono (Ranks_rack (some ⟨b, 0, none⟩) 4 exS 2 w (fun e => absurd e (by decide)) exS_small (by decide)) fun v w' _ h => ?_
  obtain ⟨a, c, rfl, hO⟩ := h
  rw [exS_ranks] at hO ⊢
  exact ⟨a, c, rfl, hO.row⟩
theorem ex_file : Ct Tryz.prog 24 [.slice (some ⟨b, 0, none⟩) 4 4, .int .u8 2, .int .i64 2] w fun v w' => ∃ a c, v = .tuple #[.slice a 4 c, .int .i64 2, .int .i64 0] ∧ RowV w' true 6 (.slice a 4 c) ((fileL exS 2 2).map encSl) := by
  have := exs_row b w h
  refine Ct.mono (File_rack (some ⟨b, 0, none⟩) 4 exS 2 2 w (fun e => absurd e (by decide)) exS_small (by decide)) fun v w' _ h => ?_
  obtain ⟨p, a, c, hp, rfl, hO⟩ := h
  obtain rfl := exS_pass hp
  have e4 : (fileL exS 2 2).length = 4 := by rw [exS_file]; rfl
  rw [exS_err]
  rw [e4] at hO ⊢
  exact ⟨a, c, rfl, hO.row⟩
end
end Go.Proofs.YtpijeomnplmakaaGreatDoor

/- The reference of rack: Deck, asked, Valid, Great, GreatPlan, twin, TwinPlan, SameLists. -/
namespace Go.Proofs.YtpijeomnplmakaaGreatDoor
open Go.RowKit

section
variable (a : Option Addr) (c : Nat) (d : List Int) (w : World) [hrow : RowI w (.slice a d.length c) false 1 (d.map intV)]
end

/-! Plans -/
section
variable (pa : Option Addr) (pc : Nat) (rs : List Rw) (w : World) [hp : RowI w (.slice pa rs.length pc) false 1 (rs.map encW)] [hrs : RowsI w rs]
theorem SameLists_yes (qa : Option Addr) (qc : Nat) (ts : List Rw) [ht : RowI w (.slice qa ts.length qc) false 1 (ts.map encW)] [hts : RowsI w ts] (he : ts.map (·.2.2) = rs.map (·.2.2)) (hrl : rs.length ≤ 1000000) :
    Ct Tryz.prog 18 [.slice pa rs.length pc, .slice qa ts.length qc] w fun v _ => v = .bool true := by
  have hl : ts.length = rs.length := by have := congrArg List.length he; simpa using this
  refine Ct.ofW (by simp) ?_
  (refine jjB ?_; refine jjC ?_; apply jJ; exact eB rfl; refine jz ?_; refine jjB ?_; refine jjB ?_; refine jjC ?_; apply jI; exact eS rfl; refine jh rfl ?_; apply jI; exact eS rfl; refine jh rfl ?_; refine jjk rfl rfl (by omega) ?_; refine jz ?_; refine jjK rfl ?_; refine jjG ?_; refine jjB ?_; refine jjB ?_; refine jjC ?_; apply jJ; exact eI rfl; refine jz ?_; refine jjD ?_)
  refine W.loop (11 :: 12 :: 13 :: 14 :: 17 :: 18 :: 19 :: 20 :: 21 :: 22 :: 23 :: 24 :: 25 :: 26 :: 4 :: 15 :: 16 :: 5 :: []) (fun g s' V => ∃ k : Nat, s' 5 = .int .i64 ((k : Nat) : Int) ∧ g = rs.length - k ∧ k ≤ rs.length) rs.length ⟨0, rfl, rfl, Nat.zero_le _⟩ ?_
  rintro _ sd w1 hS1 ⟨k, h5, rfl, hk⟩
  refine W.fix h5 ?_
  clear h5
  repeat' (first|((first|apply jI|apply jJ); (first|exact eI rfl|exact eB rfl|exact eS rfl))|(refine jW ?_; refine jX rfl rfl ?_)|(refine jg ?_; refine jh rfl ?_)|refine jz ?_|(refine jjA ?_; (first|refine jjB ?_|refine jjC ?_|refine jjD ?_|refine jjE ?_|refine jjF ?_|refine jjG ?_))|(refine jjA ?_; (refine jjN rfl ?_ ?_ <;> intro _))|refine jB rfl rfl ⟨inferInstance, ?_⟩)
  · have k1 : k < rs.length := by omega
    have k2 : k < ts.length := by omega
    refine W.draw (fun w' => Ext w1 w') ?_
    intro w2 hS2
    obtain ⟨q1, o1, rfl, hA1⟩ := (hp.h.ext hS1.ext).place' (map_get k1)
    obtain ⟨q2, o2, rfl, hA2⟩ := (ht.h.ext hS1.ext).place' (map_get k2)
    rw [Nat.mul_one] at hA1 hA2
    refine jjV [0, 1, 2, 3, 4, 5, 6, 7] (by decide +kernel) hS2.ext ?_
    (((apply jjT; exact rfl; rintro w' hq; have := hq.toStep; apply jI; exact eS rfl; refine jz ?_; exact ⟨rfl, rfl⟩; apply jjT; exact rfl; rintro w' hq; have := hq.toStep; apply jI; exact eI rfl; refine jz ?_; exact ⟨rfl, rfl⟩; apply jjT; exact rfl; rintro w' hq; have := hq.toStep; refine jG rfl rfl rfl (by omega) ?_; refine jz ?_; exact ⟨rfl, rfl⟩; apply jjT; exact rfl; rintro w' hq; have := hq.toStep; refine jQ rfl rfl ?_; refine jz ?_; exact ⟨rfl, rfl⟩; apply jjT; exact rfl; rintro w' hq; have := hq.toStep; apply jI; exact eS rfl; refine jz ?_; exact ⟨rfl, rfl⟩; apply jjT; exact rfl; rintro w' hq; have := hq.toStep; apply jI; exact eI rfl; refine jz ?_; exact ⟨rfl, rfl⟩; apply jjT; exact rfl; rintro w' hq; have := hq.toStep; refine jG rfl rfl rfl (by omega) ?_; refine jz ?_; exact ⟨rfl, rfl⟩; apply jjT; exact rfl; rintro w' hq; have := hq.toStep; refine jQ rfl rfl ?_; refine jz ?_; exact ⟨rfl, rfl⟩; refine jjU ?_)))
    apply jjW 8 (by decide +kernel) rfl hS2.ext
    have e : rs[k].2.2 = ts[k].2.2 := by
      have h1 : (ts.map (·.2.2))[k]? = (rs.map (·.2.2))[k]? := by rw [he]
      simp [k1, k2] at h1
      exact h1.symm
    have hE2 := hS1.ext.trans hS2.ext
    have i1 := (hrs.ext hE2).get k1
    have i2 := (hts.ext hE2).get k2
    have hc : Ct Tryz.prog 34 [encW rs[k], encW ts[k]] w2 fun v _ => v = .bool true := (SameInts_ref rs[k].1 ts[k].1 rs[k].2.1 ts[k].2.1 rs[k].2.2 ts[k].2.2 w2).mono fun v _ _ e' => e'.trans (by rw [decide_eq_true e])
    refine jjQ hc rfl rfl ?_
    rintro _ w3 hS3 rfl
    refine jz ?_
    have hE3 := hS2.ext.trans hS3.ext
    refine jjV [9] (by decide +kernel) hE3 ?_
    (((apply jjT; exact rfl; rintro w' hq; refine jp rfl ?_; refine jz ?_; exact ⟨rfl, rfl⟩; refine jjU ?_)))
    refine jjX (by decide +kernel) hE3 ?_
    (refine jjK rfl ?_; refine jjG ?_; refine jjC ?_; apply jI; exact eI rfl; refine jY rfl rfl (by omega) ?_; apply jJ; exact eI rfl; refine jz ?_)
    exact ⟨rfl, by ((refine Same.upd rfl ?_; refine Same.upd rfl ?_; refine Same.upd rfl ?_; refine Same.upd rfl ?_; refine Same.upd rfl ?_; refine Same.upd rfl ?_; refine Same.upd rfl ?_; refine Same.upd rfl ?_; refine Same.upd rfl ?_; refine Same.upd rfl ?_; refine Same.upd rfl ?_; refine Same.upd rfl ?_; refine Same.upd rfl ?_; refine Same.upd rfl ?_; refine Same.upd rfl ?_; refine Same.upd rfl ?_; refine Same.upd rfl ?_; refine Same.upd rfl ?_; exact Same.ovN)), rs.length - (k + 1), by omega, hS1.ext.trans hE3, k + 1, congrArg (Value.int .i64) (by omega), rfl, by omega⟩
  · exact rfl
end
end Go.Proofs.YtpijeomnplmakaaGreatDoor

/- The reference of rack: Order, runs, Runs, power, passes, Passes, Check. -/
namespace Go.Proofs.YtpijeomnplmakaaGreatDoor
open Go.RowKit

section
variable (a : Option Addr) (c : Nat) (d : List Int) (w : World) [hrow : RowI w (.slice a d.length c) false 1 (d.map intV)]
end
end Go.Proofs.YtpijeomnplmakaaGreatDoor

/- The reference of rack: Runs, power, passes, Passes, SamePairs. -/
namespace Go.Proofs.YtpijeomnplmakaaGreatDoor
open Go.RowKit

instance eqPair : EqT Tryz.prog 36 encII := eqT_arr2 Tryz.underlying36 inferInstance (inferInstance : TS Tryz.prog 3 _ 1 _) (by kernel_rfl)

section
variable (a : Option Addr) (c : Nat) (d : List Int) (w : World) [hrow : RowI w (.slice a d.length c) false 1 (d.map intV)]
end

theorem SamePairs_yes (a1 a2 : Option Addr) (c1 c2 : Nat) (l : List (Int × Int)) (w : World) (hl : l.length ≤ 1000000) [h1 : RowI w (.slice a1 l.length c1) true 2 (l.map encII)] [h2 : RowI w (.slice a2 l.length c2) true 2 (l.map encII)] :
    Ct Tryz.prog 19 [.slice a1 l.length c1, .slice a2 l.length c2] w fun v _ => v = .bool true := by
  refine Ct.ofW (by simp) ?_
  (refine jjB ?_; refine jjC ?_; apply jJ; exact eB rfl; refine jz ?_; refine jjB ?_; refine jjB ?_; refine jjC ?_; apply jI; exact eS rfl; refine jh rfl ?_; apply jI; exact eS rfl; refine jh rfl ?_; refine jjk rfl rfl (by omega) ?_; refine jz ?_; refine jjK rfl ?_; refine jjG ?_; refine jjB ?_; refine jjB ?_; refine jjC ?_; apply jJ; exact eI rfl; refine jz ?_; refine jjD ?_)
  refine W.loop (11 :: 12 :: 13 :: 14 :: 17 :: 18 :: 19 :: 20 :: 21 :: 22 :: 23 :: 24 :: 25 :: 4 :: 15 :: 16 :: 5 :: []) (fun g s' V => ∃ k : Nat, s' 5 = .int .i64 ((k : Nat) : Int) ∧ g = l.length - k ∧ k ≤ l.length) l.length ⟨0, rfl, rfl, Nat.zero_le _⟩ ?_
  rintro _ sd w1 hS1 ⟨k, h5, rfl, hk⟩
  refine W.fix h5 ?_
  clear h5
  by_cases k1 : k < l.length
  · (refine jjB ?_; refine jjB ?_; refine jjC ?_; apply jI; exact eI rfl; apply jI; exact eS rfl; refine jh rfl ?_; refine jjZ rfl rfl (by omega) ?_; refine jz ?_; refine jjJ rfl ?_; refine jjG ?_; refine jjB ?_; refine jjD ?_; refine jjB ?_)
    refine W.draw (fun w' => Ext w1 w') ?_
    intro w2 hS2
    have hz := (h1.h.ext hS1.ext).place' (map_get k1)
    obtain ⟨q1, o1, rfl, hA1⟩ := hz
    have hz := (h2.h.ext hS1.ext).place' (map_get k1)
    obtain ⟨q2, o2, rfl, hA2⟩ := hz
    refine jjV [0, 1, 2, 3, 4, 5, 6, 7] (by decide +kernel) hS2.ext ?_
    (((apply jjT; exact rfl; rintro w' hq; have := hq.toStep; apply jI; exact eS rfl; refine jz ?_; exact ⟨rfl, rfl⟩; apply jjT; exact rfl; rintro w' hq; have := hq.toStep; apply jI; exact eI rfl; refine jz ?_; exact ⟨rfl, rfl⟩; apply jjT; exact rfl; rintro w' hq; have := hq.toStep; refine jH _ rfl rfl rfl (by omega) ?_; refine jz ?_; exact ⟨rfl, rfl⟩; apply jjT; exact rfl; rintro w' hq; have := hq.toStep; refine jQ rfl rfl ?_; refine jz ?_; exact ⟨rfl, rfl⟩; apply jjT; exact rfl; rintro w' hq; have := hq.toStep; apply jI; exact eS rfl; refine jz ?_; exact ⟨rfl, rfl⟩; apply jjT; exact rfl; rintro w' hq; have := hq.toStep; apply jI; exact eI rfl; refine jz ?_; exact ⟨rfl, rfl⟩; apply jjT; exact rfl; rintro w' hq; have := hq.toStep; refine jH _ rfl rfl rfl (by omega) ?_; refine jz ?_; exact ⟨rfl, rfl⟩; apply jjT; exact rfl; rintro w' hq; have := hq.toStep; refine jQ rfl rfl ?_; refine jz ?_; exact ⟨rfl, rfl⟩; refine jjU ?_)))
    apply jjW 8 (by decide +kernel) rfl hS2.ext
    refine Ops.neqTN (enc := encII) l[k] rfl rfl ?_
    refine jz ?_
    refine jjX (by decide +kernel) hS2.ext ?_
    (refine jjK rfl ?_; refine jjG ?_; refine jjC ?_; apply jI; exact eI rfl; refine jY rfl rfl (by omega) ?_; apply jJ; exact eI rfl; refine jz ?_)
    exact ⟨rfl, by ((refine Same.upd rfl ?_; refine Same.upd rfl ?_; refine Same.upd rfl ?_; refine Same.upd rfl ?_; refine Same.upd rfl ?_; refine Same.upd rfl ?_; refine Same.upd rfl ?_; refine Same.upd rfl ?_; refine Same.upd rfl ?_; refine Same.upd rfl ?_; refine Same.upd rfl ?_; refine Same.upd rfl ?_; refine Same.upd rfl ?_; refine Same.upd rfl ?_; refine Same.upd rfl ?_; refine Same.upd rfl ?_; refine Same.upd rfl ?_; exact Same.ovN)), l.length - (k + 1), by omega, hS1.ext.trans hS2.ext, k + 1, congrArg (Value.int .i64) (by omega), rfl, by omega⟩
  · (refine jjB ?_; refine jjB ?_; refine jjC ?_; apply jI; exact eI rfl; apply jI; exact eS rfl; refine jh rfl ?_; refine jja rfl rfl (by omega) ?_; refine jz ?_; refine jjK rfl ?_; refine jjE ?_; refine jjB ?_; refine jjC ?_; apply jJ; exact eB rfl; refine jz ?_; refine jjF ?_; refine jB rfl rfl ⟨inferInstance, ?_⟩)
    exact rfl
end Go.Proofs.YtpijeomnplmakaaGreatDoor

/- The reference of rack: ending, Chains. -/
namespace Go.Proofs.YtpijeomnplmakaaGreatDoor
open Go.RowKit

/-- A new row of zeros. -/
theorem SD.make {w : World} {b n e : Nat} (h : Bk w b (List.replicate n (.int .i64 0)) e) (hn : n ≤ 1000000) : SD e w b n n (List.replicate n 0) := by
  have hm : maxLen = 9223372036854775807 := rfl
  refine ⟨by simp, OwnL.ofCells h (by simp) (Nat.le_refl _) (by omega) ?_ (by omega) (Nat.le_refl _) (int_fit _)⟩
  rw [List.take_of_length_le (by simp)]; simp

section
variable (a : Option Addr) (c : Nat) (d : List Int) (w : World) [hrow : RowI w (.slice a d.length c) false 1 (d.map intV)]
end
end Go.Proofs.YtpijeomnplmakaaGreatDoor

/- The reference of rack: beginning, keep, Keep. -/
namespace Go.Proofs.YtpijeomnplmakaaGreatDoor
open Go.RowKit

section
variable (a : Option Addr) (c : Nat) (d : List Int) (w : World) [hrow : RowI w (.slice a d.length c) false 1 (d.map intV)]
end
end Go.Proofs.YtpijeomnplmakaaGreatDoor

/- The reference of rack: moved, Moves, Moved, SameMoves. -/
namespace Go.Proofs.YtpijeomnplmakaaGreatDoor
open Go.RowKit

section
variable (pa : Option Addr) (pc : Nat) (ms : List (Int × Int)) (w : World) [hp : RowI w (.slice pa ms.length pc) true 2 (ms.map encII)]
end

theorem SameMoves_yes (a1 a2 : Option Addr) (c1 c2 : Nat) (l : List (Int × Int)) (w : World) (hl : l.length ≤ 1000000) [h1 : RowI w (.slice a1 l.length c1) true 2 (l.map encII)] [h2 : RowI w (.slice a2 l.length c2) true 2 (l.map encII)] :
    Ct Tryz.prog 52 [.slice a1 l.length c1, .slice a2 l.length c2] w fun v _ => v = .bool true := by
  refine Ct.ofW (by simp) ?_
  (refine jjB ?_; refine jjC ?_; apply jJ; exact eB rfl; refine jz ?_; refine jjB ?_; refine jjB ?_; refine jjC ?_; apply jI; exact eS rfl; refine jh rfl ?_; apply jI; exact eS rfl; refine jh rfl ?_; refine jjk rfl rfl (by omega) ?_; refine jz ?_; refine jjK rfl ?_; refine jjG ?_; refine jjB ?_; refine jjB ?_; refine jjC ?_; apply jJ; exact eI rfl; refine jz ?_; refine jjD ?_)
  refine W.loop (11 :: 12 :: 13 :: 14 :: 17 :: 18 :: 19 :: 20 :: 21 :: 22 :: 23 :: 24 :: 25 :: 4 :: 15 :: 16 :: 5 :: []) (fun g s' V => ∃ k : Nat, s' 5 = .int .i64 ((k : Nat) : Int) ∧ g = l.length - k ∧ k ≤ l.length) l.length ⟨0, rfl, rfl, Nat.zero_le _⟩ ?_
  rintro _ sd w1 hS1 ⟨k, h5, rfl, hk⟩
  refine W.fix h5 ?_
  clear h5
  by_cases k1 : k < l.length
  · (refine jjB ?_; refine jjB ?_; refine jjC ?_; apply jI; exact eI rfl; apply jI; exact eS rfl; refine jh rfl ?_; refine jjZ rfl rfl (by omega) ?_; refine jz ?_; refine jjJ rfl ?_; refine jjG ?_; refine jjB ?_; refine jjD ?_; refine jjB ?_)
    refine W.draw (fun w' => Ext w1 w') ?_
    intro w2 hS2
    have hz := (h1.h.ext hS1.ext).place' (map_get k1)
    obtain ⟨q1, o1, rfl, hA1⟩ := hz
    have hz := (h2.h.ext hS1.ext).place' (map_get k1)
    obtain ⟨q2, o2, rfl, hA2⟩ := hz
    refine jjV [0, 1, 2, 3, 4, 5, 6, 7] (by decide +kernel) hS2.ext ?_
    (((apply jjT; exact rfl; rintro w' hq; have := hq.toStep; apply jI; exact eS rfl; refine jz ?_; exact ⟨rfl, rfl⟩; apply jjT; exact rfl; rintro w' hq; have := hq.toStep; apply jI; exact eI rfl; refine jz ?_; exact ⟨rfl, rfl⟩; apply jjT; exact rfl; rintro w' hq; have := hq.toStep; refine jH _ rfl rfl rfl (by omega) ?_; refine jz ?_; exact ⟨rfl, rfl⟩; apply jjT; exact rfl; rintro w' hq; have := hq.toStep; refine jQ rfl rfl ?_; refine jz ?_; exact ⟨rfl, rfl⟩; apply jjT; exact rfl; rintro w' hq; have := hq.toStep; apply jI; exact eS rfl; refine jz ?_; exact ⟨rfl, rfl⟩; apply jjT; exact rfl; rintro w' hq; have := hq.toStep; apply jI; exact eI rfl; refine jz ?_; exact ⟨rfl, rfl⟩; apply jjT; exact rfl; rintro w' hq; have := hq.toStep; refine jH _ rfl rfl rfl (by omega) ?_; refine jz ?_; exact ⟨rfl, rfl⟩; apply jjT; exact rfl; rintro w' hq; have := hq.toStep; refine jQ rfl rfl ?_; refine jz ?_; exact ⟨rfl, rfl⟩; refine jjU ?_)))
    apply jjW 8 (by decide +kernel) rfl hS2.ext
    refine Ops.neqTN (enc := encII) l[k] rfl rfl ?_
    refine jz ?_
    refine jjX (by decide +kernel) hS2.ext ?_
    (refine jjK rfl ?_; refine jjG ?_; refine jjC ?_; apply jI; exact eI rfl; refine jY rfl rfl (by omega) ?_; apply jJ; exact eI rfl; refine jz ?_)
    exact ⟨rfl, by ((refine Same.upd rfl ?_; refine Same.upd rfl ?_; refine Same.upd rfl ?_; refine Same.upd rfl ?_; refine Same.upd rfl ?_; refine Same.upd rfl ?_; refine Same.upd rfl ?_; refine Same.upd rfl ?_; refine Same.upd rfl ?_; refine Same.upd rfl ?_; refine Same.upd rfl ?_; refine Same.upd rfl ?_; refine Same.upd rfl ?_; refine Same.upd rfl ?_; refine Same.upd rfl ?_; refine Same.upd rfl ?_; refine Same.upd rfl ?_; exact Same.ovN)), l.length - (k + 1), by omega, hS1.ext.trans hS2.ext, k + 1, congrArg (Value.int .i64) (by omega), rfl, by omega⟩
  · (refine jjB ?_; refine jjB ?_; refine jjC ?_; apply jI; exact eI rfl; apply jI; exact eS rfl; refine jh rfl ?_; refine jja rfl rfl (by omega) ?_; refine jz ?_; refine jjK rfl ?_; refine jjE ?_; refine jjB ?_; refine jjC ?_; apply jJ; exact eB rfl; refine jz ?_; refine jjF ?_; refine jB rfl rfl ⟨inferInstance, ?_⟩)
    exact rfl
end Go.Proofs.YtpijeomnplmakaaGreatDoor

/- The proof engine, part 43: two operations that may run in either order, then one road. -/
namespace Go.Proofs.YtpijeomnplmakaaGreatDoor
open Go.RowKit

section
variable {P : Program} {ro : Option Nat} {n : Nat} {all : List Oper} {S : World → Prop} {K : Sl → World → Prop}
theorem Ops1.mono {o : Oper} {s : Sl} {w : World} {K K' : Sl → World → Prop} (h : Ops P ro n all [o] K s w) (hk : ∀ s w, K s w → K' s w) : Ops P ro n all [o] K' s w := by
  rw [op1_ops] at h ⊢
  exact h.mono fun v w' h => hk _ _ h
theorem upd_swap {s : Sl} {d1 d2 : Nat} {v1 v2 : Value} (h : d1 ≠ d2) : upd (upd s d2 v2) d1 v1 = upd (upd s d1 v1) d2 v2 := by
  funext i
  simp only [upd]
  cases h1 : Nat.beq i d1 <;> cases h2 : Nat.beq i d2 <;> simp only [cond_true, cond_false]
  rw [Nat.eq_of_beq_eq_true h1] at h2
  exact absurd (Nat.eq_of_beq_eq_true h2) h
theorem AnyS.joinB (i j : Nat) {o q : Oper} {fuel : Nat} {listed : Array Bool} {s : Sl} {w : World} {d1 d2 : Nat} (hne : d1 ≠ d2) (f1 f2 : Nat → Value) (F : Nat → Nat → World → Prop)
    (hr : (Nat.blt 1 fuel && (Region.ready .any all.toArray listed == [i, j]) && (Region.ready .any all.toArray (listed.setIfInBounds i true) == [j]) && (Region.ready .any all.toArray (listed.setIfInBounds j true) == [i]) && ((listed.setIfInBounds j true).setIfInBounds i true == (listed.setIfInBounds i true).setIfInBounds j true)) = true)
    (ho : all[i]? = some o) (hq : all[j]? = some q) (hS : S w)
    (h1 : Ops P ro n all [o] (fun s1 w1 => S w1 ∧ Ops P ro n all [q] (fun s2 w2 => ∃ b1 b2, s2 = upd (upd s d1 (f1 b1)) d2 (f2 b2) ∧ F b1 b2 w2) s1 w1) s w)
    (h2 : Ops P ro n all [q] (fun s1 w1 => S w1 ∧ Ops P ro n all [o] (fun s2 w2 => ∃ b1 b2, s2 = upd (upd s d2 (f2 b2)) d1 (f1 b1) ∧ F b1 b2 w2) s1 w1) s w)
    (hk : ∀ b1 b2 w2, F b1 b2 w2 → AnyS P ro n all S K (fuel - 1 - 1) ((listed.setIfInBounds i true).setIfInBounds j true) (upd (upd s d1 (f1 b1)) d2 (f2 b2)) w2) : AnyS P ro n all S K fuel listed s w := by
  simp only [Bool.and_eq_true, beq_iff_eq] at hr
  obtain ⟨⟨⟨⟨hf, r1⟩, r2⟩, r3⟩, r4⟩ := hr
  have hf : 1 < fuel := by simpa using hf
  refine jjl i j (by simp [r1]; omega) ho hq hS (Ops1.mono h1 fun s1 w1 ⟨g1, g2⟩ => jjW j (by simp [r2]; omega) hq g1 (Ops1.mono g2 ?_)) (Ops1.mono h2 fun s1 w1 ⟨g1, g2⟩ => jjW i (by simp [r3]; omega) ho g1 (Ops1.mono g2 ?_))
  · rintro s2 w2 ⟨b1, b2, rfl, hF⟩
    exact hk b1 b2 w2 hF
  · rintro s2 w2 ⟨b1, b2, rfl, hF⟩
    rw [r4, upd_swap hne]
    exact hk b1 b2 w2 hF
end
end Go.Proofs.YtpijeomnplmakaaGreatDoor

/- The proof engine, part 44: regions that draw their order, with what stands behind what kept as numbers. -/
namespace Go.Proofs.YtpijeomnplmakaaGreatDoor
open Go.RowKit

/-- Of an operation: what it stands behind, what it sets, what it looks at: as bits. -/
abbrev RowN := Nat × Nat × Nat
def bitsL (l : List Nat) : Nat := l.foldr (fun x m => 2 ^ x ||| m) 0
theorem bitsL_test (l : List Nat) (i : Nat) : (bitsL l).testBit i = decide (i ∈ l) := by
  induction l with
  | nil => simp [bitsL]
  | cons x l ih =>
    rw [bitsL, List.foldr_cons, Nat.testBit_or, ← bitsL, ih, Nat.testBit_two_pow]
    by_cases h : x = i
    · simp [h]
    · have : i ≠ x := fun e => h e.symm
      simp [h, this]
def rowOf (ops : Array Oper) (o : Oper) : RowN := (bitsL ((o.after.toList.filter fun e => Region.binds .any e).map (·.on)), (match o.dst with | some d => 2 ^ d | none => 0), bitsL (o.looksAt ops))
def rowsOf (all : List Oper) : List RowN := all.map (rowOf all.toArray)
def apartN (x y : RowN) : Bool := Nat.beq (x.2.1 &&& y.2.2) 0 && (Nat.beq x.2.1 0 || !Nat.beq x.2.1 y.2.1) && Nat.beq (y.2.1 &&& x.2.2) 0
theorem and_zero_test {a b i : Nat} (h : Nat.beq (a &&& b) 0 = true) (ha : a.testBit i = true) : b.testBit i = false := by
  have h0 := Nat.eq_of_beq_eq_true h
  have := congrArg (fun m => Nat.testBit m i) h0
  simpa [Nat.testBit_and, ha] using this
theorem apartN_ok {ops : Array Oper} {x y : Oper} (h : apartN (rowOf ops x) (rowOf ops y) = true) : x.apart ops y = true := by
  simp only [apartN, Bool.and_eq_true] at h
  obtain ⟨⟨h1, h2⟩, h3⟩ := h
  have look : ∀ (u v : Oper) (d : Nat), Nat.beq ((rowOf ops u).2.1 &&& (rowOf ops v).2.2) 0 = true → u.dst = some d → ((v.looksAt ops).contains d) = false := fun u v d h hd => by
    have e : (rowOf ops u).2.1 = 2 ^ d := by simp [rowOf, hd]
    rw [e] at h
    have := and_zero_test (i := d) h (by simp [Nat.testBit_two_pow])
    rw [show (rowOf ops v).2.2 = bitsL (v.looksAt ops) from rfl, bitsL_test, decide_eq_false_iff_not] at this
    simpa using this
  unfold Oper.apart
  rw [Bool.and_eq_true]
  constructor
  · cases hx : x.dst with
    | none => rfl
    | some d =>
      simp only [Bool.and_eq_true, Bool.not_eq_true', bne_iff_ne, ne_eq]
      refine ⟨look x y d h1 hx, fun hy => ?_⟩
      have ex : (rowOf ops x).2.1 = 2 ^ d := by simp [rowOf, hx]
      have ey : (rowOf ops y).2.1 = 2 ^ d := by simp [rowOf, hy]
      rw [ex, ey] at h2
      have hp : Nat.beq (2 ^ d) 0 = false := by
        cases e : Nat.beq (2 ^ d) 0
        · rfl
        · have := Nat.eq_of_beq_eq_true e
          have := Nat.two_pow_pos d
          omega
      rw [hp, Nat.beq_refl] at h2
      exact absurd h2 (by decide)
  · cases hy : y.dst with
    | none => rfl
    | some d =>
      simp only [Bool.not_eq_true']
      exact look y x d h3 hy
def readyN (M : Nat) : Nat → List RowN → List Nat
  | _, [] => []
  | j, r :: rs => if !M.testBit j && Nat.beq (r.1 &&& M) r.1 then j :: readyN M (j + 1) rs else readyN M (j + 1) rs
def freeN (M i : Nat) (ri : RowN) : Nat → List RowN → Bool
  | _, [] => true
  | j, r :: rs => (Nat.beq j i || M.testBit j || r.1.testBit i || apartN ri r) && freeN M i ri (j + 1) rs
def freeR (R : List RowN) (M i : Nat) : Bool := match R[i]? with
  | none => false
  | some ri => freeN M i ri 0 R
/-- The numbers tell what is listed. -/
structure Lm (listed : Array Bool) (n M : Nat) : Prop where
  sz : listed.size = n
  b : ∀ j, listed.getD j false = M.testBit j
theorem Lm.true_ {listed : Array Bool} {n M j : Nat} (h : Lm listed n M) (hj : j < n) : listed.getD j true = M.testBit j := by
  rw [← h.b j]
  have : j < listed.size := by rw [h.sz]; exact hj
  simp [Array.getD, this]
theorem Lm.set {listed : Array Bool} {n M i : Nat} (h : Lm listed n M) (hi : i < n) : Lm (listed.setIfInBounds i true) n (2 ^ i ||| M) := by
  refine ⟨by simpa using h.sz, fun j => ?_⟩
  have hi' : i < listed.size := by rw [h.sz]; exact hi
  rw [Nat.testBit_or, Nat.testBit_two_pow, ← h.b j]
  by_cases e : i = j
  · subst e
    simp [Array.getD, hi']
  · have hj : (listed.setIfInBounds i true).getD j false = listed.getD j false := by
      simp only [Array.getD_eq_getD_getElem?]
      rw [Array.getElem?_setIfInBounds_ne e]
    rw [hj]; simp [e]
theorem edges_ok {listed : Array Bool} {n M : Nat} {ops : Array Oper} {o : Oper} (h : Lm listed n M) : Nat.beq ((rowOf ops o).1 &&& M) (rowOf ops o).1 = true ↔ ∀ e ∈ o.after, Region.binds .any e = true → listed.getD e.on false = true := by
  constructor
  · intro hb e he hbi
    have h0 := Nat.eq_of_beq_eq_true hb
    have := congrArg (fun m => Nat.testBit m e.on) h0
    have hm : (rowOf ops o).1.testBit e.on = true := by
      rw [show (rowOf ops o).1 = bitsL ((o.after.toList.filter fun e => Region.binds .any e).map (·.on)) from rfl, bitsL_test, decide_eq_true_eq]
      exact List.mem_map.2 ⟨e, List.mem_filter.2 ⟨by simpa using he, hbi⟩, rfl⟩
    simp only [Nat.testBit_and, hm, Bool.true_and] at this
    rw [h.b]; exact this
  · intro hl
    have : (rowOf ops o).1 &&& M = (rowOf ops o).1 := by
      apply Nat.eq_of_testBit_eq
      intro i
      rw [Nat.testBit_and]
      cases hb : (rowOf ops o).1.testBit i
      · rfl
      · rw [show (rowOf ops o).1 = bitsL ((o.after.toList.filter fun e => Region.binds .any e).map (·.on)) from rfl, bitsL_test, decide_eq_true_eq] at hb
        obtain ⟨e, he, rfl⟩ := List.mem_map.1 hb
        obtain ⟨h1, h2⟩ := List.mem_filter.1 he
        have := hl e (by simpa using h1) h2
        rw [h.b] at this
        rw [this]; rfl
    rw [this]; exact Nat.beq_refl _
theorem mem_readyN {M : Nat} : ∀ {R : List RowN} {k j : Nat}, j ∈ readyN M k R ↔ ∃ i r, R[i]? = some r ∧ j = k + i ∧ M.testBit j = false ∧ Nat.beq (r.1 &&& M) r.1 = true
  | [], k, j => by simp [readyN]
  | r :: R, k, j => by
    have ih := mem_readyN (M := M) (R := R) (k := k + 1) (j := j)
    rw [readyN]
    have tail : (∃ i q, R[i]? = some q ∧ j = k + 1 + i ∧ M.testBit j = false ∧ Nat.beq (q.1 &&& M) q.1 = true) ↔ ∃ i q, (r :: R)[i + 1]? = some q ∧ j = k + (i + 1) ∧ M.testBit j = false ∧ Nat.beq (q.1 &&& M) q.1 = true := by
      constructor
      · rintro ⟨i, q, h1, h2, h3⟩; exact ⟨i, q, by simpa using h1, by omega, h3⟩
      · rintro ⟨i, q, h1, h2, h3⟩; exact ⟨i, q, by simpa using h1, by omega, h3⟩
    split
    · rename_i hc
      simp only [Bool.and_eq_true, Bool.not_eq_true'] at hc
      rw [List.mem_cons, ih, tail]
      constructor
      · rintro (rfl | ⟨i, q, h⟩)
        · exact ⟨0, r, rfl, by omega, hc.1, hc.2⟩
        · exact ⟨i + 1, q, h⟩
      · rintro ⟨i, q, h1, h2, h3⟩
        cases i with
        | zero => left; omega
        | succ i => right; exact ⟨i, q, h1, h2, h3⟩
    · rename_i hc
      rw [ih, tail]
      constructor
      · rintro ⟨i, q, h⟩; exact ⟨i + 1, q, h⟩
      · rintro ⟨i, q, h1, h2, h3, h4⟩
        cases i with
        | zero =>
          have e : r = q := by simpa using h1
          subst e
          obtain rfl : j = k := by omega
          exact absurd (by rw [Bool.and_eq_true, Bool.not_eq_true']; exact ⟨h3, h4⟩) hc
        | succ i => exact ⟨i, q, h1, h2, h3, h4⟩
theorem readyN_up {M : Nat} : ∀ {R : List RowN} {k : Nat}, (readyN M k R).Pairwise (· < ·) ∧ ∀ j ∈ readyN M k R, k ≤ j
  | [], k => by simp [readyN]
  | r :: R, k => by
    obtain ⟨h1, h2⟩ := readyN_up (M := M) (R := R) (k := k + 1)
    rw [readyN]
    split
    · exact ⟨List.pairwise_cons.2 ⟨fun j hj => by have := h2 j hj; omega, h1⟩, fun j hj => by
        rcases List.mem_cons.1 hj with rfl | hj
        · exact Nat.le_refl _
        · have := h2 j hj; omega⟩
    · exact ⟨h1, fun j hj => by have := h2 j hj; omega⟩
theorem up_same : ∀ {l m : List Nat}, l.Pairwise (· < ·) → m.Pairwise (· < ·) → (∀ x, x ∈ l ↔ x ∈ m) → l = m
  | [], [], _, _, _ => rfl
  | [], y :: m, _, _, h => absurd ((h y).2 (by simp)) (by simp)
  | x :: l, [], _, _, h => absurd ((h x).1 (by simp)) (by simp)
  | x :: l, y :: m, h1, h2, h => by
    rw [List.pairwise_cons] at h1 h2
    have hx := (h x).1 (by simp)
    have hy := (h y).2 (by simp)
    have e : x = y := by
      rcases List.mem_cons.1 hx with e | e
      · exact e
      · rcases List.mem_cons.1 hy with e' | e'
        · exact e'.symm
        · have := h2.1 x e; have := h1.1 y e'; omega
    subst e
    rw [up_same h1.2 h2.2 fun z => ?_]
    constructor
    · intro hz
      have := (h z).1 (List.mem_cons_of_mem _ hz)
      rcases List.mem_cons.1 this with e | e
      · subst e; have := h1.1 z hz; omega
      · exact e
    · intro hz
      have := (h z).2 (List.mem_cons_of_mem _ hz)
      rcases List.mem_cons.1 this with e | e
      · subst e; have := h2.1 z hz; omega
      · exact e
theorem ready_eq {all : List Oper} {listed : Array Bool} {M : Nat} (h : Lm listed all.length M) : Region.ready .any all.toArray listed = readyN M 0 (rowsOf all) := by
  refine up_same ?_ readyN_up.1 fun j => ?_
  · unfold Region.ready
    exact (List.pairwise_lt_range).filter _
  · rw [mem_ready, mem_readyN]
    constructor
    · rintro ⟨h1, o, ho, he⟩
      have hj : j < all.length := by simpa using (Array.getElem?_eq_some_iff.1 ho).1
      rw [h.true_ hj] at h1
      refine ⟨j, rowOf all.toArray o, ?_, by omega, h1, (edges_ok h).2 he⟩
      rw [rowsOf, List.getElem?_map]
      rw [show all[j]? = some o by simpa using ho]; rfl
    · rintro ⟨i, r, hr, hj, h1, h2⟩
      obtain rfl : i = j := by omega
      rw [rowsOf, List.getElem?_map] at hr
      obtain ⟨o, ho, rfl⟩ := Option.map_eq_some_iff.1 hr
      have hj : i < all.length := (List.getElem?_eq_some_iff.1 ho).1
      exact ⟨by rw [h.true_ hj]; exact h1, o, by simpa using ho, (edges_ok h).1 h2⟩
end Go.Proofs.YtpijeomnplmakaaGreatDoor

/- The proof engine, part 45: regions that draw their order, by numbers. -/
namespace Go.Proofs.YtpijeomnplmakaaGreatDoor
open Go.RowKit

theorem freeN_ok {M i : Nat} {ri : RowN} : ∀ {R : List RowN} {k : Nat}, freeN M i ri k R = true → ∀ p r, R[p]? = some r → k + p ≠ i → M.testBit (k + p) = false → r.1.testBit i = false → apartN ri r = true
  | [], k, _, p, r, hr, _, _, _ => by simp at hr
  | q :: R, k, h, p, r, hr, hne, hM, hb => by
    rw [freeN, Bool.and_eq_true] at h
    cases p with
    | zero =>
      have e : q = r := by simpa using hr
      subst e
      have h1 := h.1
      rw [Nat.add_zero] at hM hne
      rw [hM, hb] at h1
      cases hk : Nat.beq k i
      · rw [hk] at h1; simpa using h1
      · exact absurd (Nat.eq_of_beq_eq_true hk) hne
    | succ p => exact freeN_ok (k := k + 1) h.2 p r (by simpa using hr) (by omega) (by rw [show k + 1 + p = k + (p + 1) by omega]; exact hM) hb
def isReady (R : List RowN) (M i : Nat) : Bool := match R[i]? with
  | some r => !M.testBit i && Nat.beq (r.1 &&& M) r.1
  | none => false
def okF (R : List RowN) : List Nat → Nat → Bool
  | [], _ => true
  | i :: is, M => isReady R M i && freeR R M i && okF R is (2 ^ i ||| M)
def maskF (M : Nat) (is : List Nat) : Nat := is.foldl (fun m i => 2 ^ i ||| m) M
theorem Takes.nil_iff {P : Program} {ro : Option Nat} {n : Nat} {all : List Oper} {S : World → Prop} {K : Sl → Prop} {s : Sl} : Takes P ro n all S [] K s ↔ K s := by with_unfolding_all exact Iff.rfl
theorem Takes.cons_iff {P : Program} {ro : Option Nat} {n : Nat} {all : List Oper} {S : World → Prop} {K : Sl → Prop} {i : Nat} {is : List Nat} {s : Sl} : Takes P ro n all S (i :: is) K s ↔ ∃ o v, all[i]? = some o ∧ (∀ w, S w → Ops P ro n all [o] (fun s' w' => s' = putS s o.dst v ∧ w' = w) s w) ∧ Takes P ro n all S is K (putS s o.dst v) := by with_unfolding_all exact Iff.rfl
section
variable (P : Program) (ro : Option Nat) (n : Nat) (all : List Oper) (S : World → Prop) (K : Sl → World → Prop)
/-- Whatever has been listed as M tells: all orders of the rest end, and K. -/
def AnyF (R : List RowN) (fuel M : Nat) (s : Sl) (w : World) : Prop :=
  rowsOf all = R → niceAll all = true → ∀ listed : Array Bool, Lm listed all.length M → AnyS P ro n all S K fuel listed s w
end
section
variable {P : Program} {ro : Option Nat} {n : Nat} {all : List Oper} {S : World → Prop} {K : Sl → World → Prop} {R : List RowN}
theorem free_of {oi : Oper} {i M : Nat} {listed : Array Bool} (hi : all[i]? = some oi) (hl : Lm listed all.length M) (hf : freeR (rowsOf all) M i = true) (j : Nat) (oj : Oper) (hj : all[j]? = some oj) (hne : j ≠ i) (hun : listed.getD j true = false)
    (hno : ∀ e ∈ oj.after, Region.binds .any e = true → e.on ≠ i) : oi.apart all.toArray oj = true := by
  have hjl : j < all.length := (List.getElem?_eq_some_iff.1 hj).1
  have hri : (rowsOf all)[i]? = some (rowOf all.toArray oi) := by rw [rowsOf, List.getElem?_map, hi]; rfl
  have hrj : (rowsOf all)[j]? = some (rowOf all.toArray oj) := by rw [rowsOf, List.getElem?_map, hj]; rfl
  rw [freeR, hri] at hf
  refine apartN_ok (freeN_ok hf j _ hrj (by omega) ?_ ?_)
  · rw [Nat.zero_add, ← hl.true_ hjl]; exact hun
  · rw [show (rowOf all.toArray oj).1 = bitsL ((oj.after.toList.filter fun e => Region.binds .any e).map (·.on)) from rfl, bitsL_test, decide_eq_false_iff_not]
    intro hm
    obtain ⟨e, he, rfl⟩ := List.mem_map.1 hm
    obtain ⟨h1, h2⟩ := List.mem_filter.1 he
    exact hno e (by simpa using h1) h2 rfl
theorem ready_of {i M : Nat} {listed : Array Bool} (hl : Lm listed all.length M) (h : isReady (rowsOf all) M i = true) : i ∈ Region.ready .any all.toArray listed := by
  rw [ready_eq hl, mem_readyN]
  rw [isReady] at h
  cases hr : (rowsOf all)[i]? with
  | none => rw [hr] at h; cases h
  | some r =>
    rw [hr] at h
    simp only [Bool.and_eq_true, Bool.not_eq_true'] at h
    exact ⟨i, r, hr, by omega, h.1, h.2⟩
theorem AnyF.takes : ∀ (is : List Nat) {fuel M : Nat} {s : Sl} {w : World}, okF R is M = true → S w →
    Takes P ro n all S is (fun s' => AnyF P ro n all S K R fuel (maskF M is) s' w) s → AnyF P ro n all S K R (fuel + is.length) M s w := by
  intro is
  induction is with
  | nil => intro fuel M s w _ _ h; exact Takes.nil_iff.1 h
  | cons i is ih =>
    intro fuel M s w hok hS h hR hn listed hl
    subst hR
    simp only [okF, Bool.and_eq_true] at hok
    obtain ⟨⟨h1, h2⟩, h3⟩ := hok
    obtain ⟨o, v, ho, hq, hr⟩ := Takes.cons_iff.1 h
    have hi : i < all.length := (List.getElem?_eq_some_iff.1 ho).1
    refine AnyS.first (v := v) hn ho (fuel + is.length) listed s w (free_of ho hl h2) (ready_of hl h1) ?_ hS (ih h3 hS hr rfl hn _ (hl.set hi))
    intro w hw
    have := hq w hw
    rw [op1_ops] at this
    refine this.mono fun u w' ⟨e1, e2⟩ => ⟨fun d hd => ?_, e2⟩
    rw [hd] at e1
    have := congrFun e1 d
    simpa [putS, upd] using this
theorem AnyF.take (is : List Nat) {fuel M : Nat} {s : Sl} {w : World} (hok : (Nat.ble is.length fuel && okF R is M) = true) (hS : S w)
    (h : Takes P ro n all S is (fun s' => AnyF P ro n all S K R (fuel - is.length) (maskF M is) s' w) s) : AnyF P ro n all S K R fuel M s w := by
  simp only [Bool.and_eq_true] at hok
  have hle : is.length ≤ fuel := by simpa using hok.1
  have := AnyF.takes (K := K) (fuel := fuel - is.length) is hok.2 hS h
  rwa [Nat.sub_add_cancel hle] at this
theorem AnyF.one (i : Nat) {o : Oper} {fuel M : Nat} {s : Sl} {w : World} (hr : (Nat.blt 0 fuel && (readyN M 0 R == [i])) = true) (ho : all[i]? = some o) (hS : S w)
    (h : Ops P ro n all [o] (fun s' w' => AnyF P ro n all S K R (fuel - 1) (2 ^ i ||| M) s' w') s w) : AnyF P ro n all S K R fuel M s w := by
  intro hR hn listed hl
  subst hR
  have hi : i < all.length := (List.getElem?_eq_some_iff.1 ho).1
  rw [← ready_eq hl] at hr
  exact jjW i hr ho hS (Ops1.mono h fun s w h => h rfl hn _ (hl.set hi))
theorem AnyF.done {fuel M : Nat} {s : Sl} {w : World} (hr : (readyN M 0 R).isEmpty = true) (hS : S w) (h : K s w) : AnyF P ro n all S K R fuel M s w := by
  intro hR hn listed hl
  subst hR
  rw [← ready_eq hl] at hr
  exact jjX hr hS h
theorem AnyF.joinB (i j : Nat) {o q : Oper} {fuel M : Nat} {s : Sl} {w : World} {d1 d2 : Nat} (hne : d1 ≠ d2) (f1 f2 : Nat → Value) (F : Nat → Nat → World → Prop)
    (hr : (Nat.blt 1 fuel && (readyN M 0 R == [i, j]) && (readyN (2 ^ i ||| M) 0 R == [j]) && (readyN (2 ^ j ||| M) 0 R == [i])) = true)
    (ho : all[i]? = some o) (hq : all[j]? = some q) (hS : S w)
    (h1 : Ops P ro n all [o] (fun s1 w1 => S w1 ∧ Ops P ro n all [q] (fun s2 w2 => ∃ b1 b2, s2 = upd (upd s d1 (f1 b1)) d2 (f2 b2) ∧ F b1 b2 w2) s1 w1) s w)
    (h2 : Ops P ro n all [q] (fun s1 w1 => S w1 ∧ Ops P ro n all [o] (fun s2 w2 => ∃ b1 b2, s2 = upd (upd s d2 (f2 b2)) d1 (f1 b1) ∧ F b1 b2 w2) s1 w1) s w)
    (hk : ∀ b1 b2 w2, F b1 b2 w2 → AnyF P ro n all S K R (fuel - 1 - 1) (2 ^ j ||| (2 ^ i ||| M)) (upd (upd s d1 (f1 b1)) d2 (f2 b2)) w2) : AnyF P ro n all S K R fuel M s w := by
  intro hR hn listed hl
  subst hR
  have hi : i < all.length := (List.getElem?_eq_some_iff.1 ho).1
  have hj : j < all.length := (List.getElem?_eq_some_iff.1 hq).1
  simp only [Bool.and_eq_true, beq_iff_eq] at hr
  obtain ⟨⟨⟨hf, r1⟩, r2⟩, r3⟩ := hr
  have hf : 1 < fuel := by simpa using hf
  have l1 := hl.set hi
  have l2 := hl.set hj
  rw [← ready_eq hl] at r1
  rw [← ready_eq l1] at r2
  rw [← ready_eq l2] at r3
  refine jjl i j (by simp [r1]; omega) ho hq hS (Ops1.mono h1 fun s1 w1 ⟨g1, g2⟩ => jjW j (by simp [r2]; omega) hq g1 (Ops1.mono g2 ?_)) (Ops1.mono h2 fun s1 w1 ⟨g1, g2⟩ => jjW i (by simp [r3]; omega) ho g1 (Ops1.mono g2 ?_))
  · rintro s2 w2 ⟨b1, b2, rfl, hF⟩
    exact hk b1 b2 w2 hF rfl hn _ (l1.set hj)
  · rintro s2 w2 ⟨b1, b2, rfl, hF⟩
    rw [upd_swap hne]
    have := l2.set hi
    rw [← Nat.or_assoc, Nat.or_comm (2 ^ i), Nat.or_assoc] at this
    exact hk b1 b2 w2 hF rfl hn _ this
end
/-- A region that draws its order, its rows told. -/
theorem W.drawF {P : Program} {ro : Option Nat} {n : Nat} {X : Ctx} {s : Sl} {ds : List Deferred} {w : World} {id : Nat} {ops : List Oper} [hm : Mixed P] (S : World → Prop) (R : List RowN) (hR : rowsOf ops = R) (hn : niceAll ops = true)
    (h : ∀ w1, Step w w1 → AnyF P ro n ops S (fun s' w' => X.nx s' ds w') R ops.length 0 s w1) : W P ro n (.region id ops.toArray true) X s ds w :=
  W.draw S fun w1 hS => h w1 hS hR hn _ ⟨by simp, fun j => by
    rw [Nat.zero_testBit]
    by_cases hj : j < ops.length
    · simp [Array.getD, hj]
    · simp [Array.getD, hj]⟩
end Go.Proofs.YtpijeomnplmakaaGreatDoor

/- The statements' examples: alive is true. -/
namespace Go.Proofs.YtpijeomnplmakaaGreatDoor
open Go.RowKit

/-- What the operations of the last region stand behind, set, look at. -/
def aliveR : List RowN := [(0, 4835703278458516698824704, 4), (1, 9671406556917033397649408, 4835703278458516698824704), (2, 19342813113834066795298816, 9671406556917033397649408), (4, 38685626227668133590597632, 19342813113834066795298818), (4,
  77371252455336267181195264, 19342813113834066795298816), (28, 154742504910672534362390528, 135399691796838467567091712), (36, 309485009821345068724781056, 174085318024506601157689344), (96, 618970019642690137449562112,
  309485009821345068724781056), (128, 1237940039285380274899124224, 618970019642690137449562128), (384, 2475880078570760549798248448, 1856910058928070412348686336), (640, 4951760157141521099596496896, 3094850098213450687247810560),
  (1152, 9903520314283042199192993792, 4951760157141521099596496896), (2048, 19807040628566084398385987584, 9903520314283042199192993800), (6144, 39614081257132168796771975168, 29710560942849126597578981376), (10240,
  79228162514264337593543950336, 49517601571415210995964968960), (18432, 158456325028528675187087900672, 79228162514264337593543950336), (32768, 316912650057057350374175801344, 158456325028528675187087900736), (98304,
  633825300114114700748351602688, 475368975085586025561263702016), (163840, 1267650600228229401496703205376, 792281625142643375935439503360), (294912, 2535301200456458802993406410752, 1267650600228229401496703205376), (524288,
  5070602400912917605986812821504, 2535301200456458802993406410784), (524288, 10141204801825835211973625643008, 2535301200456458802993406410752), (524288, 20282409603651670423947251286016, 2535301200456458802993406410752), (6815744,
  40564819207303340847894502572032, 32958915605933964438914283339776), (9961472, 81129638414606681695789005144064, 48170722808672717256874721804288), (17301504, 162259276829213363391578010288128, 83664939615063140498782411554816),
  (50331648, 324518553658426726783156020576256, 162259276829213363391578010288128), (67108864, 649037107316853453566312041152512, 324518553658426726783156020576512), (201326592, 1298074214633706907132624082305024,
  973555660975280180349468061728768), (335544320, 2596148429267413814265248164610048, 1622592768292133633915780102881280), (603979776, 5192296858534827628530496329220096, 2596148429267413814265248164610048), (1073741824,
  10384593717069655257060992658440192, 5192296858534827628530496329220224), (1073741824, 20769187434139310514121985316880384, 5192296858534827628530496329220096), (7516192768, 41538374868278621028243970633760768,
  36346078009743793399713474304540672), (9663676416, 83076749736557242056487941267521536, 46730671726813448656774466962980864), (25769803776, 166153499473114484112975882535043072, 83076749736557242056487941267521536), (34359738368,
  332306998946228968225951765070086144, 166153499473114484112975882535044096), (103079215104, 664613997892457936451903530140172288, 498460498419343452338927647605129216), (171798691840, 1329227995784915872903807060280344576,
  830767497365572420564879412675215360), (309237645312, 2658455991569831745807614120560689152, 1329227995784915872903807060280344576), (549755813888, 5316911983139663491615228241121378304, 2658455991569831745807614120560689664),
  (549755813888, 10633823966279326983230456482242756608, 2658455991569831745807614120560689152), (549755813888, 21267647932558653966460912964485513216, 2658455991569831745807614120560689152), (7146825580544,
  42535295865117307932921825928971026432, 34559927890407812695498983567288958976), (10445360463872, 85070591730234615865843651857942052864, 50510663839826803170344668290653093888), (18141941858304,
  170141183460469231731687303715884105728, 87729047721804447611651265978502742016), (52776558133248, 340282366920938463463374607431768211456, 170141183460469231731687303715884105728), (70368744177664,
  680564733841876926926749214863536422912, 340282366920938463463374607431768215552), (211106232532992, 1361129467683753853853498429727072845824, 1020847100762815390390123822295304634368), (351843720888320,
  2722258935367507707706996859454145691648, 1701411834604692317316873037158841057280), (633318697598976, 5444517870735015415413993718908291383296, 2722258935367507707706996859454145691648), (1125899906842624,
  10889035741470030830827987437816582766592, 5444517870735015415413993718908291385344), (1125899906842624, 21778071482940061661655974875633165533184, 5444517870735015415413993718908291383296), (7881299347898368,
  43556142965880123323311949751266331066368, 38111625095145107907897956032358039683072), (10133099161583616, 87112285931760246646623899502532662132736, 49000660836615138738725943470174622449664), (27021597764222976,
  174224571863520493293247799005065324265472, 87112285931760246646623899502532662132736), (36028797018963968, 348449143727040986586495598010130648530944, 174224571863520493293247799005065324281856), (108086391056891904,
  696898287454081973172991196020261297061888, 522673715590561479879743397015195972796416), (180143985094819840, 1393796574908163946345982392040522594123776, 871122859317602466466238995025326621327360), (324259173170675712,
  2787593149816327892691964784081045188247552, 1393796574908163946345982392040522594123776), (576460752303423488, 5575186299632655785383929568162090376495104, 2787593149816327892691964784081045188255744), (576460752303423488,
  11150372599265311570767859136324180752990208, 2787593149816327892691964784081045188247552), (4035225266123964416, 22300745198530623141535718272648361505980416, 19513152048714295248843753488567316317732864), (5188146770730811392,
  44601490397061246283071436545296723011960832, 25088338348346951034227683056729406694227968), (13835058055282163712, 89202980794122492566142873090593446023921664, 44601490397061246283071436545296723011960832),
  (18446744073709551616, 178405961588244985132285746181186892047843328, 89202980794122492566142873090593446023987200), (55340232221128654848, 356811923176489970264571492362373784095686656,
  267608942382367477698428619271780338071764992), (92233720368547758080, 713623846352979940529142984724747568191373312, 446014903970612462830714365452967230119608320), (166020696663385964544,
  1427247692705959881058285969449495136382746624, 713623846352979940529142984724747568191373312), (295147905179352825856, 2854495385411919762116571938898990272765493248, 1427247692705959881058285969449495136382779392),
  (295147905179352825856, 5708990770823839524233143877797980545530986496, 1427247692705959881058285969449495136382746624), (295147905179352825856, 11417981541647679048466287755595961091061972992,
  1427247692705959881058285969449495136382746624), (3836922767331586736128, 22835963083295358096932575511191922182123945984, 18554220005177478453757717602843436772975706112), (5607810198407703691264,
  45671926166590716193865151022383844364247891968, 27117706161413237740107433419540407591272185856), (9739880870918643253248, 91343852333181432387730302044767688728495783936, 47099173859296676074923436991833339500630638592),
  (28334198897217871282176, 182687704666362864775460604089535377456991567872, 91343852333181432387730302044767688728495783936), (37778931862957161709568, 365375409332725729550921208179070754913983135744,
  182687704666362864775460604089535377456991830016), (113336795588871485128704, 730750818665451459101842416358141509827966271488, 548063113999088594326381812268606132370974703616), (188894659314785808547840,
  1461501637330902918203684832716283019655932542976, 913438523331814323877303020447676887284957839360), (340010386766614455386112, 2923003274661805836407369665432566039311865085952,
  1461501637330902918203684832716283019655932542976), (604462909807314587353088, 5846006549323611672814739330865132078623730171904, 2923003274661805836407369665432566039311865217024), (604462909807314587353088,
  11692013098647223345629478661730264157247460343808, 2923003274661805836407369665432566039311865085952), (4231240368651202111471616, 23384026197294446691258957323460528314494920687616,
  20461022922632640854851587658027962275183055601664), (5440166188265831286177792, 46768052394588893382517914646921056628989841375232, 26307029471956252527666326988893094353806785773568), (14507109835375550096474112,
  93536104789177786765035829293842113257979682750464, 46768052394588893382517914646921056628989841375232), (19342813113834066795298816, 187072209578355573530071658587684226515959365500928,
  93536104789177786765035829293842113257979683799040), (58028439341502200385896448, 374144419156711147060143317175368453031918731001856, 280608314367533360295107487881526339773939048251392), (96714065569170333976494080,
  748288838313422294120286634350736906063837462003712, 467680523945888933825179146469210566289898413752320), (174085318024506601157689344, 1496577676626844588240573268701473812127674924007424,
  748288838313422294120286634350736906063837462003712), (309485009821345068724781056, 2993155353253689176481146537402947624255349848014848, 1496577676626844588240573268701473812127674924531712), (309485009821345068724781056,
  5986310706507378352962293074805895248510699696029696, 1496577676626844588240573268701473812127674924007424), (2166395068749415481073467392, 11972621413014756705924586149611790497021399392059392,
  10476043736387912117684012880910316684893724468051968), (2785365088392105618523029504, 23945242826029513411849172299223580994042798784118784, 13469199089641601294165159418313264309149074316066816), (7427640235712281649394745344,
  47890485652059026823698344598447161988085597568237568, 23945242826029513411849172299223580994042798784118784), (9903520314283042199192993792, 95780971304118053647396689196894323976171195136475136,
  47890485652059026823698344598447161988085597576626176), (29710560942849126597578981376, 191561942608236107294793378393788647952342390272950272, 143671456956177080471095033795341485964256792704712704),
  (49517601571415210995964968960, 383123885216472214589586756787577295904684780545900544, 239452428260295134118491722992235809940427987841187840), (89131682828547379792736944128,
  766247770432944429179173513575154591809369561091801088, 383123885216472214589586756787577295904684780545900544), (158456325028528675187087900672, 1532495540865888858358347027150309183618739122183602176,
  766247770432944429179173513575154591809369561095995392), (475368975085586025561263702016, 3064991081731777716716694054300618367237478244367204352, 2298743311298833287537520540725463775428108683275403264),
  (792281625142643375935439503360, 6129982163463555433433388108601236734474956488734408704, 3831238852164722145895867567875772959046847805459005440), (1426106925256758076683791106048,
  12259964326927110866866776217202473468949912977468817408, 6129982163463555433433388108601236734474956488734408704), (2535301200456458802993406410752, 24519928653854221733733552434404946937899825954937634816,
  12259964326927110866866776217202473468949912977470914560), (7605903601369376408980219232256, 49039857307708443467467104868809893875799651909875269632, 36779892980781332600600328651607420406849738932406452224),
  (12676506002282294014967032053760, 98079714615416886934934209737619787751599303819750539264, 61299821634635554334333881086012367344749564887344087040), (22817710804108129226940657696768,
  196159429230833773869868419475239575503198607639501078528, 110339678942343997801800985954822261220549216797219356672), (43100120407759799650887908982784, 392318858461667547739736838950479151006397215279002157056,
  196159429230833773869868419475239575503198607639501078528), (81129638414606681695789005144064, 784637716923335095479473677900958302012794430558004314112, 392318858461667547739736838950479151006397215279004254208),
  (243388915243820045087367015432192, 1569275433846670190958947355801916604025588861116008628224, 1176956575385002643219210516851437453019191645837006471168), (405648192073033408478945025720320,
  3138550867693340381917894711603833208051177722232017256448, 1961594292308337738698684194752395755031986076395010785280), (730166745731460135262101046296576, 6277101735386680763835789423207666416102355444464034512896,
  3530869726155007929657631550554312359057574937511019413504), (1379203853048313588828413087449088, 12554203470773361527671578846415332832204710888928069025792, 6669420593848348311575526262158145567108752659743036669952),
  (2677278067682020495961037169754112, 25108406941546723055343157692830665664409421777856138051584, 12946522329235029075411315685365811983211108104207071182848), (5273426496949434310226285334364160,
  50216813883093446110686315385661331328818843555712276103168, 25108406941546723055343157692830665664409421777856138051584), (10384593717069655257060992658440192, 100433627766186892221372630771322662657637687111424552206336,
  50216813883093446110686315385661331328818843555712278200320), (31153781151208965771182977975320576, 200867255532373784442745261542645325315275374222849104412672, 150650441649280338332058946156983993986456530667136828309504),
  (51922968585348276285304963292200960, 401734511064747568885490523085290650630550748445698208825344, 251084069415467230553431576928306656644094217778561380515840), (93461343453626897313548933925961728,
  803469022129495137770981046170581301261101496891396417650688, 451951324947841014996176838470951981959369592001410484928512), (176538093190184139370036875193483264, 1606938044258990275541962092341162602522202993782792835301376,
  853685836012588583881667361556242632589920340447108693753856), (342691592663298623483012757728526336, 3213876088517980551083924184682325205044405987565585670602752, 1657154858142083721652648407726823933851021837338505111404544),
  (674998591609527591708964522798612480, 6427752177035961102167848369364650410088811975131171341205504, 3213876088517980551083924184682325205044405987565585670602752), (1329227995784915872903807060280344576,
  12855504354071922204335696738729300820177623950262342682411008, 6427752177035961102167848369364650410088811975131171343302656), (3987683987354747618711421180841033728,
  25711008708143844408671393477458601640355247900524685364822016, 19283256531107883306503545108093951230266435925393514023616512), (6646139978924579364519035301401722880,
  51422017416287688817342786954917203280710495801049370729644032, 32138760885179805510839241846823252050444059875655856706027520), (1329227995784915872903807060280344576,
  102844034832575377634685573909834406561420991602098741459288064, 6427752177035961102167848369364650410088811975131171341205504), (22596875928343569839364720024765857792,
  205688069665150755269371147819668813122841983204197482918576128, 109271787009611338736853422279199056971509803577229912800493568), (43864523860902223805825632989251371008,
  411376139330301510538742295639337626245683966408394965837152256, 212115821842186716371538996189033463532930795179328654259781632), (97033643692298858721977915400465154048,
  822752278660603021077484591278675252491367932816789931674304512, 469225908923625160458252930963619479936483274184575507908001792), (171470411456254147604591110776164450304,
  1645504557321206042154969182557350504982735865633579863348609024, 829180030837638982179652439648039902901456744791921103015510016), (361550014853497117429835520396253724672,
  3291009114642412084309938365114701009965471731267159726697218048, 1645504557321206042154969182557350504982735865633579863348609024), (680564733841876926926749214863536422912,
  6582018229284824168619876730229402019930943462534319453394436096, 3291009114642412084309938365114701009965471731267159726699315200), (2041694201525630780780247644590609268736,
  13164036458569648337239753460458804039861886925068638906788872192, 9873027343927236252929815095344103029896415193801479180091654144), (3402823669209384634633746074317682114560,
  26328072917139296674479506920917608079723773850137277813577744384, 16455045573212060421549691825573505049827358656335798633486090240), (680564733841876926926749214863536422912,
  52656145834278593348959013841835216159447547700274555627155488768, 3291009114642412084309938365114701009965471731267159726697218048), (11569600475311907757754736652680119189504,
  105312291668557186697918027683670432318895095400549111254310977536, 55947154948921005433268952206949917169413019431541715353852706816), (22458636216781938588582724090496701956096,
  210624583337114373395836055367340864637790190801098222508621955072, 108603300783199598782227966048785133328860567131816270981008195584), (49681225570457015665652692685038158872576,
  421249166674228746791672110734681729275580381602196445017243910144, 240243665368896082154625500653373173727479436382502660048896917504), (87792850665602123573550648717396198555648,
  842498333348457493583344221469363458551160763204392890034487820288, 424540175788871158875982049099796430285545853333463604743941128192), (348449143727040986586495598010130648530943, 1,
  842498333348457493583344221469363458551160763204392890034487820288)]

section
variable (w : World) [hgb : At w 0 0 bysC] [hmx : MxI w]
omit hgb hmx in
theorem same_ex (a : Option Addr) (c b n : Nat) (xs : List Int) (hn : n = xs.length) (hx : n ≤ 100) (h1 : RowV w false 1 (.slice a n c) (xs.map intV)) (h2 : Bk w b (xs.map intV) 3) : Ct Tryz.prog 51 [.slice a n c, .slice (some ⟨b, 0, none⟩) n n] w fun v _ => v = .bool true := by
  subst hn
  have i1 : RowI w (.slice a xs.length c) false 1 (xs.map intV) := ⟨h1⟩
  have i2 : RowI w (.slice (some ⟨b, 0, none⟩) xs.length xs.length) false 1 (xs.map intV) := ⟨by have := h2.row (fun x hx => by obtain ⟨y, _, rfl⟩ := List.mem_map.1 hx; rfl) (by rw [List.length_map]; omega); rwa [List.length_map] at this⟩
  exact (same_law6 a (some ⟨b, 0, none⟩) c xs.length xs xs w).mono fun v _ _ e => e.trans (by rw [decide_eq_true rfl])
set_option maxRecDepth 20000 in
set_option maxHeartbeats 16000000 in
theorem alive_law6 : Ct Tryz.prog 13 [] w fun v _ => v = .bool true := by
  refine Ct.ofW (by simp) ?_
  (refine jjB ?_; refine jjC ?_; apply jJ; exact eB rfl; refine jz ?_; refine jjB ?_; refine jjC ?_)
  refine jjQ (deck_law6 _) rfl rfl ?_
  rintro _ w1 hS1 ⟨d1, rfl, hD1⟩
  skip
  refine jjQ (ex_runs d1 _ hD1) rfl rfl ?_
  rintro _ w2 hS2 ⟨a2, c2, rfl, hR2⟩
  (apply jI; exact eU rfl; refine ju rfl rfl ?_; refine ju rfl rfl ?_; apply jJ; exact eS rfl; apply jJ; exact eI rfl; refine jz ?_; refine jjB ?_; refine jjC ?_)
  refine jjQ (deck_law6 _) rfl rfl ?_
  rintro _ w3 hS3 ⟨d3, rfl, hD3⟩
  skip
  refine jjQ (ex_passes2 d3 _ hD3) rfl rfl ?_
  rintro _ w4 hS4 rfl
  (apply jI; exact eU rfl; refine ju rfl rfl ?_; refine ju rfl rfl ?_; apply jJ; exact eI rfl; apply jJ; exact eI rfl; refine jz ?_; refine jjB ?_; refine jjC ?_)
  refine jjQ (deck_law6 _) rfl rfl ?_
  rintro _ w5 hS5 ⟨d5, rfl, hD5⟩
  skip
  refine jjQ (ex_plan2 d5 _ hD5) rfl rfl ?_
  rintro _ w6 hS6 ⟨a6, c6, rs, rfl, hrs, hP6, hI6⟩
  have iP6 : RowI w6 (.slice a6 rs.length c6) false 1 (rs.map encW) := ⟨hP6⟩
  (apply jI; exact eU rfl; refine ju rfl rfl ?_; refine ju rfl rfl ?_; apply jJ; exact eS rfl; apply jJ; exact eI rfl; refine jz ?_; refine jjB ?_; refine jjC ?_)
  refine jjQ (deck_law6 _) rfl rfl ?_
  rintro _ w7 hS7 ⟨d7, rfl, hD7⟩
  (apply jI; exact eS rfl)
  refine jjQ (ex_sort d7 _ hD7 a6 c6 rs hrs) rfl rfl ?_
  rintro _ w8 hS8 ⟨a8, c8, rfl, hR8⟩
  (apply jI; exact eU rfl; refine ju rfl rfl ?_; refine ju rfl rfl ?_; apply jJ; exact eS rfl; apply jJ; exact eI rfl; refine jz ?_; refine jjB ?_; refine jjC ?_)
  refine jjQ (deck_law6 _) rfl rfl ?_
  rintro _ w9 hS9 ⟨d9, rfl, hD9⟩
  skip
  refine jjQ (ex_proof2 d9 _ hD9) rfl rfl ?_
  rintro _ w10 hS10 ⟨a10, c10, rfl, hR10⟩
  (apply jI; exact eU rfl; refine ju rfl rfl ?_; refine ju rfl rfl ?_; apply jJ; exact eS rfl; apply jJ; exact eI rfl; refine jz ?_; refine jjB ?_; refine jjC ?_)
  refine jjQ (deck_law6 _) rfl rfl ?_
  rintro _ w11 hS11 ⟨d11, rfl, hD11⟩
  skip
  refine jjQ (ex_keep d11 _ hD11) rfl rfl ?_
  rintro _ w12 hS12 ⟨a12, c12, rfl, hR12⟩
  (apply jI; exact eU rfl; refine ju rfl rfl ?_; refine ju rfl rfl ?_; apply jJ; exact eS rfl; apply jJ; exact eI rfl; refine jz ?_; refine jjB ?_; refine jjC ?_)
  refine jjQ (deck_law6 _) rfl rfl ?_
  rintro _ w13 hS13 ⟨d13, rfl, hD13⟩
  skip
  refine jjQ (ex_chains d13 _ hD13) rfl rfl ?_
  rintro _ w14 hS14 ⟨a14, c14, rfl, hR14⟩
  (apply jI; exact eU rfl; refine ju rfl rfl ?_; refine ju rfl rfl ?_; apply jJ; exact eS rfl; apply jJ; exact eI rfl; refine jz ?_; refine jjB ?_; refine jjC ?_)
  refine jjQ (deck_law6 _) rfl rfl ?_
  rintro _ w15 hS15 ⟨d15, rfl, hD15⟩
  skip
  refine jjQ (ex_mend d15 _ hD15) rfl rfl ?_
  rintro _ w16 hS16 ⟨a16, c16, rfl, hR16⟩
  (apply jI; exact eU rfl; refine ju rfl rfl ?_; refine ju rfl rfl ?_; apply jJ; exact eS rfl; apply jJ; exact eI rfl; refine jz ?_; refine jjB ?_; refine jjC ?_)
  refine jjQ (deck_law6 _) rfl rfl ?_
  rintro _ w17 hS17 ⟨d17, rfl, hD17⟩
  (apply jI; exact eS rfl)
  refine jjQ (ex_moved d17 _ hD17 a16 c16 (hR16.ext hS17.ext)) rfl rfl ?_
  rintro _ w18 hS18 ⟨a18, c18, rfl, hR18⟩
  (apply jI; exact eU rfl; refine ju rfl rfl ?_; refine ju rfl rfl ?_; apply jJ; exact eS rfl; apply jJ; exact eI rfl; refine jz ?_; refine jjB ?_; refine jjC ?_)
  refine jjQ (slips_law6 _) rfl rfl ?_
  rintro _ w19 hS19 ⟨d19, rfl, hD19⟩
  skip
  refine jjQ (ex_ranks d19 _ hD19) rfl rfl ?_
  rintro _ w20 hS20 ⟨a20, c20, rfl, hR20⟩
  (apply jI; exact eU rfl; refine ju rfl rfl ?_; refine ju rfl rfl ?_; apply jJ; exact eS rfl; apply jJ; exact eI rfl; refine jz ?_; refine jjB ?_; refine jjC ?_)
  refine jjQ (slips_law6 _) rfl rfl ?_
  rintro _ w21 hS21 ⟨d21, rfl, hD21⟩
  skip
  refine jjQ (ex_file d21 _ hD21) rfl rfl ?_
  rintro _ w22 hS22 ⟨a22, c22, rfl, hR22⟩
  (apply jI; exact eU rfl; refine ju rfl rfl ?_; refine ju rfl rfl ?_; refine ju rfl rfl ?_; apply jJ; exact eS rfl; apply jJ; exact eI rfl; apply jJ; exact eI rfl; refine jz ?_; refine jjB ?_)
  have e4 : fileL exS 2 2 = [((0, 0, 0), xAnd, ⟨#[]⟩, ⟨#[]⟩), ((0, 0, 0), xOld, ⟨#[]⟩, ⟨#[]⟩), ((0, 0, 0), xSea, ⟨#[]⟩, ⟨#[]⟩), ((0, 0, 0), xSea, ⟨#[]⟩, xIs)] := exS_file
  rw [e4] at hR22
  obtain ⟨pb, po, rfl, -⟩ := hR22.place' (j := 0) rfl
  have P0 : At w22 pb (po + 0 * 6) [.int .i64 0, .int .i64 0, .int .i64 0, .string xAnd, .string ⟨#[]⟩, .string ⟨#[]⟩] := place_k hR22 (j := 0) rfl
  have P1 : At w22 pb (po + 1 * 6) [.int .i64 0, .int .i64 0, .int .i64 0, .string xOld, .string ⟨#[]⟩, .string ⟨#[]⟩] := place_k hR22 (j := 1) rfl
  have P2 : At w22 pb (po + 2 * 6) (encSl exS[0]).cells.toList := place_k hR22 (j := 2) rfl
  have P3 : At w22 pb (po + 3 * 6) (encSl exS[2]).cells.toList := place_k hR22 (j := 3) rfl
  have i10 : RowI w22 (.slice a10 ([(3, 2), (2, 0)] : List (Int × Int)).length c10) true 2 (([(3, 2), (2, 0)] : List (Int × Int)).map encII) := ⟨hR10.ext inferInstance⟩
  have i16 : RowI w22 (.slice a16 ([(0, 3), (2, 1)] : List (Int × Int)).length c16) true 2 (([(0, 3), (2, 1)] : List (Int × Int)).map encII) := ⟨hR16.ext inferInstance⟩
  have hl2 : rs.length = 2 := by have := congrArg List.length hrs; simpa using this
  have iP22 : RowI w22 (.slice a6 rs.length c6) false 1 (rs.map encW) := inferInstance
  have iI22 : RowsI w22 rs := hI6.ext inferInstance
  refine W.keep0 [(1, .slice a2 4 c2), (2, .int .i64 0), (3, .int .i64 2), (4, .int .i64 0), (5, .slice a6 rs.length c6), (6, .int .i64 0), (7, .slice a8 4 c8), (8, .int .i64 0), (9, .slice a10 2 c10), (10, .int .i64 0), (11, .slice a12 2 c12), (12, .int .i64 0), (13, .slice a14 4 c14), (14, .int .i64 0), (15, .slice a16 2 c16), (16, .int .i64 0), (17, .slice a18 4 c18), (18, .int .i64 0), (19, .slice a20 4 c20), (20, .int .i64 0), (21, .slice (some ⟨pb, po, none⟩) 4 c22), (22, .int .i64 2), (23, .int .i64 0)] ⟨eS rfl, eI rfl, eI rfl, eI rfl, eS rfl, eI rfl, eS rfl, eI rfl, eS rfl, eI rfl, eS rfl, eI rfl, eS rfl, eI rfl, eS rfl, eI rfl, eS rfl, eI rfl, eS rfl, eI rfl, eS rfl, eI rfl, eI rfl, trivial⟩ fun s0 => ?_
  refine W.drawF (fun w' => Ext w22 w') aliveR (by decide +kernel) (by decide +kernel) ?_
  intro w23 hS23
  refine AnyF.take [0, 1, 2, 3] (by decide +kernel) inferInstance ?_
  (((apply jjT; exact rfl; rintro w' hq; have := hq.toStep; apply jI; exact eI rfl; refine jz ?_; exact ⟨rfl, rfl⟩; apply jjT; exact rfl; rintro w' hq; have := hq.toStep; refine jjh rfl rfl (by omega) ?_; refine jz ?_; exact ⟨rfl, rfl⟩; apply jjT; exact rfl; rintro w' hq; have := hq.toStep; apply jI; exact eB rfl; refine jz ?_; exact ⟨rfl, rfl⟩; apply jjT; exact rfl; rintro w' hq; have := hq.toStep; refine jT rfl rfl rfl ?_; apply jI; exact eS rfl; refine jz ?_; exact ⟨rfl, rfl⟩; refine jjU ?_)))
  (apply AnyF.one 4; (decide +kernel); exact rfl; (exact inferInstance))
  refine jT rfl rfl rfl ?_
  refine Ops.buildSliceF (cells := [.int .i64 2, .int .i64 0, .int .i64 1, .int .i64 0]) rfl rfl rfl ?_
  intro b24 w24 hb24 hs24 hS24 hk24
  refine jz ?_
  (apply AnyF.one 5; (decide +kernel); exact rfl; (exact inferInstance))
  refine jT rfl rfl rfl ?_
  refine jjQ (same_ex _ a2 c2 b24 4 [2, 0, 1, 0] rfl (by decide) (hR2.ext inferInstance) hk24) rfl rfl ?_
  rintro _ w25 hS25 rfl
  refine jz ?_
  refine AnyF.take [6, 7, 8, 9, 10, 11, 12, 13, 14, 15, 16, 17, 18, 19, 20] (by decide +kernel) inferInstance ?_
  (((apply jjT; exact rfl; rintro w' hq; have := hq.toStep; apply jK rfl; exact eB rfl; refine jz ?_; exact ⟨rfl, rfl⟩; apply jjT; exact rfl; rintro w' hq; have := hq.toStep; apply jI; exact eB rfl; refine jz ?_; exact ⟨rfl, rfl⟩; apply jjT; exact rfl; rintro w' hq; have := hq.toStep; refine jT rfl rfl rfl ?_; apply jI; exact eI rfl; refine jz ?_; exact ⟨rfl, rfl⟩; apply jjT; exact rfl; rintro w' hq; have := hq.toStep; refine jT rfl rfl rfl ?_; refine jjh rfl rfl (by omega) ?_; refine jz ?_; exact ⟨rfl, rfl⟩; apply jjT; exact rfl; rintro w' hq; have := hq.toStep; apply jK rfl; exact eB rfl; refine jz ?_; exact ⟨rfl, rfl⟩; apply jjT; exact rfl; rintro w' hq; have := hq.toStep; apply jI; exact eB rfl; refine jz ?_; exact ⟨rfl, rfl⟩; apply jjT; exact rfl; rintro w' hq; have := hq.toStep; refine jT rfl rfl rfl ?_; apply jI; exact eI rfl; refine jz ?_; exact ⟨rfl, rfl⟩; apply jjT; exact rfl; rintro w' hq; have := hq.toStep; refine jT rfl rfl rfl ?_; refine jjh rfl rfl (by omega) ?_; refine jz ?_; exact ⟨rfl, rfl⟩; apply jjT; exact rfl; rintro w' hq; have := hq.toStep; apply jK rfl; exact eB rfl; refine jz ?_; exact ⟨rfl, rfl⟩; apply jjT; exact rfl; rintro w' hq; have := hq.toStep; apply jI; exact eB rfl; refine jz ?_; exact ⟨rfl, rfl⟩; apply jjT; exact rfl; rintro w' hq; have := hq.toStep; refine jT rfl rfl rfl ?_; apply jI; exact eI rfl; refine jz ?_; exact ⟨rfl, rfl⟩; apply jjT; exact rfl; rintro w' hq; have := hq.toStep; refine jT rfl rfl rfl ?_; refine jjh rfl rfl (by omega) ?_; refine jz ?_; exact ⟨rfl, rfl⟩; apply jjT; exact rfl; rintro w' hq; have := hq.toStep; apply jK rfl; exact eB rfl; refine jz ?_; exact ⟨rfl, rfl⟩; apply jjT; exact rfl; rintro w' hq; have := hq.toStep; apply jI; exact eB rfl; refine jz ?_; exact ⟨rfl, rfl⟩; apply jjT; exact rfl; rintro w' hq; have := hq.toStep; refine jT rfl rfl rfl ?_; apply jI; exact eS rfl; refine jz ?_; exact ⟨rfl, rfl⟩; refine jjU ?_)))
  refine AnyF.joinB 21 22 (d1 := 103) (d2 := 104) (by decide) (fun b => .slice (some ⟨b, 0, none⟩) 4 4) (fun b => .slice (some ⟨b, 0, none⟩) 4 4) (fun b1 b2 w2 => Ext w25 w2 ∧ Bk w2 b1 [.int .i64 0, .int .i64 0, .int .i64 1, .int .i64 0] 3 ∧ Bk w2 b2 [.int .i64 1, .int .i64 0, .int .i64 0, .int .i64 0] 3) (by decide +kernel) rfl rfl inferInstance ?_ ?_ ?_
  · refine jT rfl rfl rfl ?_
    refine Ops.buildSliceF (cells := [.int .i64 0, .int .i64 0, .int .i64 1, .int .i64 0]) rfl rfl rfl ?_
    intro b1 w1' hb1 hs1 hS1' hk1
    refine jz ?_
    refine ⟨inferInstance, ?_⟩
    refine jT rfl rfl rfl ?_
    refine Ops.buildSliceF (cells := [.int .i64 1, .int .i64 0, .int .i64 0, .int .i64 0]) rfl rfl rfl ?_
    intro b2 w2' hb2 hs2 hS2' hk2
    refine jz ?_
    exact ⟨b1, b2, rfl, inferInstance, inferInstance, inferInstance⟩
  · refine jT rfl rfl rfl ?_
    refine Ops.buildSliceF (cells := [.int .i64 1, .int .i64 0, .int .i64 0, .int .i64 0]) rfl rfl rfl ?_
    intro b1 w1' hb1 hs1 hS1' hk1
    refine jz ?_
    refine ⟨inferInstance, ?_⟩
    refine jT rfl rfl rfl ?_
    refine Ops.buildSliceF (cells := [.int .i64 0, .int .i64 0, .int .i64 1, .int .i64 0]) rfl rfl rfl ?_
    intro b2 w2' hb2 hs2 hS2' hk2
    refine jz ?_
    exact ⟨b2, b1, rfl, inferInstance, inferInstance, inferInstance⟩
  rintro b26 b27 w27 ⟨hE27, kk1, kk2⟩
  have hS27 := hE27.toStep
  (apply AnyF.one 23; (decide +kernel); exact rfl; (exact inferInstance))
  refine jT rfl rfl rfl ?_
  refine Ops.buildSliceF (cells := [.slice (some ⟨b26, 0, none⟩) 4 4, .slice (some ⟨b27, 0, none⟩) 4 4]) rfl rfl rfl ?_
  intro b28 w28 hb28 hs28 hS28 hk28
  refine jz ?_
  obtain ⟨ts, hts⟩ : ∃ ts : List Rw, ts = [(some ⟨b26, 0, none⟩, 4, [0, 0, 1, 0]), (some ⟨b27, 0, none⟩, 4, [1, 0, 0, 0])] := ⟨_, rfl⟩
  have it : RowI w28 (.slice (some ⟨b28, 0, none⟩) ts.length 2) false 1 (ts.map encW) := ⟨by subst hts; exact hk28.row (fun x hx => by simp at hx; rcases hx with rfl | rfl <;> rfl) (by simp)⟩
  have k1 : Bk w28 b26 [.int .i64 0, .int .i64 0, .int .i64 1, .int .i64 0] 3 := inferInstance
  have k2 : Bk w28 b27 [.int .i64 1, .int .i64 0, .int .i64 0, .int .i64 0] 3 := inferInstance
  have its : RowsI w28 ts := ⟨by
    subst hts
    intro x hx
    simp only [List.mem_cons, List.not_mem_nil, or_false] at hx
    rcases hx with rfl | rfl
    · exact k1.row (fun x hx => by simp at hx; rcases hx with rfl | rfl | rfl | rfl <;> rfl) (by simp)
    · exact k2.row (fun x hx => by simp at hx; rcases hx with rfl | rfl | rfl | rfl <;> rfl) (by simp)⟩
  have ets : ts.length = 2 := by rw [hts]; rfl
  have iP27 : RowI w28 (.slice a6 rs.length c6) false 1 (rs.map encW) := inferInstance
  have iI27 : RowsI w28 rs := inferInstance
  (apply AnyF.one 24; (decide +kernel); exact rfl; (exact inferInstance))
  refine jT rfl rfl rfl ?_
  refine jjQ (SameLists_yes a6 c6 rs _ (some ⟨b28, 0, none⟩) 2 ts (by rw [hrs, hts]; rfl) (by omega)) rfl (by rw [ets]; rfl) ?_
  rintro _ w29 hS29 rfl
  refine jz ?_
  refine AnyF.take [25, 26, 27, 28, 29, 30, 31] (by decide +kernel) inferInstance ?_
  (((apply jjT; exact rfl; rintro w' hq; have := hq.toStep; apply jK rfl; exact eB rfl; refine jz ?_; exact ⟨rfl, rfl⟩; apply jjT; exact rfl; rintro w' hq; have := hq.toStep; apply jI; exact eB rfl; refine jz ?_; exact ⟨rfl, rfl⟩; apply jjT; exact rfl; rintro w' hq; have := hq.toStep; refine jT rfl rfl rfl ?_; apply jI; exact eI rfl; refine jz ?_; exact ⟨rfl, rfl⟩; apply jjT; exact rfl; rintro w' hq; have := hq.toStep; refine jT rfl rfl rfl ?_; refine jjh rfl rfl (by omega) ?_; refine jz ?_; exact ⟨rfl, rfl⟩; apply jjT; exact rfl; rintro w' hq; have := hq.toStep; apply jK rfl; exact eB rfl; refine jz ?_; exact ⟨rfl, rfl⟩; apply jjT; exact rfl; rintro w' hq; have := hq.toStep; apply jI; exact eB rfl; refine jz ?_; exact ⟨rfl, rfl⟩; apply jjT; exact rfl; rintro w' hq; have := hq.toStep; refine jT rfl rfl rfl ?_; apply jI; exact eS rfl; refine jz ?_; exact ⟨rfl, rfl⟩; refine jjU ?_)))
  (apply AnyF.one 32; (decide +kernel); exact rfl; (exact inferInstance))
  refine jT rfl rfl rfl ?_
  refine Ops.buildSliceF (cells := [.int .i64 1, .int .i64 3, .int .i64 2, .int .i64 0]) rfl rfl rfl ?_
  intro b30 w30 hb30 hs30 hS30 hk30
  refine jz ?_
  (apply AnyF.one 33; (decide +kernel); exact rfl; (exact inferInstance))
  refine jT rfl rfl rfl ?_
  refine jjQ (same_ex _ a8 c8 b30 4 [1, 3, 2, 0] rfl (by decide) (hR8.ext inferInstance) hk30) rfl rfl ?_
  rintro _ w31 hS31 rfl
  refine jz ?_
  refine AnyF.take [34, 35, 36, 37, 38, 39, 40] (by decide +kernel) inferInstance ?_
  (((apply jjT; exact rfl; rintro w' hq; have := hq.toStep; apply jK rfl; exact eB rfl; refine jz ?_; exact ⟨rfl, rfl⟩; apply jjT; exact rfl; rintro w' hq; have := hq.toStep; apply jI; exact eB rfl; refine jz ?_; exact ⟨rfl, rfl⟩; apply jjT; exact rfl; rintro w' hq; have := hq.toStep; refine jT rfl rfl rfl ?_; apply jI; exact eI rfl; refine jz ?_; exact ⟨rfl, rfl⟩; apply jjT; exact rfl; rintro w' hq; have := hq.toStep; refine jT rfl rfl rfl ?_; refine jjh rfl rfl (by omega) ?_; refine jz ?_; exact ⟨rfl, rfl⟩; apply jjT; exact rfl; rintro w' hq; have := hq.toStep; apply jK rfl; exact eB rfl; refine jz ?_; exact ⟨rfl, rfl⟩; apply jjT; exact rfl; rintro w' hq; have := hq.toStep; apply jI; exact eB rfl; refine jz ?_; exact ⟨rfl, rfl⟩; apply jjT; exact rfl; rintro w' hq; have := hq.toStep; refine jT rfl rfl rfl ?_; apply jI; exact eS rfl; refine jz ?_; exact ⟨rfl, rfl⟩; refine jjU ?_)))
  refine AnyF.take [41] (by decide +kernel) inferInstance (jjT (v := encII (3, 2)) rfl (fun w' q1 => ?_) (jjU ?_)); (refine jT rfl rfl rfl ?_; (refine jjS (cells := [.int .i64 3, .int .i64 2]) ?_ ?_; exact rfl); refine jz ?_; exact ⟨rfl, rfl⟩)
  refine AnyF.take [42] (by decide +kernel) inferInstance (jjT (v := encII (2, 0)) rfl (fun w' q1 => ?_) (jjU ?_)); (refine jT rfl rfl rfl ?_; (refine jjS (cells := [.int .i64 2, .int .i64 0]) ?_ ?_; exact rfl); refine jz ?_; exact ⟨rfl, rfl⟩)
  (apply AnyF.one 43; (decide +kernel); exact rfl; (exact inferInstance))
  refine jT rfl rfl rfl ?_
  refine Ops.buildSliceF (cells := [.int .i64 3, .int .i64 2, .int .i64 2, .int .i64 0]) rfl rfl rfl ?_
  intro b32 w32 hb32 hs32 hS32 hk32
  refine jz ?_
  have i32' : RowI w32 (.slice (some ⟨b32, 0, none⟩) ([(3, 2), (2, 0)] : List (Int × Int)).length 2) true 2 (([(3, 2), (2, 0)] : List (Int × Int)).map encII) := ⟨Bk.rows (xs := ([(3, 2), (2, 0)] : List (Int × Int)).map encII) hk32 (by simp [fitsV, encII]) (by simp)⟩
  (apply AnyF.one 44; (decide +kernel); exact rfl; (exact inferInstance))
  refine jT rfl rfl rfl ?_
  refine jjQ (SamePairs_yes a10 (some ⟨b32, 0, none⟩) c10 2 [(3, 2), (2, 0)] _ (by decide)) rfl rfl ?_
  rintro _ w33 hS33 rfl
  refine jz ?_
  refine AnyF.take [45, 46, 47, 48, 49, 50, 51] (by decide +kernel) inferInstance ?_
  (((apply jjT; exact rfl; rintro w' hq; have := hq.toStep; apply jK rfl; exact eB rfl; refine jz ?_; exact ⟨rfl, rfl⟩; apply jjT; exact rfl; rintro w' hq; have := hq.toStep; apply jI; exact eB rfl; refine jz ?_; exact ⟨rfl, rfl⟩; apply jjT; exact rfl; rintro w' hq; have := hq.toStep; refine jT rfl rfl rfl ?_; apply jI; exact eI rfl; refine jz ?_; exact ⟨rfl, rfl⟩; apply jjT; exact rfl; rintro w' hq; have := hq.toStep; refine jT rfl rfl rfl ?_; refine jjh rfl rfl (by omega) ?_; refine jz ?_; exact ⟨rfl, rfl⟩; apply jjT; exact rfl; rintro w' hq; have := hq.toStep; apply jK rfl; exact eB rfl; refine jz ?_; exact ⟨rfl, rfl⟩; apply jjT; exact rfl; rintro w' hq; have := hq.toStep; apply jI; exact eB rfl; refine jz ?_; exact ⟨rfl, rfl⟩; apply jjT; exact rfl; rintro w' hq; have := hq.toStep; refine jT rfl rfl rfl ?_; apply jI; exact eS rfl; refine jz ?_; exact ⟨rfl, rfl⟩; refine jjU ?_)))
  (apply AnyF.one 52; (decide +kernel); exact rfl; (exact inferInstance))
  refine jT rfl rfl rfl ?_
  refine Ops.buildSliceF (cells := [.int .i64 1, .int .i64 2]) rfl rfl rfl ?_
  intro b34 w34 hb34 hs34 hS34 hk34
  refine jz ?_
  (apply AnyF.one 53; (decide +kernel); exact rfl; (exact inferInstance))
  refine jT rfl rfl rfl ?_
  refine jjQ (same_ex _ a12 c12 b34 2 [1, 2] rfl (by decide) (hR12.ext inferInstance) hk34) rfl rfl ?_
  rintro _ w35 hS35 rfl
  refine jz ?_
  refine AnyF.take [54, 55, 56, 57, 58, 59, 60] (by decide +kernel) inferInstance ?_
  (((apply jjT; exact rfl; rintro w' hq; have := hq.toStep; apply jK rfl; exact eB rfl; refine jz ?_; exact ⟨rfl, rfl⟩; apply jjT; exact rfl; rintro w' hq; have := hq.toStep; apply jI; exact eB rfl; refine jz ?_; exact ⟨rfl, rfl⟩; apply jjT; exact rfl; rintro w' hq; have := hq.toStep; refine jT rfl rfl rfl ?_; apply jI; exact eI rfl; refine jz ?_; exact ⟨rfl, rfl⟩; apply jjT; exact rfl; rintro w' hq; have := hq.toStep; refine jT rfl rfl rfl ?_; refine jjh rfl rfl (by omega) ?_; refine jz ?_; exact ⟨rfl, rfl⟩; apply jjT; exact rfl; rintro w' hq; have := hq.toStep; apply jK rfl; exact eB rfl; refine jz ?_; exact ⟨rfl, rfl⟩; apply jjT; exact rfl; rintro w' hq; have := hq.toStep; apply jI; exact eB rfl; refine jz ?_; exact ⟨rfl, rfl⟩; apply jjT; exact rfl; rintro w' hq; have := hq.toStep; refine jT rfl rfl rfl ?_; apply jI; exact eS rfl; refine jz ?_; exact ⟨rfl, rfl⟩; refine jjU ?_)))
  (apply AnyF.one 61; (decide +kernel); exact rfl; (exact inferInstance))
  refine jT rfl rfl rfl ?_
  refine Ops.buildSliceF (cells := [.int .i64 0, .int .i64 0, .int .i64 1, .int .i64 1]) rfl rfl rfl ?_
  intro b36 w36 hb36 hs36 hS36 hk36
  refine jz ?_
  (apply AnyF.one 62; (decide +kernel); exact rfl; (exact inferInstance))
  refine jT rfl rfl rfl ?_
  refine jjQ (same_ex _ a14 c14 b36 4 [0, 0, 1, 1] rfl (by decide) (hR14.ext inferInstance) hk36) rfl rfl ?_
  rintro _ w37 hS37 rfl
  refine jz ?_
  refine AnyF.take [63, 64, 65, 66, 67, 68, 69] (by decide +kernel) inferInstance ?_
  (((apply jjT; exact rfl; rintro w' hq; have := hq.toStep; apply jK rfl; exact eB rfl; refine jz ?_; exact ⟨rfl, rfl⟩; apply jjT; exact rfl; rintro w' hq; have := hq.toStep; apply jI; exact eB rfl; refine jz ?_; exact ⟨rfl, rfl⟩; apply jjT; exact rfl; rintro w' hq; have := hq.toStep; refine jT rfl rfl rfl ?_; apply jI; exact eI rfl; refine jz ?_; exact ⟨rfl, rfl⟩; apply jjT; exact rfl; rintro w' hq; have := hq.toStep; refine jT rfl rfl rfl ?_; refine jjh rfl rfl (by omega) ?_; refine jz ?_; exact ⟨rfl, rfl⟩; apply jjT; exact rfl; rintro w' hq; have := hq.toStep; apply jK rfl; exact eB rfl; refine jz ?_; exact ⟨rfl, rfl⟩; apply jjT; exact rfl; rintro w' hq; have := hq.toStep; apply jI; exact eB rfl; refine jz ?_; exact ⟨rfl, rfl⟩; apply jjT; exact rfl; rintro w' hq; have := hq.toStep; refine jT rfl rfl rfl ?_; apply jI; exact eS rfl; refine jz ?_; exact ⟨rfl, rfl⟩; refine jjU ?_)))
  refine AnyF.take [70] (by decide +kernel) inferInstance (jjT (v := encII (0, 3)) rfl (fun w' q1 => ?_) (jjU ?_)); (refine jT rfl rfl rfl ?_; (refine jjS (cells := [.int .i64 0, .int .i64 3]) ?_ ?_; exact rfl); refine jz ?_; exact ⟨rfl, rfl⟩)
  refine AnyF.take [71] (by decide +kernel) inferInstance (jjT (v := encII (2, 1)) rfl (fun w' q1 => ?_) (jjU ?_)); (refine jT rfl rfl rfl ?_; (refine jjS (cells := [.int .i64 2, .int .i64 1]) ?_ ?_; exact rfl); refine jz ?_; exact ⟨rfl, rfl⟩)
  (apply AnyF.one 72; (decide +kernel); exact rfl; (exact inferInstance))
  refine jT rfl rfl rfl ?_
  refine Ops.buildSliceF (cells := [.int .i64 0, .int .i64 3, .int .i64 2, .int .i64 1]) rfl rfl rfl ?_
  intro b38 w38 hb38 hs38 hS38 hk38
  refine jz ?_
  have i38' : RowI w38 (.slice (some ⟨b38, 0, none⟩) ([(0, 3), (2, 1)] : List (Int × Int)).length 2) true 2 (([(0, 3), (2, 1)] : List (Int × Int)).map encII) := ⟨Bk.rows (xs := ([(0, 3), (2, 1)] : List (Int × Int)).map encII) hk38 (by simp [fitsV, encII]) (by simp)⟩
  (apply AnyF.one 73; (decide +kernel); exact rfl; (exact inferInstance))
  refine jT rfl rfl rfl ?_
  refine jjQ (SameMoves_yes a16 (some ⟨b38, 0, none⟩) c16 2 [(0, 3), (2, 1)] _ (by decide)) rfl rfl ?_
  rintro _ w39 hS39 rfl
  refine jz ?_
  refine AnyF.take [74, 75, 76, 77, 78, 79, 80] (by decide +kernel) inferInstance ?_
  (((apply jjT; exact rfl; rintro w' hq; have := hq.toStep; apply jK rfl; exact eB rfl; refine jz ?_; exact ⟨rfl, rfl⟩; apply jjT; exact rfl; rintro w' hq; have := hq.toStep; apply jI; exact eB rfl; refine jz ?_; exact ⟨rfl, rfl⟩; apply jjT; exact rfl; rintro w' hq; have := hq.toStep; refine jT rfl rfl rfl ?_; apply jI; exact eI rfl; refine jz ?_; exact ⟨rfl, rfl⟩; apply jjT; exact rfl; rintro w' hq; have := hq.toStep; refine jT rfl rfl rfl ?_; refine jjh rfl rfl (by omega) ?_; refine jz ?_; exact ⟨rfl, rfl⟩; apply jjT; exact rfl; rintro w' hq; have := hq.toStep; apply jK rfl; exact eB rfl; refine jz ?_; exact ⟨rfl, rfl⟩; apply jjT; exact rfl; rintro w' hq; have := hq.toStep; apply jI; exact eB rfl; refine jz ?_; exact ⟨rfl, rfl⟩; apply jjT; exact rfl; rintro w' hq; have := hq.toStep; refine jT rfl rfl rfl ?_; apply jI; exact eS rfl; refine jz ?_; exact ⟨rfl, rfl⟩; refine jjU ?_)))
  (apply AnyF.one 81; (decide +kernel); exact rfl; (exact inferInstance))
  refine jT rfl rfl rfl ?_
  refine Ops.buildSliceF (cells := [.int .i64 1, .int .i64 3, .int .i64 2, .int .i64 0]) rfl rfl rfl ?_
  intro b40 w40 hb40 hs40 hS40 hk40
  refine jz ?_
  (apply AnyF.one 82; (decide +kernel); exact rfl; (exact inferInstance))
  refine jT rfl rfl rfl ?_
  refine jjQ (same_ex _ a18 c18 b40 4 [1, 3, 2, 0] rfl (by decide) (hR18.ext inferInstance) hk40) rfl rfl ?_
  rintro _ w41 hS41 rfl
  refine jz ?_
  refine AnyF.take [83, 84, 85, 86, 87, 88, 89] (by decide +kernel) inferInstance ?_
  (((apply jjT; exact rfl; rintro w' hq; have := hq.toStep; apply jK rfl; exact eB rfl; refine jz ?_; exact ⟨rfl, rfl⟩; apply jjT; exact rfl; rintro w' hq; have := hq.toStep; apply jI; exact eB rfl; refine jz ?_; exact ⟨rfl, rfl⟩; apply jjT; exact rfl; rintro w' hq; have := hq.toStep; refine jT rfl rfl rfl ?_; apply jI; exact eI rfl; refine jz ?_; exact ⟨rfl, rfl⟩; apply jjT; exact rfl; rintro w' hq; have := hq.toStep; refine jT rfl rfl rfl ?_; refine jjh rfl rfl (by omega) ?_; refine jz ?_; exact ⟨rfl, rfl⟩; apply jjT; exact rfl; rintro w' hq; have := hq.toStep; apply jK rfl; exact eB rfl; refine jz ?_; exact ⟨rfl, rfl⟩; apply jjT; exact rfl; rintro w' hq; have := hq.toStep; apply jI; exact eB rfl; refine jz ?_; exact ⟨rfl, rfl⟩; apply jjT; exact rfl; rintro w' hq; have := hq.toStep; refine jT rfl rfl rfl ?_; apply jI; exact eS rfl; refine jz ?_; exact ⟨rfl, rfl⟩; refine jjU ?_)))
  (apply AnyF.one 90; (decide +kernel); exact rfl; (exact inferInstance))
  refine jT rfl rfl rfl ?_
  refine Ops.buildSliceF (cells := [.int .i64 2, .int .i64 1, .int .i64 2, .int .i64 0]) rfl rfl rfl ?_
  intro b42 w42 hb42 hs42 hS42 hk42
  refine jz ?_
  (apply AnyF.one 91; (decide +kernel); exact rfl; (exact inferInstance))
  refine jT rfl rfl rfl ?_
  refine jjQ (same_ex _ a20 c20 b42 4 [2, 1, 2, 0] rfl (by decide) (hR20.ext inferInstance) hk42) rfl rfl ?_
  rintro _ w43 hS43 rfl
  refine jz ?_
  refine AnyF.take [92, 93, 94, 95, 96, 97, 98, 99, 100, 101, 102, 103, 104, 105, 106, 107] (by decide +kernel) inferInstance ?_
  (((apply jjT; exact rfl; rintro w' hq; have := hq.toStep; apply jK rfl; exact eB rfl; refine jz ?_; exact ⟨rfl, rfl⟩; apply jjT; exact rfl; rintro w' hq; have := hq.toStep; apply jI; exact eB rfl; refine jz ?_; exact ⟨rfl, rfl⟩; apply jjT; exact rfl; rintro w' hq; have := hq.toStep; refine jT rfl rfl rfl ?_; apply jI; exact eI rfl; refine jz ?_; exact ⟨rfl, rfl⟩; apply jjT; exact rfl; rintro w' hq; have := hq.toStep; refine jT rfl rfl rfl ?_; refine jjh rfl rfl (by omega) ?_; refine jz ?_; exact ⟨rfl, rfl⟩; apply jjT; exact rfl; rintro w' hq; have := hq.toStep; apply jK rfl; exact eB rfl; refine jz ?_; exact ⟨rfl, rfl⟩; apply jjT; exact rfl; rintro w' hq; have := hq.toStep; apply jI; exact eB rfl; refine jz ?_; exact ⟨rfl, rfl⟩; apply jjT; exact rfl; rintro w' hq; have := hq.toStep; refine jT rfl rfl rfl ?_; apply jI; exact eI rfl; refine jz ?_; exact ⟨rfl, rfl⟩; apply jjT; exact rfl; rintro w' hq; have := hq.toStep; refine jT rfl rfl rfl ?_; refine jjh rfl rfl (by omega) ?_; refine jz ?_; exact ⟨rfl, rfl⟩; apply jjT; exact rfl; rintro w' hq; have := hq.toStep; apply jK rfl; exact eB rfl; refine jz ?_; exact ⟨rfl, rfl⟩; apply jjT; exact rfl; rintro w' hq; have := hq.toStep; apply jI; exact eB rfl; refine jz ?_; exact ⟨rfl, rfl⟩; apply jjT; exact rfl; rintro w' hq; have := hq.toStep; refine jT rfl rfl rfl ?_; apply jI; exact eS rfl; refine jz ?_; exact ⟨rfl, rfl⟩; apply jjT; exact rfl; rintro w' hq; have := hq.toStep; refine jT rfl rfl rfl ?_; refine jh rfl ?_; refine jz ?_; exact ⟨rfl, rfl⟩; apply jjT; exact rfl; rintro w' hq; have := hq.toStep; refine jT rfl rfl rfl ?_; refine jjh rfl rfl (by omega) ?_; refine jz ?_; exact ⟨rfl, rfl⟩; apply jjT; exact rfl; rintro w' hq; have := hq.toStep; apply jK rfl; exact eB rfl; refine jz ?_; exact ⟨rfl, rfl⟩; apply jjT; exact rfl; rintro w' hq; have := hq.toStep; apply jI; exact eB rfl; refine jz ?_; exact ⟨rfl, rfl⟩; apply jjT; exact rfl; rintro w' hq; have := hq.toStep; refine jT rfl rfl rfl ?_; apply jI; exact eS rfl; refine jz ?_; exact ⟨rfl, rfl⟩; refine jjU ?_)))
  refine AnyF.take [108] (by decide +kernel) inferInstance (jjT (v := .pointer (some ⟨pb, po + 0 * 6, none⟩)) rfl (fun w' q1 => ?_) (jjU ?_)); (refine jT rfl rfl rfl ?_; refine jH 0 rfl rfl rfl (by omega) ?_; refine jz ?_; exact ⟨rfl, rfl⟩)
  refine AnyF.take [109] (by decide +kernel) inferInstance (jjT (v := .pointer (some ⟨pb, po + 0 * 6 + 3, none⟩)) rfl (fun w' q1 => ?_) (jjU ?_)); (refine jT rfl rfl rfl ?_; refine jn rfl ?_; refine jz ?_; exact ⟨rfl, rfl⟩)
  refine AnyF.take [110] (by decide +kernel) inferInstance (jjT (v := .string xAnd) rfl (fun w' q1 => ?_) (jjU ?_)); (refine jT rfl rfl rfl ?_; refine jR ((P0.ext q1).get (i := 3) rfl) rfl rfl ?_; refine jz ?_; exact ⟨rfl, rfl⟩)
  refine AnyF.take [111] (by decide +kernel) inferInstance (jjT (v := .bool true) rfl (fun w' q1 => ?_) (jjU ?_)); (refine jT rfl rfl rfl ?_; refine Ops.eqlS rfl rfl ?_; rw [decide_eq_true rfl]; refine jz ?_; exact ⟨rfl, rfl⟩)
  refine AnyF.take [112, 113, 114] (by decide +kernel) inferInstance ?_
  (((apply jjT; exact rfl; rintro w' hq; have := hq.toStep; apply jK rfl; exact eB rfl; refine jz ?_; exact ⟨rfl, rfl⟩; apply jjT; exact rfl; rintro w' hq; have := hq.toStep; apply jI; exact eB rfl; refine jz ?_; exact ⟨rfl, rfl⟩; apply jjT; exact rfl; rintro w' hq; have := hq.toStep; refine jT rfl rfl rfl ?_; apply jI; exact eS rfl; refine jz ?_; exact ⟨rfl, rfl⟩; refine jjU ?_)))
  refine AnyF.take [115] (by decide +kernel) inferInstance (jjT (v := .pointer (some ⟨pb, po + 1 * 6, none⟩)) rfl (fun w' q1 => ?_) (jjU ?_)); (refine jT rfl rfl rfl ?_; refine jH 1 rfl rfl rfl (by omega) ?_; refine jz ?_; exact ⟨rfl, rfl⟩)
  refine AnyF.take [116] (by decide +kernel) inferInstance (jjT (v := .pointer (some ⟨pb, po + 1 * 6 + 3, none⟩)) rfl (fun w' q1 => ?_) (jjU ?_)); (refine jT rfl rfl rfl ?_; refine jn rfl ?_; refine jz ?_; exact ⟨rfl, rfl⟩)
  refine AnyF.take [117] (by decide +kernel) inferInstance (jjT (v := .string xOld) rfl (fun w' q1 => ?_) (jjU ?_)); (refine jT rfl rfl rfl ?_; refine jR ((P1.ext q1).get (i := 3) rfl) rfl rfl ?_; refine jz ?_; exact ⟨rfl, rfl⟩)
  refine AnyF.take [118] (by decide +kernel) inferInstance (jjT (v := .bool true) rfl (fun w' q1 => ?_) (jjU ?_)); (refine jT rfl rfl rfl ?_; refine Ops.eqlS rfl rfl ?_; rw [decide_eq_true rfl]; refine jz ?_; exact ⟨rfl, rfl⟩)
  refine AnyF.take [119, 120, 121] (by decide +kernel) inferInstance ?_
  (((apply jjT; exact rfl; rintro w' hq; have := hq.toStep; apply jK rfl; exact eB rfl; refine jz ?_; exact ⟨rfl, rfl⟩; apply jjT; exact rfl; rintro w' hq; have := hq.toStep; apply jI; exact eB rfl; refine jz ?_; exact ⟨rfl, rfl⟩; apply jjT; exact rfl; rintro w' hq; have := hq.toStep; refine jT rfl rfl rfl ?_; apply jI; exact eS rfl; refine jz ?_; exact ⟨rfl, rfl⟩; refine jjU ?_)))
  refine AnyF.take [122] (by decide +kernel) inferInstance (jjT (v := .pointer (some ⟨pb, po + 2 * 6, none⟩)) rfl (fun w' q1 => ?_) (jjU ?_)); (refine jT rfl rfl rfl ?_; refine jH 2 rfl rfl rfl (by omega) ?_; refine jz ?_; exact ⟨rfl, rfl⟩)
  refine AnyF.take [123] (by decide +kernel) inferInstance (jjT (v := encSl exS[0]) rfl (fun w' q1 => ?_) (jjU ?_)); (refine jT rfl rfl rfl ?_; refine Ops.loadOA (off := 0) (P2.ext q1) rfl rfl rfl rfl ?_; refine jz ?_; exact ⟨rfl, rfl⟩)
  (apply AnyF.one 124; (decide +kernel); exact rfl; (exact inferInstance))
  refine jT rfl rfl rfl ?_
  refine jjQ (slips_law6 _) rfl rfl ?_
  rintro _ w44 hS44 ⟨e2, rfl, hQ2⟩
  refine jz ?_
  have Q2 : At w44 e2 (0 + 0 * 6) (encSl exS[0]).cells.toList := place_k hQ2 (j := 0) rfl
  (apply AnyF.one 125; (decide +kernel); exact rfl; (exact inferInstance))
  refine jT rfl rfl rfl ?_
  refine jH 0 rfl rfl rfl (by omega) ?_
  refine jz ?_
  (apply AnyF.one 126; (decide +kernel); exact rfl; (exact inferInstance))
  refine jT rfl rfl rfl ?_
  refine Ops.loadOA (off := 0) Q2 rfl rfl rfl rfl ?_
  refine jz ?_
  (apply AnyF.one 127; (decide +kernel); exact rfl; (exact inferInstance))
  refine jT rfl rfl rfl ?_
  refine Ops.eqlT (enc := encSl) exS[0] exS[0] rfl rfl ?_
  rw [decide_eq_true rfl]
  refine jz ?_
  refine AnyF.take [128, 129, 130] (by decide +kernel) inferInstance ?_
  (((apply jjT; exact rfl; rintro w' hq; have := hq.toStep; apply jK rfl; exact eB rfl; refine jz ?_; exact ⟨rfl, rfl⟩; apply jjT; exact rfl; rintro w' hq; have := hq.toStep; apply jI; exact eB rfl; refine jz ?_; exact ⟨rfl, rfl⟩; apply jjT; exact rfl; rintro w' hq; have := hq.toStep; refine jT rfl rfl rfl ?_; apply jI; exact eS rfl; refine jz ?_; exact ⟨rfl, rfl⟩; refine jjU ?_)))
  refine AnyF.take [131] (by decide +kernel) inferInstance (jjT (v := .pointer (some ⟨pb, po + 3 * 6, none⟩)) rfl (fun w' q1 => ?_) (jjU ?_)); (refine jT rfl rfl rfl ?_; refine jH 3 rfl rfl rfl (by omega) ?_; refine jz ?_; exact ⟨rfl, rfl⟩)
  refine AnyF.take [132] (by decide +kernel) inferInstance (jjT (v := encSl exS[2]) rfl (fun w' q1 => ?_) (jjU ?_)); (refine jT rfl rfl rfl ?_; refine Ops.loadOA (off := 0) (P3.ext q1) rfl rfl rfl rfl ?_; refine jz ?_; exact ⟨rfl, rfl⟩)
  (apply AnyF.one 133; (decide +kernel); exact rfl; (exact inferInstance))
  refine jT rfl rfl rfl ?_
  refine jjQ (slips_law6 _) rfl rfl ?_
  rintro _ w45 hS45 ⟨e3, rfl, hQ3⟩
  refine jz ?_
  have Q3 : At w45 e3 (0 + 2 * 6) (encSl exS[2]).cells.toList := place_k hQ3 (j := 2) rfl
  (apply AnyF.one 134; (decide +kernel); exact rfl; (exact inferInstance))
  refine jT rfl rfl rfl ?_
  refine jH 2 rfl rfl rfl (by omega) ?_
  refine jz ?_
  (apply AnyF.one 135; (decide +kernel); exact rfl; (exact inferInstance))
  refine jT rfl rfl rfl ?_
  refine Ops.loadOA (off := 0) Q3 rfl rfl rfl rfl ?_
  refine jz ?_
  (apply AnyF.one 136; (decide +kernel); exact rfl; (exact inferInstance))
  refine jT rfl rfl rfl ?_
  refine Ops.eqlT (enc := encSl) exS[2] exS[2] rfl rfl ?_
  rw [decide_eq_true rfl]
  refine jz ?_
  refine AnyF.take [137, 138] (by decide +kernel) inferInstance ?_
  (((apply jjT; exact rfl; rintro w' hq; have := hq.toStep; apply jK rfl; exact eB rfl; refine jz ?_; exact ⟨rfl, rfl⟩; apply jjT; exact rfl; rintro w' hq; have := hq.toStep; apply jJ; exact eB rfl; refine jz ?_; exact ⟨rfl, rfl⟩; refine jjU ?_)))
  refine AnyF.done (by decide +kernel) inferInstance ?_
  (refine jjF ?_; refine jB rfl rfl ⟨inferInstance, ?_⟩)
  exact rfl
end
end Go.Proofs.YtpijeomnplmakaaGreatDoor

/- The law RackFewest: no plan with fewer passes sorts. -/
namespace Go.Proofs.YtpijeomnplmakaaGreatDoor
open Go.RowKit

theorem all_encW' (l : List Rw) : (l.map encW).all (fun v => v.cells.toList.all (·.oneCell')) = true := by
  rw [List.all_eq_true]
  intro x hx
  obtain ⟨b, _, rfl⟩ := List.mem_map.1 hx
  rfl
section
variable (a : Option Addr) (c : Nat) (d : List Int) (boxes wh : Int) (ba : Option Addr) (bc : Nat) (by_ : List Int) (w : World) [hgb : At w 0 0 bysC] [hmx : MxI w] [hrow : RowI w (.slice a d.length c) false 1 (d.map intV)] [hby : RowI w (.slice ba by_.length bc) false 1 (by_.map u32V)]
set_option maxHeartbeats 40000000 in
theorem RackFewest_law (hl' : d.length ≤ 1000000000000000) (hwh : 0 ≤ wh ∧ wh ≤ 255) (hu : U32s by_) : Ct Tryz.prog 5 [.slice a d.length c, .int .i64 boxes, .int .u8 wh, .slice ba by_.length bc] w fun v _ => v = .bool true := by
  refine Ct.ofW (by simp) ?_
  (refine jjB ?_; refine jjC ?_; apply jJ; exact eB rfl; refine jz ?_; refine jjB ?_; refine jjC ?_)
  refine jjQ (alive_law6 _) rfl rfl ?_
  rintro _ w1 hS1 rfl
  (apply jJ; exact eB rfl; refine jz ?_; refine jjB ?_; refine jjB ?_; refine jjC ?_; apply jI; exact eS rfl; apply jI; exact eI rfl)
  refine jjQ (ready_law6 a c d boxes _ hl') rfl rfl ?_
  rintro _ w2 hS2 rfl
  by_cases hrd : (deckB d && decide (2 ≤ boxes) && decide (boxes ≤ 20)) = true
  rotate_left
  · rw [show (deckB d && decide (2 ≤ boxes) && decide (boxes ≤ 20)) = false by simpa using hrd]
    (refine jq rfl ?_; apply jI; exact eB rfl; refine jU rfl rfl rfl rfl ?_; refine jU rfl rfl rfl rfl ?_; apply jK rfl; exact eB rfl; refine jz ?_; refine jjJ rfl ?_; refine jjB ?_; refine jjC ?_; apply jI; exact eB rfl; apply jJ; exact eB rfl; refine jz ?_; refine jjF ?_; refine jB rfl rfl ⟨inferInstance, ?_⟩)
    exact rfl
  rw [hrd]
  obtain ⟨hdk, ⟨hb2, hb20⟩, hop, hd60⟩ := ready_facts hrd
  have hl : d.length ≤ 1000000 := by omega
  obtain ⟨b, rfl⟩ : ∃ b : Nat, boxes = (b : Int) := ⟨boxes.toNat, by omega⟩
  (refine jp rfl ?_; apply jI; exact eB rfl; refine jT rfl rfl rfl ?_; apply jI; exact eB rfl; refine jT rfl rfl rfl ?_; refine jp rfl ?_; apply jL rfl; exact eB rfl; refine jz ?_; refine jjK rfl ?_; refine jjG ?_; refine jjB ?_; refine jjC ?_; apply jI; exact eS rfl; apply jI; exact eI rfl)
  refine jjQ (Passes_rack a c d (b : Int) _ hl) rfl rfl ?_
  rintro _ w3 hS3 ⟨p0, hp, rfl⟩
  rw [hop, if_pos rfl, Int.toNat_natCast] at hp
  rw [hop]
  have hE60 := end_le hd60
  have hp6 := hp.six (by omega) hE60
  (apply jI; exact eU rfl; refine ju rfl rfl ?_; refine ju rfl rfl ?_; apply jJ; exact eI rfl; apply jJ; exact eI rfl; refine jz ?_; refine jjB ?_; refine jjC ?_; apply jI; exact eS rfl; apply jI; exact eI rfl)
  refine jjQ (Proof_rack a c d (b : Int) _ hl) rfl rfl ?_
  rintro _ w4 hS4 ⟨P, e, pa, pc, rfl, hR4, ⟨h, -⟩ | ⟨-, hp', rfl, rfl⟩ | ⟨-, P1, hp', hPe, rfl⟩⟩
  · exact absurd hop h
  · rw [Int.toNat_natCast] at hp'
    obtain rfl := hp.uniq hp'
    (apply jI; exact eU rfl; refine ju rfl rfl ?_; refine ju rfl rfl ?_; apply jJ; exact eS rfl; apply jJ; exact eI rfl; refine jz ?_; refine jjB ?_; refine jjB ?_; refine jjC ?_; apply jI; exact eI rfl; refine jjk rfl rfl (by omega) ?_; apply jI; exact eB rfl; refine jT rfl rfl rfl ?_; apply jI; exact eI rfl; refine jT rfl rfl rfl ?_; refine jja rfl rfl (by omega) ?_; apply jL rfl; exact eB rfl; apply jI; exact eB rfl; refine jT rfl rfl rfl ?_; apply jI; exact eI rfl; refine jT rfl rfl rfl ?_; refine jje rfl rfl (by omega) ?_; apply jL rfl; exact eB rfl; refine jz ?_; refine jjK rfl ?_; refine jjG ?_; refine jjB ?_; refine jjB ?_; refine jjC ?_; apply jI; exact eI rfl; refine jjh rfl rfl (by omega) ?_; refine jz ?_; refine jjJ rfl ?_; refine jjB ?_; refine jjC ?_; apply jI; exact eB rfl; apply jI; exact eB rfl; refine jT rfl rfl rfl ?_; apply jI; exact eI rfl; refine jT rfl rfl rfl ?_; refine jjh rfl rfl (by omega) ?_; apply jK rfl; exact eB rfl; apply jI; exact eB rfl; refine jT rfl rfl rfl ?_; apply jI; exact eS rfl; refine jT rfl rfl rfl ?_; refine jh rfl ?_; refine jT rfl rfl rfl ?_; refine ja rfl rfl ?_; apply jK rfl; exact eB rfl; apply jJ; exact eB rfl; refine jz ?_; refine jjF ?_; refine jB rfl rfl ⟨inferInstance, ?_⟩)
    exact rfl
  rw [Int.toNat_natCast] at hp' hPe
  obtain rfl := hp.uniq hp'
  have hpw := hp.2 P1 (by omega)
  have hPl : P.length = b ^ P1 := by rw [hPe, List.length_take]; omega
  have hPm : ∀ x ∈ P, x ∈ endF d := fun x hx => List.mem_of_mem_take (hPe ▸ hx)
  have hPn : P.Pairwise fun x y => keyD d x.2 ≤ keyD d y.1 := hPe ▸ (nbr_next d).sublist (List.take_sublist _ _)
  have iP : RowI w4 (.slice pa P.length pc) true 2 (P.map encII) := ⟨hR4⟩
  (apply jI; exact eU rfl; refine ju rfl rfl ?_; refine ju rfl rfl ?_; apply jJ; exact eS rfl; apply jJ; exact eI rfl; refine jz ?_; refine jjB ?_; refine jjB ?_; refine jjC ?_; apply jI; exact eI rfl; refine jjk rfl rfl (by omega) ?_; apply jI; exact eB rfl; refine jT rfl rfl rfl ?_; apply jI; exact eI rfl; refine jT rfl rfl rfl ?_; refine jja rfl rfl (by omega) ?_; apply jL rfl; exact eB rfl; apply jI; exact eB rfl; refine jT rfl rfl rfl ?_; apply jI; exact eI rfl; refine jT rfl rfl rfl ?_; refine jje rfl rfl (by omega) ?_; apply jL rfl; exact eB rfl; refine jz ?_; refine jjK rfl ?_; refine jjG ?_; refine jjB ?_; refine jjB ?_; refine jjC ?_; apply jI; exact eI rfl; refine jji rfl rfl (by omega) ?_; refine jz ?_; refine jjK rfl ?_; refine jjG ?_; refine jjB ?_; refine jjC ?_; apply jI; exact eS rfl; apply jI; exact eI rfl)
  refine jjQ (Plan_rack a c d (b : Int) _ hl) rfl rfl ?_
  rintro _ w5 hS5 (⟨h, -⟩ | ⟨-, p', la, lc, rs, hq', rfl, hrs, hL5, hI5⟩)
  · exact absurd hop h
  rw [Int.toNat_natCast] at hq' hrs
  obtain rfl := hp.uniq hq'
  have hrl := plan_len hrs
  have hL := plan_L (by omega) hrs
  have iP5 : RowI w5 (.slice pa P.length pc) true 2 (P.map encII) := inferInstance
  have hE5 : Ext w w5 := inferInstance
  have hP1 : ((P1 + 1 : Nat) : Int) - 1 = (P1 : Int) := by omega
  (apply jI; exact eU rfl; refine ju rfl rfl ?_; refine ju rfl rfl ?_; apply jJ; exact eS rfl; apply jJ; exact eI rfl; refine jz ?_; refine jjB ?_; refine jjB ?_; refine jjC ?_; apply jI; exact eI rfl; refine jjk rfl rfl (by omega) ?_; apply jI; exact eB rfl; refine jT rfl rfl rfl ?_; apply jI; exact eI rfl; refine jT rfl rfl rfl ?_; refine jjk rfl rfl (by omega) ?_; apply jL rfl; exact eB rfl; apply jI; exact eB rfl; refine jT rfl rfl rfl ?_; apply jI; exact eS rfl; refine jT rfl rfl rfl ?_; refine jh rfl ?_; refine jT rfl rfl rfl ?_; apply jI; exact eI rfl; refine jT rfl rfl rfl ?_; refine jjk rfl rfl (by omega) ?_; apply jL rfl; exact eB rfl; refine jz ?_; refine jjK rfl ?_; refine jjG ?_; refine jjB ?_; refine jjC ?_; apply jJ; exact eI rfl; refine jz ?_; refine jjB ?_; refine jjB ?_; refine jjC ?_; apply jI; exact eI rfl; refine jZ rfl rfl (by omega) ?_; apply jI; exact eI rfl; refine jz ?_; refine jjD ?_)
  refine W.keep0 [(0, .slice a d.length c), (1, .int .i64 (b : Int)), (2, .int .u8 wh), (3, .slice ba by_.length bc), (9, .bool true), (10, .int .i64 ((P1 + 1 : Nat) : Int)), (12, .slice pa P.length pc), (14, .slice la rs.length lc), (16, .int .i64 ((b ^ 0 : Nat) : Int)), (90, .int .i64 (P1 : Int)), (91, .int .i64 ((0 : Nat) : Int))] ⟨eS rfl, eI rfl, rfl, eS rfl, eB rfl, eI rfl, eS rfl, eS rfl, eI rfl, congrArg (Value.int .i64) hP1, eI rfl, trivial⟩ fun s0 => ?_
  refine W.loop (92 :: 93 :: 94 :: 95 :: 16 :: 96 :: 91 :: []) (fun g s' _ => ∃ k : Nat, s' 91 = .int .i64 (k : Int) ∧ s' 16 = .int .i64 ((b ^ k : Nat) : Int) ∧ g = P1 - k ∧ k ≤ P1) P1 ⟨0, rfl, rfl, rfl, Nat.zero_le _⟩ ?_
  rintro _ sd V hSV ⟨k, h91, h16, rfl, hk⟩
  refine W.fix h91 (W.fix (d := 16) h16 ?_)
  clear h91 h16
  by_cases hk1 : k < P1
  · have hbk : b ^ k ≤ 60 := by have := hp.2 k (by omega); omega
    have hbb : b ^ k * b ≤ 60 * 20 := Nat.mul_le_mul hbk (by omega)
    have hmul : ((b ^ k : Nat) : Int) * (b : Int) = ((b ^ (k + 1) : Nat) : Int) := by rw [Nat.pow_succ]; push_cast; rfl
    have hbs : ((b ^ (k + 1) : Nat) : Int) ≤ 1200 := by rw [Nat.pow_succ]; omega
    (refine jjB ?_; refine jjC ?_; refine jjZ rfl rfl (by omega) ?_; refine jz ?_; refine jjB ?_; refine jjJ rfl ?_; refine jjG ?_; refine jjB ?_; refine jjD ?_; refine jjC ?_; apply jI; exact eI rfl; apply jI; exact eI rfl)
    refine Ops.mul rfl rfl (by rw [hmul]; omega) ?_
    rw [hmul]
    (apply jJ; exact eI rfl; refine jz ?_; refine jjC ?_; refine jY rfl rfl (by omega) ?_; apply jI; exact eI rfl; refine jz ?_)
    exact ⟨rfl, by ((refine Same.upd rfl ?_; refine Same.upd rfl ?_; refine Same.upd rfl ?_; refine Same.upd rfl ?_; refine Same.upd rfl ?_; refine Same.upd rfl ?_; refine Same.upd rfl ?_; refine Same.upd rfl ?_; refine Same.upd rfl ?_; exact Same.ovN)), P1 - (k + 1), by omega, inferInstance, k + 1, congrArg (Value.int .i64) (by omega), rfl, rfl, by omega⟩
  obtain rfl : k = P1 := by omega
  have iPV : RowI V (.slice pa P.length pc) true 2 (P.map encII) := inferInstance
  rw [← hPl]
  (refine jjB ?_; refine jjC ?_; refine jja rfl rfl (by omega) ?_; refine jz ?_; refine jjB ?_; refine jjK rfl ?_; refine jjE ?_; refine jjB ?_; refine jjC ?_; apply jJ; exact eI rfl; refine jz ?_; refine jjB ?_; refine jjB ?_; refine jjC ?_; apply jI; exact eS rfl; refine jh rfl ?_; apply jI; exact eI rfl; refine jz ?_; refine jjD ?_)
  refine W.keep0 [(0, .slice a d.length c), (1, .int .i64 (b : Int)), (2, .int .u8 wh), (3, .slice ba by_.length bc), (9, .bool true), (10, .int .i64 ((k + 1 : Nat) : Int)), (12, .slice pa P.length pc), (14, .slice la rs.length lc), (16, .int .i64 (P.length : Int)), (17, .int .i64 (-1)), (97, .slice pa P.length pc), (98, .int .i64 (P.length : Int)), (99, .int .i64 ((0 : Nat) : Int))] ⟨eS rfl, eI rfl, rfl, eS rfl, eB rfl, eI rfl, eS rfl, eS rfl, eI rfl, eI rfl, eS rfl, eI rfl, eI rfl, trivial⟩ fun s1 => ?_
  refine W.loop (100 :: 101 :: 102 :: 19 :: 103 :: 104 :: 105 :: 106 :: 107 :: 108 :: 109 :: 110 :: 111 :: 112 :: 113 :: 114 :: 115 :: 116 :: 117 :: 118 :: 119 :: 120 :: 121 :: 122 :: 123 :: 124 :: 125 :: 126 :: 127 :: 128 :: 129 :: 130 :: 131 :: 132 :: 133 :: 134 :: 135 :: 136 :: 137 :: 8 :: 138 :: 139 :: 140 :: 141 :: 142 :: 143 :: 144 :: 20 :: 21 :: 145 :: 146 :: 147 :: 148 :: 149 :: 150 :: 151 :: 152 :: 153 :: 154 :: 155 :: 156 :: 157 :: 158 :: 159 :: 160 :: 161 :: 162 :: 163 :: 164 :: 165 :: 166 :: 167 :: 168 :: 169 :: 170 :: 171 :: 172 :: 173 :: 174 :: 175 :: 176 :: 177 :: 178 :: 179 :: 180 :: 181 :: 182 :: 183 :: 184 :: 185 :: 186 :: 187 :: 188 :: 189 :: 190 :: 191 :: 192 :: 193 :: 194 :: 195 :: 196 :: 197 :: 198 :: 199 :: 200 :: 201 :: 202 :: 203 :: 17 :: 204 :: 99 :: []) (fun g s' _ => ∃ (i : Nat) (x : Int), s' 99 = .int .i64 (i : Int) ∧ s' 17 = .int .i64 x ∧ g = P.length - i ∧ i ≤ P.length ∧ LstI d P i x) P.length ⟨0, -1, rfl, rfl, rfl, Nat.zero_le _, .inl ⟨rfl, rfl⟩⟩ ?_
  rintro _ sd2 V2 hSV2 ⟨i, y, h99, h17, rfl, hi, hLst⟩
  refine W.fix h99 (W.fix (d := 17) h17 ?_)
  clear h99 h17
  by_cases hi1 : i < P.length
  · obtain ⟨p, q, hN⟩ := nbr_facts (hPm _ (List.getElem_mem hi1))
    obtain ⟨eN, npl, nqp, nup, nbt, nf, ns⟩ := hN
    have hqd : q < d.length := by omega
    have hle := hLst.le hi1 hPn (by rw [eN]; exact (deck_pos hdk npl).1)
    have hnx : LstI d P (i + 1) (gd d q) := .inr ⟨i, rfl, hi1, by rw [eN]; rfl⟩
    rw [eN] at hle
    replace hle : y ≤ gd d p := hle
    have gdp : (d.map intV)[p]? = some (intV (gd d p)) := by rw [List.getElem?_map, List.getElem?_eq_getElem npl, gd_lt npl]; rfl
    have gdq : (d.map intV)[q]? = some (intV (gd d q)) := by rw [List.getElem?_map, List.getElem?_eq_getElem hqd, gd_lt hqd]; rfl
    obtain ⟨pb, po, rfl, -⟩ := hrow.h.place' gdp
    (refine jjB ?_; refine jjC ?_; refine jjZ rfl rfl (by omega) ?_; refine jz ?_; refine jjB ?_; refine jjJ rfl ?_; refine jjG ?_; refine jjB ?_; refine jjD ?_; refine jjB ?_; refine jjC ?_; refine jF rfl rfl rfl (map_get (by omega)) ?_; intro _ _ _; refine jQ rfl rfl ?_)
    rw [eN]
    (apply jjR rfl; (intro _; first|exact eI rfl|exact eB rfl|exact eP rfl|exact eS rfl|exact eT rfl|exact eA rfl|exact eU rfl|exact eF rfl|exact eM rfl|exact eN rfl|exact rfl); exact rfl; exact rfl; exact rfl; exact rfl; intro b9 w_b9 hb_b9 hs_b9 hS_b9 hk_b9; have hA_b9 := Bk.of hk_b9)
    have hA9 : At w_b9 b9 0 [.int .i64 (p : Int), .int .i64 (q : Int)] := Bk.toAt (h := hA_b9)
    have hE9 : Ext w w_b9 := inferInstance
    have X0 : At w_b9 b9 (0 + 0 * 1) [.int .i64 (p : Int)] := ⟨fun j v hj => by cases j with
      | zero => exact hA9.h 0 v hj
      | succ j => simp at hj⟩
    have X1 : At w_b9 b9 (0 + 1 * 1) [.int .i64 (q : Int)] := ⟨fun j v hj => by cases j with
      | zero => exact hA9.h 1 v hj
      | succ j => simp at hj⟩
    have Dp : At w_b9 pb (po + p * 1) [intV (gd d p)] := place_r (hrow.h.ext hE9) gdp
    have Dq : At w_b9 pb (po + q * 1) [intV (gd d q)] := place_r (hrow.h.ext hE9) gdq
    (refine jz ?_; refine jjB ?_; refine jjB ?_)
    refine W.draw (fun w' => Ext w_b9 w') ?_
    intro w6 hS6
    refine jjV [0] (by decide +kernel) hS6.ext (jjT (v := .pointer (some ⟨b9, 0 + 0 * 1, none⟩)) rfl (fun w' q1 => ?_) (jjU ?_)); (refine Ops.indexAP 0 rfl rfl rfl rfl ?_; refine jz ?_; exact ⟨rfl, rfl⟩)
    refine jjV [1] (by decide +kernel) hS6.ext (jjT (v := .int .i64 (p : Int)) rfl (fun w' q1 => ?_) (jjU ?_)); (refine jR ((X0.ext q1).get (i := 0) rfl) rfl rfl ?_; refine jz ?_; exact ⟨rfl, rfl⟩)
    refine jjV [2, 3] (by decide +kernel) hS6.ext ?_
    (((apply jjT; exact rfl; rintro w' hq; have := hq.toStep; refine jja rfl rfl (by omega) ?_; refine jz ?_; exact ⟨rfl, rfl⟩; apply jjT; exact rfl; rintro w' hq; have := hq.toStep; apply jI; exact eB rfl; refine jz ?_; exact ⟨rfl, rfl⟩; refine jjU ?_)))
    refine jjV [4] (by decide +kernel) hS6.ext (jjT (v := .pointer (some ⟨b9, 0 + 0 * 1, none⟩)) rfl (fun w' q1 => ?_) (jjU ?_)); (refine jT rfl rfl rfl ?_; refine Ops.indexAP 0 rfl rfl rfl rfl ?_; refine jz ?_; exact ⟨rfl, rfl⟩)
    refine jjV [5] (by decide +kernel) hS6.ext (jjT (v := .int .i64 (p : Int)) rfl (fun w' q1 => ?_) (jjU ?_)); (refine jT rfl rfl rfl ?_; refine jR ((X0.ext q1).get (i := 0) rfl) rfl rfl ?_; refine jz ?_; exact ⟨rfl, rfl⟩)
    refine jjV [6, 7, 8, 9, 10] (by decide +kernel) hS6.ext ?_
    (((apply jjT; exact rfl; rintro w' hq; have := hq.toStep; refine jT rfl rfl rfl ?_; apply jI; exact eS rfl; refine jz ?_; exact ⟨rfl, rfl⟩; apply jjT; exact rfl; rintro w' hq; have := hq.toStep; refine jT rfl rfl rfl ?_; refine jh rfl ?_; refine jz ?_; exact ⟨rfl, rfl⟩; apply jjT; exact rfl; rintro w' hq; have := hq.toStep; refine jT rfl rfl rfl ?_; refine jjg rfl rfl (by omega) ?_; refine jz ?_; exact ⟨rfl, rfl⟩; apply jjT; exact rfl; rintro w' hq; have := hq.toStep; apply jL rfl; exact eB rfl; refine jz ?_; exact ⟨rfl, rfl⟩; apply jjT; exact rfl; rintro w' hq; have := hq.toStep; apply jI; exact eB rfl; refine jz ?_; exact ⟨rfl, rfl⟩; refine jjU ?_)))
    refine jjV [11] (by decide +kernel) hS6.ext (jjT (v := .pointer (some ⟨b9, 0 + 1 * 1, none⟩)) rfl (fun w' q1 => ?_) (jjU ?_)); (refine jT rfl rfl rfl ?_; refine Ops.indexAP 1 rfl rfl rfl rfl ?_; refine jz ?_; exact ⟨rfl, rfl⟩)
    refine jjV [12] (by decide +kernel) hS6.ext (jjT (v := .int .i64 (q : Int)) rfl (fun w' q1 => ?_) (jjU ?_)); (refine jT rfl rfl rfl ?_; refine jR ((X1.ext q1).get (i := 0) rfl) rfl rfl ?_; refine jz ?_; exact ⟨rfl, rfl⟩)
    refine jjV [13, 14, 15] (by decide +kernel) hS6.ext ?_
    (((apply jjT; exact rfl; rintro w' hq; have := hq.toStep; refine jT rfl rfl rfl ?_; refine jja rfl rfl (by omega) ?_; refine jz ?_; exact ⟨rfl, rfl⟩; apply jjT; exact rfl; rintro w' hq; have := hq.toStep; apply jL rfl; exact eB rfl; refine jz ?_; exact ⟨rfl, rfl⟩; apply jjT; exact rfl; rintro w' hq; have := hq.toStep; apply jI; exact eB rfl; refine jz ?_; exact ⟨rfl, rfl⟩; refine jjU ?_)))
    refine jjV [16] (by decide +kernel) hS6.ext (jjT (v := .pointer (some ⟨b9, 0 + 1 * 1, none⟩)) rfl (fun w' q1 => ?_) (jjU ?_)); (refine jT rfl rfl rfl ?_; refine Ops.indexAP 1 rfl rfl rfl rfl ?_; refine jz ?_; exact ⟨rfl, rfl⟩)
    refine jjV [17] (by decide +kernel) hS6.ext (jjT (v := .int .i64 (q : Int)) rfl (fun w' q1 => ?_) (jjU ?_)); (refine jT rfl rfl rfl ?_; refine jR ((X1.ext q1).get (i := 0) rfl) rfl rfl ?_; refine jz ?_; exact ⟨rfl, rfl⟩)
    refine jjV [18] (by decide +kernel) hS6.ext (jjT (v := .pointer (some ⟨b9, 0 + 0 * 1, none⟩)) rfl (fun w' q1 => ?_) (jjU ?_)); (refine jT rfl rfl rfl ?_; refine Ops.indexAP 0 rfl rfl rfl rfl ?_; refine jz ?_; exact ⟨rfl, rfl⟩)
    refine jjV [19] (by decide +kernel) hS6.ext (jjT (v := .int .i64 (p : Int)) rfl (fun w' q1 => ?_) (jjU ?_)); (refine jT rfl rfl rfl ?_; refine jR ((X0.ext q1).get (i := 0) rfl) rfl rfl ?_; refine jz ?_; exact ⟨rfl, rfl⟩)
    refine jjV [20, 21, 22, 23] (by decide +kernel) hS6.ext ?_
    (((apply jjT; exact rfl; rintro w' hq; have := hq.toStep; refine jT rfl rfl rfl ?_; refine jjg rfl rfl (by omega) ?_; refine jz ?_; exact ⟨rfl, rfl⟩; apply jjT; exact rfl; rintro w' hq; have := hq.toStep; apply jL rfl; exact eB rfl; refine jz ?_; exact ⟨rfl, rfl⟩; apply jjT; exact rfl; rintro w' hq; have := hq.toStep; apply jI; exact eB rfl; refine jz ?_; exact ⟨rfl, rfl⟩; apply jjT; exact rfl; rintro w' hq; have := hq.toStep; refine jT rfl rfl rfl ?_; apply jI; exact eS rfl; refine jz ?_; exact ⟨rfl, rfl⟩; refine jjU ?_)))
    refine jjV [24] (by decide +kernel) hS6.ext (jjT (v := .pointer (some ⟨b9, 0 + 1 * 1, none⟩)) rfl (fun w' q1 => ?_) (jjU ?_)); (refine jT rfl rfl rfl ?_; refine Ops.indexAP 1 rfl rfl rfl rfl ?_; refine jz ?_; exact ⟨rfl, rfl⟩)
    refine jjV [25] (by decide +kernel) hS6.ext (jjT (v := .int .i64 (q : Int)) rfl (fun w' q1 => ?_) (jjU ?_)); (refine jT rfl rfl rfl ?_; refine jR ((X1.ext q1).get (i := 0) rfl) rfl rfl ?_; refine jz ?_; exact ⟨rfl, rfl⟩)
    refine jjV [26] (by decide +kernel) hS6.ext (jjT (v := .pointer (some ⟨pb, po + q * 1, none⟩)) rfl (fun w' q1 => ?_) (jjU ?_)); (refine jT rfl rfl rfl ?_; refine jH q rfl rfl rfl (by omega) ?_; refine jz ?_; exact ⟨rfl, rfl⟩)
    refine jjV [27] (by decide +kernel) hS6.ext (jjT (v := .int .i64 (gd d q)) rfl (fun w' q1 => ?_) (jjU ?_)); (refine jT rfl rfl rfl ?_; refine jR ((Dq.ext q1).get (i := 0) rfl) rfl rfl ?_; refine jz ?_; exact ⟨rfl, rfl⟩)
    refine jjV [28] (by decide +kernel) hS6.ext ?_
    (((apply jjT; exact rfl; rintro w' hq; have := hq.toStep; refine jT rfl rfl rfl ?_; apply jI; exact eS rfl; refine jz ?_; exact ⟨rfl, rfl⟩; refine jjU ?_)))
    refine jjV [29] (by decide +kernel) hS6.ext (jjT (v := .pointer (some ⟨b9, 0 + 0 * 1, none⟩)) rfl (fun w' q1 => ?_) (jjU ?_)); (refine jT rfl rfl rfl ?_; refine Ops.indexAP 0 rfl rfl rfl rfl ?_; refine jz ?_; exact ⟨rfl, rfl⟩)
    refine jjV [30] (by decide +kernel) hS6.ext (jjT (v := .int .i64 (p : Int)) rfl (fun w' q1 => ?_) (jjU ?_)); (refine jT rfl rfl rfl ?_; refine jR ((X0.ext q1).get (i := 0) rfl) rfl rfl ?_; refine jz ?_; exact ⟨rfl, rfl⟩)
    refine jjV [31] (by decide +kernel) hS6.ext (jjT (v := .pointer (some ⟨pb, po + p * 1, none⟩)) rfl (fun w' q1 => ?_) (jjU ?_)); (refine jT rfl rfl rfl ?_; refine jH p rfl rfl rfl (by omega) ?_; refine jz ?_; exact ⟨rfl, rfl⟩)
    refine jjV [32] (by decide +kernel) hS6.ext (jjT (v := .int .i64 (gd d p)) rfl (fun w' q1 => ?_) (jjU ?_)); (refine jT rfl rfl rfl ?_; refine jR ((Dp.ext q1).get (i := 0) rfl) rfl rfl ?_; refine jz ?_; exact ⟨rfl, rfl⟩)
    refine jjV [33, 34] (by decide +kernel) hS6.ext ?_
    (((apply jjT; exact rfl; rintro w' hq; have := hq.toStep; refine jT rfl rfl rfl ?_; refine jjc rfl rfl (by omega) ?_; refine jz ?_; exact ⟨rfl, rfl⟩; apply jjT; exact rfl; rintro w' hq; have := hq.toStep; apply jL rfl; exact eB rfl; refine jz ?_; exact ⟨rfl, rfl⟩; refine jjU ?_)))
    refine jjX (by decide +kernel) inferInstance ?_
    have ep : d[p] = gd d p := (gd_lt npl).symm
    have eq : d[q] = gd d q := (gd_lt hqd).symm
    (refine jjK rfl ?_; refine jjG ?_; refine jjB ?_; refine jjB ?_; refine jjC ?_; apply jI; exact eS rfl; refine jh rfl ?_; apply jI; exact eI rfl; refine jz ?_; refine jjD ?_)
    refine W.keep [(0, .slice (some ⟨pb, po, none⟩) d.length c), (1, .int .i64 (b : Int)), (2, .int .u8 wh), (3, .slice ba by_.length bc), (9, .bool true), (10, .int .i64 ((k + 1 : Nat) : Int)), (12, .slice pa P.length pc), (14, .slice la rs.length lc), (16, .int .i64 (P.length : Int)), (17, .int .i64 y), (19, .pointer (some ⟨b9, 0, none⟩)), (97, .slice pa P.length pc), (98, .int .i64 (P.length : Int)), (99, .int .i64 (i : Int)), (138, .slice (some ⟨pb, po, none⟩) d.length c), (139, .int .i64 (d.length : Int)), (140, .int .i64 ((0 : Nat) : Int))] (D := (100 :: 101 :: 102 :: 19 :: 103 :: 104 :: 105 :: 106 :: 107 :: 108 :: 109 :: 110 :: 111 :: 112 :: 113 :: 114 :: 115 :: 116 :: 117 :: 118 :: 119 :: 120 :: 121 :: 122 :: 123 :: 124 :: 125 :: 126 :: 127 :: 128 :: 129 :: 130 :: 131 :: 132 :: 133 :: 134 :: 135 :: 136 :: 137 :: 8 :: 138 :: 139 :: 140 :: 141 :: 142 :: 143 :: 144 :: 20 :: 21 :: 145 :: 146 :: 147 :: 148 :: 149 :: 150 :: 151 :: 152 :: 153 :: 154 :: 155 :: 156 :: 157 :: 158 :: 159 :: 160 :: 161 :: 162 :: 163 :: 164 :: 165 :: 166 :: 167 :: 168 :: 169 :: 170 :: 171 :: 172 :: 173 :: 174 :: 175 :: 176 :: 177 :: 178 :: 179 :: 180 :: 181 :: 182 :: 183 :: 184 :: 185 :: 186 :: 187 :: 188 :: 189 :: 190 :: 191 :: 192 :: 193 :: 194 :: 195 :: 196 :: 197 :: 198 :: 199 :: 200 :: 201 :: 202 :: 203 :: 17 :: 204 :: 99 :: [])) (sO := upds s1 _) (by ((refine Same.upd rfl ?_; refine Same.upd rfl ?_; refine Same.upd rfl ?_; refine Same.upd rfl ?_; refine Same.upd rfl ?_; refine Same.upd rfl ?_; refine Same.upd rfl ?_; refine Same.upd rfl ?_; refine Same.upd rfl ?_; refine Same.upd rfl ?_; refine Same.upd rfl ?_; refine Same.upd rfl ?_; refine Same.upd rfl ?_; refine Same.upd rfl ?_; refine Same.upd rfl ?_; refine Same.upd rfl ?_; refine Same.upd rfl ?_; refine Same.upd rfl ?_; refine Same.upd rfl ?_; refine Same.upd rfl ?_; refine Same.upd rfl ?_; refine Same.upd rfl ?_; refine Same.upd rfl ?_; refine Same.upd rfl ?_; refine Same.upd rfl ?_; refine Same.upd rfl ?_; refine Same.upd rfl ?_; refine Same.upd rfl ?_; refine Same.upd rfl ?_; refine Same.upd rfl ?_; refine Same.upd rfl ?_; refine Same.upd rfl ?_; refine Same.upd rfl ?_; refine Same.upd rfl ?_; refine Same.upd rfl ?_; refine Same.upd rfl ?_; refine Same.upd rfl ?_; refine Same.upd rfl ?_; refine Same.upd rfl ?_; refine Same.upd rfl ?_; refine Same.upd rfl ?_; refine Same.upd rfl ?_; refine Same.upd rfl ?_; refine Same.upd rfl ?_; exact Same.ovN))) ⟨eS rfl, eI rfl, rfl, eS rfl, eB rfl, eI rfl, eS rfl, eS rfl, eI rfl, eI rfl, eP rfl, eS rfl, eI rfl, eI rfl, eS rfl, eI rfl, eI rfl, trivial⟩ fun s2 hs2 => ?_
    refine W.loop (141 :: 142 :: 143 :: 144 :: 20 :: 21 :: 145 :: 146 :: 147 :: 148 :: 149 :: 150 :: 151 :: 152 :: 153 :: 154 :: 155 :: 156 :: 157 :: 158 :: 159 :: 160 :: 161 :: 162 :: 163 :: 164 :: 165 :: 166 :: 167 :: 168 :: 169 :: 170 :: 171 :: 172 :: 173 :: 174 :: 175 :: 176 :: 177 :: 178 :: 179 :: 180 :: 181 :: 182 :: 183 :: 184 :: 185 :: 186 :: 187 :: 188 :: 189 :: 190 :: 8 :: 191 :: 140 :: []) (fun g s' _ => ∃ t : Nat, s' 140 = .int .i64 (t : Int) ∧ g = d.length - t ∧ t ≤ d.length) d.length ⟨0, rfl, rfl, Nat.zero_le _⟩ ?_
    rintro _ sd3 V3 hSV3 ⟨t, h140, rfl, ht⟩
    refine W.fix h140 ?_
    clear h140
    have hE3 : Ext w_b9 V3 := hS6.ext.trans hSV3.ext
    have Y0 := X0.ext hE3
    have Y1 := X1.ext hE3
    have C1 := Y1.get (i := 0) rfl
    have iD3 : RowI V3 (.slice (some ⟨pb, po, none⟩) d.length c) false 1 (d.map intV) := inferInstance
    by_cases ht1 : t < d.length
    · have et : d[t] = gd d t := (gd_lt ht1).symm
      have n1 := nbt t ht1
      have n2 := nf t ht1
      have n3 := ns t ht1
      rw [← ep] at n1 n2 nup
      rw [← eq] at n1 n3 nup
      rw [← et] at n1 n2 n3
      clear hLst hnx hle
      by_cases c1 : d[p] < d[t]
      · have c2 := n1 c1
        by_cases c3 : d[t] = d[q]
        · have c4 := n3 c3
          ((refine jjB ?_; refine jjC ?_; refine jjZ rfl rfl (by omega) ?_; refine jz ?_; refine jjB ?_; refine jjJ rfl ?_; refine jjG ?_; refine jjB ?_; refine jjD ?_; refine jjB ?_; refine jjC ?_; apply jI; exact eI rfl; refine jF rfl rfl rfl (map_get (by omega)) ?_; intro _ _ _; refine jQ rfl rfl ?_; apply jJ; exact eI rfl; apply jJ; exact eI rfl; refine jz ?_; refine jjB ?_; refine jjC ?_; apply jI; exact eI rfl; apply jI; exact eS rfl; refine Ops.indexAP 0 rfl rfl rfl rfl ?_; refine jN rfl rfl rfl ?_; refine jF rfl rfl rfl (map_get (by omega)) ?_; intro _ _ _; refine jQ rfl rfl ?_; refine jjd rfl rfl (by omega) ?_; apply jI; exact eB rfl; refine jT rfl rfl rfl ?_; apply jI; exact eI rfl; refine jT rfl rfl rfl ?_; apply jI; exact eS rfl; refine jT rfl rfl rfl ?_; refine Ops.indexAP 1 rfl rfl rfl rfl ?_; refine jT rfl rfl rfl ?_; refine jM ?_; refine jR C1 rfl rfl ?_; refine jT rfl rfl rfl ?_; refine jF rfl rfl rfl (map_get (by omega)) ?_; intro _ _ _; refine jT rfl rfl rfl ?_; refine jQ rfl rfl ?_; refine jT rfl rfl rfl ?_; refine jja rfl rfl (by omega) ?_; apply jK rfl; exact eB rfl; apply jI; exact eB rfl; refine jT rfl rfl rfl ?_; apply jI; exact eI rfl; refine jT rfl rfl rfl ?_; apply jI; exact eS rfl; refine jT rfl rfl rfl ?_; refine Ops.indexAP 0 rfl rfl rfl rfl ?_; refine jT rfl rfl rfl ?_; refine jN rfl rfl rfl ?_; refine jT rfl rfl rfl ?_; refine jF rfl rfl rfl (map_get (by omega)) ?_; intro _ _ _; refine jT rfl rfl rfl ?_; refine jQ rfl rfl ?_; refine jT rfl rfl rfl ?_; refine jji rfl rfl (by omega) ?_; refine jT rfl rfl rfl ?_; apply jI; exact eB rfl; refine jU rfl rfl rfl rfl ?_; refine jU rfl rfl rfl rfl ?_; refine jU rfl rfl rfl rfl ?_; refine jU rfl rfl rfl rfl ?_; refine jT rfl rfl rfl ?_; apply jL rfl; exact eB rfl; apply jL rfl; exact eB rfl; apply jI; exact eB rfl; refine jT rfl rfl rfl ?_; apply jI; exact eI rfl; refine jT rfl rfl rfl ?_; apply jI; exact eS rfl; refine jT rfl rfl rfl ?_; refine Ops.indexAP 1 rfl rfl rfl rfl ?_; refine jT rfl rfl rfl ?_; refine jM ?_; refine jR C1 rfl rfl ?_; refine jT rfl rfl rfl ?_; refine jF rfl rfl rfl (map_get (by omega)) ?_; intro _ _ _; refine jT rfl rfl rfl ?_; refine jQ rfl rfl ?_; refine jT rfl rfl rfl ?_; refine jjh rfl rfl (by omega) ?_; refine jT rfl rfl rfl ?_; apply jI; exact eB rfl; refine jT rfl rfl rfl ?_; apply jI; exact eI rfl; refine jT rfl rfl rfl ?_; refine Ops.indexAP 1 rfl rfl rfl rfl ?_; refine jT rfl rfl rfl ?_; refine jM ?_; refine jR C1 rfl rfl ?_; refine jT rfl rfl rfl ?_; refine jja rfl rfl (by omega) ?_; refine jT rfl rfl rfl ?_; apply jK rfl; exact eB rfl; apply jL rfl; exact eB rfl; refine jz ?_; refine jjK rfl ?_; refine jjG ?_; refine jjC ?_; refine jY rfl rfl (by omega) ?_; apply jI; exact eI rfl; refine jz ?_))
          exact ⟨rfl, by ((refine Same.upd rfl ?_; refine Same.upd rfl ?_; refine Same.upd rfl ?_; refine Same.upd rfl ?_; refine Same.upd rfl ?_; refine Same.upd rfl ?_; refine Same.upd rfl ?_; refine Same.upd rfl ?_; refine Same.upd rfl ?_; refine Same.upd rfl ?_; refine Same.upd rfl ?_; refine Same.upd rfl ?_; refine Same.upd rfl ?_; refine Same.upd rfl ?_; refine Same.upd rfl ?_; refine Same.upd rfl ?_; refine Same.upd rfl ?_; refine Same.upd rfl ?_; refine Same.upd rfl ?_; refine Same.upd rfl ?_; refine Same.upd rfl ?_; refine Same.upd rfl ?_; refine Same.upd rfl ?_; refine Same.upd rfl ?_; refine Same.upd rfl ?_; refine Same.upd rfl ?_; refine Same.upd rfl ?_; refine Same.upd rfl ?_; refine Same.upd rfl ?_; refine Same.upd rfl ?_; refine Same.upd rfl ?_; refine Same.upd rfl ?_; refine Same.upd rfl ?_; refine Same.upd rfl ?_; refine Same.upd rfl ?_; refine Same.upd rfl ?_; refine Same.upd rfl ?_; refine Same.upd rfl ?_; refine Same.upd rfl ?_; refine Same.upd rfl ?_; refine Same.upd rfl ?_; refine Same.upd rfl ?_; refine Same.upd rfl ?_; refine Same.upd rfl ?_; refine Same.upd rfl ?_; refine Same.upd rfl ?_; refine Same.upd rfl ?_; refine Same.upd rfl ?_; refine Same.upd rfl ?_; refine Same.upd rfl ?_; refine Same.upd rfl ?_; refine Same.upd rfl ?_; refine Same.upd rfl ?_; refine Same.upd rfl ?_; refine Same.upd rfl ?_; exact Same.ovN)), d.length - (t + 1), by omega, inferInstance, t + 1, congrArg (Value.int .i64) (by omega), rfl, by omega⟩
        · ((refine jjB ?_; refine jjC ?_; refine jjZ rfl rfl (by omega) ?_; refine jz ?_; refine jjB ?_; refine jjJ rfl ?_; refine jjG ?_; refine jjB ?_; refine jjD ?_; refine jjB ?_; refine jjC ?_; apply jI; exact eI rfl; refine jF rfl rfl rfl (map_get (by omega)) ?_; intro _ _ _; refine jQ rfl rfl ?_; apply jJ; exact eI rfl; apply jJ; exact eI rfl; refine jz ?_; refine jjB ?_; refine jjC ?_; apply jI; exact eI rfl; apply jI; exact eS rfl; refine Ops.indexAP 0 rfl rfl rfl rfl ?_; refine jN rfl rfl rfl ?_; refine jF rfl rfl rfl (map_get (by omega)) ?_; intro _ _ _; refine jQ rfl rfl ?_; refine jjd rfl rfl (by omega) ?_; apply jI; exact eB rfl; refine jT rfl rfl rfl ?_; apply jI; exact eI rfl; refine jT rfl rfl rfl ?_; apply jI; exact eS rfl; refine jT rfl rfl rfl ?_; refine Ops.indexAP 1 rfl rfl rfl rfl ?_; refine jT rfl rfl rfl ?_; refine jM ?_; refine jR C1 rfl rfl ?_; refine jT rfl rfl rfl ?_; refine jF rfl rfl rfl (map_get (by omega)) ?_; intro _ _ _; refine jT rfl rfl rfl ?_; refine jQ rfl rfl ?_; refine jT rfl rfl rfl ?_; refine jja rfl rfl (by omega) ?_; apply jK rfl; exact eB rfl; apply jI; exact eB rfl; refine jT rfl rfl rfl ?_; apply jI; exact eI rfl; refine jT rfl rfl rfl ?_; apply jI; exact eS rfl; refine jT rfl rfl rfl ?_; refine Ops.indexAP 0 rfl rfl rfl rfl ?_; refine jT rfl rfl rfl ?_; refine jN rfl rfl rfl ?_; refine jT rfl rfl rfl ?_; refine jF rfl rfl rfl (map_get (by omega)) ?_; intro _ _ _; refine jT rfl rfl rfl ?_; refine jQ rfl rfl ?_; refine jT rfl rfl rfl ?_; refine jji rfl rfl (by omega) ?_; refine jT rfl rfl rfl ?_; apply jI; exact eB rfl; refine jU rfl rfl rfl rfl ?_; refine jU rfl rfl rfl rfl ?_; refine jU rfl rfl rfl rfl ?_; refine jU rfl rfl rfl rfl ?_; refine jT rfl rfl rfl ?_; apply jL rfl; exact eB rfl; apply jL rfl; exact eB rfl; apply jI; exact eB rfl; refine jT rfl rfl rfl ?_; apply jI; exact eI rfl; refine jT rfl rfl rfl ?_; apply jI; exact eS rfl; refine jT rfl rfl rfl ?_; refine Ops.indexAP 1 rfl rfl rfl rfl ?_; refine jT rfl rfl rfl ?_; refine jM ?_; refine jR C1 rfl rfl ?_; refine jT rfl rfl rfl ?_; refine jF rfl rfl rfl (map_get (by omega)) ?_; intro _ _ _; refine jT rfl rfl rfl ?_; refine jQ rfl rfl ?_; refine jT rfl rfl rfl ?_; refine jji rfl rfl (by omega) ?_; refine jT rfl rfl rfl ?_; apply jI; exact eB rfl; refine jU rfl rfl rfl rfl ?_; refine jU rfl rfl rfl rfl ?_; refine jU rfl rfl rfl rfl ?_; refine jU rfl rfl rfl rfl ?_; refine jT rfl rfl rfl ?_; apply jL rfl; exact eB rfl; apply jL rfl; exact eB rfl; refine jz ?_; refine jjK rfl ?_; refine jjG ?_; refine jjC ?_; refine jY rfl rfl (by omega) ?_; apply jI; exact eI rfl; refine jz ?_))
          exact ⟨rfl, by ((refine Same.upd rfl ?_; refine Same.upd rfl ?_; refine Same.upd rfl ?_; refine Same.upd rfl ?_; refine Same.upd rfl ?_; refine Same.upd rfl ?_; refine Same.upd rfl ?_; refine Same.upd rfl ?_; refine Same.upd rfl ?_; refine Same.upd rfl ?_; refine Same.upd rfl ?_; refine Same.upd rfl ?_; refine Same.upd rfl ?_; refine Same.upd rfl ?_; refine Same.upd rfl ?_; refine Same.upd rfl ?_; refine Same.upd rfl ?_; refine Same.upd rfl ?_; refine Same.upd rfl ?_; refine Same.upd rfl ?_; refine Same.upd rfl ?_; refine Same.upd rfl ?_; refine Same.upd rfl ?_; refine Same.upd rfl ?_; refine Same.upd rfl ?_; refine Same.upd rfl ?_; refine Same.upd rfl ?_; refine Same.upd rfl ?_; refine Same.upd rfl ?_; refine Same.upd rfl ?_; refine Same.upd rfl ?_; refine Same.upd rfl ?_; refine Same.upd rfl ?_; refine Same.upd rfl ?_; refine Same.upd rfl ?_; refine Same.upd rfl ?_; refine Same.upd rfl ?_; refine Same.upd rfl ?_; refine Same.upd rfl ?_; refine Same.upd rfl ?_; refine Same.upd rfl ?_; refine Same.upd rfl ?_; refine Same.upd rfl ?_; refine Same.upd rfl ?_; refine Same.upd rfl ?_; refine Same.upd rfl ?_; refine Same.upd rfl ?_; refine Same.upd rfl ?_; refine Same.upd rfl ?_; refine Same.upd rfl ?_; refine Same.upd rfl ?_; refine Same.upd rfl ?_; refine Same.upd rfl ?_; refine Same.upd rfl ?_; refine Same.upd rfl ?_; exact Same.ovN)), d.length - (t + 1), by omega, inferInstance, t + 1, congrArg (Value.int .i64) (by omega), rfl, by omega⟩
      · by_cases c3 : d[t] = d[p]
        · have c4 := n2 c3
          ((refine jjB ?_; refine jjC ?_; refine jjZ rfl rfl (by omega) ?_; refine jz ?_; refine jjB ?_; refine jjJ rfl ?_; refine jjG ?_; refine jjB ?_; refine jjD ?_; refine jjB ?_; refine jjC ?_; apply jI; exact eI rfl; refine jF rfl rfl rfl (map_get (by omega)) ?_; intro _ _ _; refine jQ rfl rfl ?_; apply jJ; exact eI rfl; apply jJ; exact eI rfl; refine jz ?_; refine jjB ?_; refine jjC ?_; apply jI; exact eI rfl; apply jI; exact eS rfl; refine Ops.indexAP 0 rfl rfl rfl rfl ?_; refine jN rfl rfl rfl ?_; refine jF rfl rfl rfl (map_get (by omega)) ?_; intro _ _ _; refine jQ rfl rfl ?_; refine jje rfl rfl (by omega) ?_; apply jI; exact eB rfl; refine jU rfl rfl rfl rfl ?_; refine jU rfl rfl rfl rfl ?_; refine jU rfl rfl rfl rfl ?_; refine jU rfl rfl rfl rfl ?_; refine jU rfl rfl rfl rfl ?_; refine jU rfl rfl rfl rfl ?_; refine jU rfl rfl rfl rfl ?_; apply jL rfl; exact eB rfl; apply jI; exact eB rfl; refine jT rfl rfl rfl ?_; apply jI; exact eI rfl; refine jT rfl rfl rfl ?_; apply jI; exact eS rfl; refine jT rfl rfl rfl ?_; refine Ops.indexAP 0 rfl rfl rfl rfl ?_; refine jT rfl rfl rfl ?_; refine jN rfl rfl rfl ?_; refine jT rfl rfl rfl ?_; refine jF rfl rfl rfl (map_get (by omega)) ?_; intro _ _ _; refine jT rfl rfl rfl ?_; refine jQ rfl rfl ?_; refine jT rfl rfl rfl ?_; refine jjh rfl rfl (by omega) ?_; refine jT rfl rfl rfl ?_; apply jI; exact eB rfl; refine jT rfl rfl rfl ?_; apply jI; exact eI rfl; refine jT rfl rfl rfl ?_; refine Ops.indexAP 0 rfl rfl rfl rfl ?_; refine jT rfl rfl rfl ?_; refine jN rfl rfl rfl ?_; refine jT rfl rfl rfl ?_; refine jje rfl rfl (by omega) ?_; refine jT rfl rfl rfl ?_; apply jK rfl; exact eB rfl; apply jL rfl; exact eB rfl; apply jI; exact eB rfl; refine jT rfl rfl rfl ?_; apply jI; exact eI rfl; refine jT rfl rfl rfl ?_; apply jI; exact eS rfl; refine jT rfl rfl rfl ?_; refine Ops.indexAP 1 rfl rfl rfl rfl ?_; refine jT rfl rfl rfl ?_; refine jM ?_; refine jR C1 rfl rfl ?_; refine jT rfl rfl rfl ?_; refine jF rfl rfl rfl (map_get (by omega)) ?_; intro _ _ _; refine jT rfl rfl rfl ?_; refine jQ rfl rfl ?_; refine jT rfl rfl rfl ?_; refine jji rfl rfl (by omega) ?_; refine jT rfl rfl rfl ?_; apply jI; exact eB rfl; refine jU rfl rfl rfl rfl ?_; refine jU rfl rfl rfl rfl ?_; refine jU rfl rfl rfl rfl ?_; refine jU rfl rfl rfl rfl ?_; refine jT rfl rfl rfl ?_; apply jL rfl; exact eB rfl; apply jL rfl; exact eB rfl; refine jz ?_; refine jjK rfl ?_; refine jjG ?_; refine jjC ?_; refine jY rfl rfl (by omega) ?_; apply jI; exact eI rfl; refine jz ?_))
          exact ⟨rfl, by ((refine Same.upd rfl ?_; refine Same.upd rfl ?_; refine Same.upd rfl ?_; refine Same.upd rfl ?_; refine Same.upd rfl ?_; refine Same.upd rfl ?_; refine Same.upd rfl ?_; refine Same.upd rfl ?_; refine Same.upd rfl ?_; refine Same.upd rfl ?_; refine Same.upd rfl ?_; refine Same.upd rfl ?_; refine Same.upd rfl ?_; refine Same.upd rfl ?_; refine Same.upd rfl ?_; refine Same.upd rfl ?_; refine Same.upd rfl ?_; refine Same.upd rfl ?_; refine Same.upd rfl ?_; refine Same.upd rfl ?_; refine Same.upd rfl ?_; refine Same.upd rfl ?_; refine Same.upd rfl ?_; refine Same.upd rfl ?_; refine Same.upd rfl ?_; refine Same.upd rfl ?_; refine Same.upd rfl ?_; refine Same.upd rfl ?_; refine Same.upd rfl ?_; refine Same.upd rfl ?_; refine Same.upd rfl ?_; refine Same.upd rfl ?_; refine Same.upd rfl ?_; refine Same.upd rfl ?_; refine Same.upd rfl ?_; refine Same.upd rfl ?_; refine Same.upd rfl ?_; refine Same.upd rfl ?_; refine Same.upd rfl ?_; refine Same.upd rfl ?_; refine Same.upd rfl ?_; refine Same.upd rfl ?_; refine Same.upd rfl ?_; refine Same.upd rfl ?_; refine Same.upd rfl ?_; refine Same.upd rfl ?_; refine Same.upd rfl ?_; refine Same.upd rfl ?_; refine Same.upd rfl ?_; refine Same.upd rfl ?_; refine Same.upd rfl ?_; refine Same.upd rfl ?_; refine Same.upd rfl ?_; refine Same.upd rfl ?_; refine Same.upd rfl ?_; exact Same.ovN)), d.length - (t + 1), by omega, inferInstance, t + 1, congrArg (Value.int .i64) (by omega), rfl, by omega⟩
        · ((refine jjB ?_; refine jjC ?_; refine jjZ rfl rfl (by omega) ?_; refine jz ?_; refine jjB ?_; refine jjJ rfl ?_; refine jjG ?_; refine jjB ?_; refine jjD ?_; refine jjB ?_; refine jjC ?_; apply jI; exact eI rfl; refine jF rfl rfl rfl (map_get (by omega)) ?_; intro _ _ _; refine jQ rfl rfl ?_; apply jJ; exact eI rfl; apply jJ; exact eI rfl; refine jz ?_; refine jjB ?_; refine jjC ?_; apply jI; exact eI rfl; apply jI; exact eS rfl; refine Ops.indexAP 0 rfl rfl rfl rfl ?_; refine jN rfl rfl rfl ?_; refine jF rfl rfl rfl (map_get (by omega)) ?_; intro _ _ _; refine jQ rfl rfl ?_; refine jje rfl rfl (by omega) ?_; apply jI; exact eB rfl; refine jU rfl rfl rfl rfl ?_; refine jU rfl rfl rfl rfl ?_; refine jU rfl rfl rfl rfl ?_; refine jU rfl rfl rfl rfl ?_; refine jU rfl rfl rfl rfl ?_; refine jU rfl rfl rfl rfl ?_; refine jU rfl rfl rfl rfl ?_; apply jL rfl; exact eB rfl; apply jI; exact eB rfl; refine jT rfl rfl rfl ?_; apply jI; exact eI rfl; refine jT rfl rfl rfl ?_; apply jI; exact eS rfl; refine jT rfl rfl rfl ?_; refine Ops.indexAP 0 rfl rfl rfl rfl ?_; refine jT rfl rfl rfl ?_; refine jN rfl rfl rfl ?_; refine jT rfl rfl rfl ?_; refine jF rfl rfl rfl (map_get (by omega)) ?_; intro _ _ _; refine jT rfl rfl rfl ?_; refine jQ rfl rfl ?_; refine jT rfl rfl rfl ?_; refine jji rfl rfl (by omega) ?_; refine jT rfl rfl rfl ?_; apply jI; exact eB rfl; refine jU rfl rfl rfl rfl ?_; refine jU rfl rfl rfl rfl ?_; refine jU rfl rfl rfl rfl ?_; refine jU rfl rfl rfl rfl ?_; refine jT rfl rfl rfl ?_; apply jL rfl; exact eB rfl; apply jL rfl; exact eB rfl; apply jI; exact eB rfl; refine jT rfl rfl rfl ?_; apply jI; exact eI rfl; refine jT rfl rfl rfl ?_; apply jI; exact eS rfl; refine jT rfl rfl rfl ?_; refine Ops.indexAP 1 rfl rfl rfl rfl ?_; refine jT rfl rfl rfl ?_; refine jM ?_; refine jR C1 rfl rfl ?_; refine jT rfl rfl rfl ?_; refine jF rfl rfl rfl (map_get (by omega)) ?_; intro _ _ _; refine jT rfl rfl rfl ?_; refine jQ rfl rfl ?_; refine jT rfl rfl rfl ?_; refine jji rfl rfl (by omega) ?_; refine jT rfl rfl rfl ?_; apply jI; exact eB rfl; refine jU rfl rfl rfl rfl ?_; refine jU rfl rfl rfl rfl ?_; refine jU rfl rfl rfl rfl ?_; refine jU rfl rfl rfl rfl ?_; refine jT rfl rfl rfl ?_; apply jL rfl; exact eB rfl; apply jL rfl; exact eB rfl; refine jz ?_; refine jjK rfl ?_; refine jjG ?_; refine jjC ?_; refine jY rfl rfl (by omega) ?_; apply jI; exact eI rfl; refine jz ?_))
          exact ⟨rfl, by ((refine Same.upd rfl ?_; refine Same.upd rfl ?_; refine Same.upd rfl ?_; refine Same.upd rfl ?_; refine Same.upd rfl ?_; refine Same.upd rfl ?_; refine Same.upd rfl ?_; refine Same.upd rfl ?_; refine Same.upd rfl ?_; refine Same.upd rfl ?_; refine Same.upd rfl ?_; refine Same.upd rfl ?_; refine Same.upd rfl ?_; refine Same.upd rfl ?_; refine Same.upd rfl ?_; refine Same.upd rfl ?_; refine Same.upd rfl ?_; refine Same.upd rfl ?_; refine Same.upd rfl ?_; refine Same.upd rfl ?_; refine Same.upd rfl ?_; refine Same.upd rfl ?_; refine Same.upd rfl ?_; refine Same.upd rfl ?_; refine Same.upd rfl ?_; refine Same.upd rfl ?_; refine Same.upd rfl ?_; refine Same.upd rfl ?_; refine Same.upd rfl ?_; refine Same.upd rfl ?_; refine Same.upd rfl ?_; refine Same.upd rfl ?_; refine Same.upd rfl ?_; refine Same.upd rfl ?_; refine Same.upd rfl ?_; refine Same.upd rfl ?_; refine Same.upd rfl ?_; refine Same.upd rfl ?_; refine Same.upd rfl ?_; refine Same.upd rfl ?_; refine Same.upd rfl ?_; refine Same.upd rfl ?_; refine Same.upd rfl ?_; refine Same.upd rfl ?_; refine Same.upd rfl ?_; refine Same.upd rfl ?_; refine Same.upd rfl ?_; refine Same.upd rfl ?_; refine Same.upd rfl ?_; refine Same.upd rfl ?_; refine Same.upd rfl ?_; refine Same.upd rfl ?_; refine Same.upd rfl ?_; refine Same.upd rfl ?_; refine Same.upd rfl ?_; exact Same.ovN)), d.length - (t + 1), by omega, inferInstance, t + 1, congrArg (Value.int .i64) (by omega), rfl, by omega⟩
    rw [← ep] at hle
    rw [← eq] at hnx
    ((refine jjB ?_; refine jjC ?_; refine jja rfl rfl (by omega) ?_; refine jz ?_; refine jjB ?_; refine jjK rfl ?_; refine jjE ?_; refine jjB ?_; refine jjB ?_; refine jjC ?_; apply jI; exact eS rfl; refine Ops.indexAP 0 rfl rfl rfl rfl ?_; refine jN rfl rfl rfl ?_; refine jF rfl rfl rfl (map_get (by omega)) ?_; intro _ _ _; refine jQ rfl rfl ?_; apply jI; exact eI rfl; refine jja rfl rfl (by omega) ?_; refine jz ?_; refine jjK rfl ?_; refine jjG ?_; refine jjC ?_; apply jI; exact eS rfl; refine Ops.indexAP 1 rfl rfl rfl rfl ?_; refine jM ?_; refine jR C1 rfl rfl ?_; refine jF rfl rfl rfl (map_get (by omega)) ?_; intro _ _ _; refine jQ rfl rfl ?_; apply jJ; exact eI rfl; refine jz ?_; refine jjC ?_; refine jY rfl rfl (by omega) ?_; apply jI; exact eI rfl; refine jz ?_))
    exact ⟨rfl, by ((refine Same.upd rfl ?_; refine Same.upd rfl ?_; refine Same.upd rfl ?_; refine Same.upd rfl ?_; refine Same.upd rfl ?_; refine Same.upd rfl ?_; refine Same.upd rfl ?_; refine Same.upd rfl ?_; refine Same.upd rfl ?_; refine Same.upd rfl ?_; refine Same.upd rfl ?_; refine Same.upd rfl ?_; refine Same.upd rfl ?_; refine Same.upd rfl ?_; refine Same.upd rfl ?_; refine Same.upd rfl ?_; refine Same.upd rfl ?_; refine Same.ovN' rfl ?_; assumption)), P.length - (i + 1), by omega, inferInstance, i + 1, d[q], congrArg (Value.int .i64) (by omega), rfl, rfl, by omega, hnx⟩
  obtain rfl : i = P.length := by omega
  have hE52 : Ext w5 V2 := inferInstance
  have hl2 : RowV V2 false 1 (.slice la rs.length lc) (rs.map encW) := hL5.ext hE52
  have hI2 : RowsI V2 rs := hI5.ext hE52
  have hEw2 : Ext w V2 := inferInstance
  have hS2' := hEw2.toStep
  obtain ⟨X, hX⟩ : ∃ X : Nat, wh % ((k + 1 : Nat) : Int) = (X : Int) := ⟨(wh % ((k + 1 : Nat) : Int)).toNat, by have := Int.emod_nonneg wh (show ((k + 1 : Nat) : Int) ≠ 0 by omega); omega⟩
  have hXl : X < rs.length := by have := Int.emod_lt_of_pos wh (show 0 < ((k + 1 : Nat) : Int) by omega); omega
  have hcap := hl2.cap
  rw [List.length_map] at hcap
  (refine jjB ?_; refine jjC ?_; refine jja rfl rfl (by omega) ?_; refine jz ?_; refine jjB ?_; refine jjK rfl ?_; refine jjE ?_; refine jjB ?_; refine jjC ?_)
  refine Ops.buildSlice0 ?_
  intro b10 w10 hb10 hs10 hS10 hk10
  have hO10 := OwnL.empty (agg := false) (k := 1) (B := V2.heap.size) (by omega) hk10
  (apply jI; exact eS rfl; apply jI; exact eI rfl)
  refine Ops.convI rfl rfl (wrapi (by omega) (by omega)) ?_
  (apply jI; exact eI rfl)
  refine Ops.rem rfl rfl (by omega) (by omega) ?_
  rw [hX]
  refine Ops.sliceXHv (k := 1) (hi := X) rfl rfl rfl (by omega) (by omega) ?_
  have r1 : RowV w10 false 1 (.slice la X lc) ((rs.take X).map encW) := by
    have := (hl2.ext hS10.ext).takeV (hi := X) (by rw [List.length_map]; omega)
    rwa [← List.map_take] at this
  refine Ops.appendL hO10 (by omega) r1 rfl rfl rfl rfl (all_encW' _) (by simp only [List.length_map, List.length_nil, List.length_take]; omega) (by simp only [List.length_map, List.length_nil, List.length_take]; omega) ?_
  intro v11 w11 hA11 hO11 _ _
  rw [List.nil_append] at hO11
  have hE11 : Ext V2 w11 := hA11.ext hS10.ext (Nat.le_refl _)
  have hS11 := hE11.toStep
  have r2 : RowV w11 false 1 (cutV la lc 1 (X + 1) rs.length) ((rs.drop (X + 1)).map encW) := by
    have := (hl2.ext hE11).dropV (lo := X + 1) (by rw [List.length_map]; omega)
    rwa [← List.map_drop] at this
  (apply jJ; exact rfl; refine jz ?_; refine jjB ?_; refine jjC ?_; apply jI; exact rfl; apply jI; exact eS rfl; apply jI; exact eI rfl)
  refine Ops.convI rfl rfl (wrapi (by omega) (by omega)) ?_
  (apply jI; exact eI rfl)
  refine Ops.rem rfl rfl (by omega) (by omega) ?_
  rw [hX]
  (refine jY rfl rfl (by omega) ?_)
  refine Ops.sliceXLv (k := 1) (lo := X + 1) rfl rfl (by omega) (by omega) ?_
  refine Ops.appendL hO11 hE11.size r2 rfl rfl rfl rfl (all_encW' _) (by simp only [List.length_map, List.length_drop, List.length_take]; omega) (by simp only [List.length_map, List.length_drop, List.length_take]; omega) ?_
  intro v12 w12 hA12 hO12 _ _
  have hE12 : Ext V2 w12 := hA12.ext hE11 (Nat.le_refl _)
  have hS12 := hE12.toStep
  obtain ⟨N, hN⟩ : ∃ N, N = rs.take X ++ rs.drop (X + 1) := ⟨_, rfl⟩
  have hNl : N.length = k := by rw [hN, List.length_append, List.length_take, List.length_drop]; omega
  have hNi : ∀ x ∈ N, x ∈ rs := fun x hv => by rw [hN] at hv; rcases List.mem_append.1 hv with h | h; exact List.mem_of_mem_take h; exact List.mem_of_mem_drop h
  have hNL : PlanL d.length (b : Int) N := fun x hx => hL x (hNi x hx)
  rw [← List.map_append, ← hN] at hO12
  obtain ⟨na, nc, rfl⟩ := hO12.slice
  rw [List.length_map] at hO12 ⊢
  have iN : RowI w12 (.slice na N.length nc) false 1 (N.map encW) := ⟨hO12.row⟩
  have iNs : RowsI w12 N := ⟨fun x hx => (hI2.h x (hNi x hx)).ext hE12⟩
  have hNg := planL_good hNL (by omega)
  have hNo := plan_few (by omega) hNL hp hNl
  (apply jJ; exact eS rfl; refine jz ?_; refine jjB ?_; refine jjC ?_; apply jI; exact eS rfl; apply jI; exact eI rfl; apply jI; exact eS rfl)
  refine jjQ (Sort_rack a na c nc d (b : Int) N _ hl (by omega)) rfl rfl ?_
  rintro _ w13 hS13 (⟨h, -⟩ | ⟨-, h, -⟩ | ⟨-, -, av, cv, rfl, hO13⟩)
  · exact absurd hop h
  · rw [hNg] at h; exact absurd h (by decide)
  (apply jI; exact eU rfl; refine ju rfl rfl ?_; refine ju rfl rfl ?_; apply jJ; exact eS rfl; apply jJ; exact eI rfl; refine jz ?_; refine jjB ?_; refine jjC ?_; apply jI; exact eS rfl; apply jI; exact eI rfl; apply jI; exact eS rfl; apply jI; exact eI rfl; apply jI; exact eI rfl; refine jZ rfl rfl (by omega) ?_; apply jI; exact eS rfl)
  rw [hP1]
  refine jjQ (chosen_law6 a c d ba bc by_ (b : Int) k hu ⟨by omega, by omega⟩ (by omega) hd60 _) rfl rfl ?_
  rintro _ w14 hS14 ⟨qa, qc, qs, rfl, hql, hqL, hQ, hQI⟩
  have iQ : RowI w14 (.slice qa qs.length qc) false 1 (qs.map encW) := ⟨hQ⟩
  have hqg := planL_good hqL (by omega)
  have hqo := plan_few (by omega) hqL hp hql
  skip
  refine jjQ (Sort_rack a qa c qc d (b : Int) qs _ hl (by omega)) rfl rfl ?_
  rintro _ w15 hS15 (⟨h, -⟩ | ⟨-, h, -⟩ | ⟨-, -, bv, ev', rfl, hO15⟩)
  · exact absurd hop h
  · rw [hqg] at h; exact absurd h (by decide)
  have i13 : RowI w15 (.slice av (sortF d.length N).length cv) false 1 ((sortF d.length N).map intV) := ⟨by rw [sortF_len _ _]; exact (hO13.ext (hS14.ext.trans hS15.ext)).row⟩
  have i15 : RowI w15 (.slice bv (sortF d.length qs).length ev') false 1 ((sortF d.length qs).map intV) := ⟨by rw [sortF_len _ _]; exact hO15.row⟩
  (apply jI; exact eU rfl; refine ju rfl rfl ?_; refine ju rfl rfl ?_; apply jJ; exact eS rfl; apply jJ; exact eI rfl; refine jz ?_; refine jjB ?_; refine jjC ?_; apply jI; exact eB rfl; apply jI; exact eB rfl; refine jT rfl rfl rfl ?_; apply jI; exact eS rfl; refine jT rfl rfl rfl ?_; refine jh rfl ?_; refine jT rfl rfl rfl ?_; apply jI; exact eI rfl; refine jT rfl rfl rfl ?_; refine jjh rfl rfl (by omega) ?_; apply jK rfl; exact eB rfl; apply jI; exact eB rfl; refine jT rfl rfl rfl ?_; apply jI; exact eI rfl; refine jT rfl rfl rfl ?_; refine jjh rfl rfl (by omega) ?_; apply jK rfl; exact eB rfl; apply jI; exact eB rfl; refine jT rfl rfl rfl ?_; apply jI; exact eS rfl; refine jT rfl rfl rfl ?_; apply jI; exact eS rfl; refine jT rfl rfl rfl ?_)
  refine jjQ ((sorted_law6 a av c cv d (sortF d.length N) _ (by rw [sortF_len _ _]; omega)).mono fun v _ _ e => e.trans (by rw [sortB_no hNo])) rfl (by rw [sortF_len _ _]; rfl) ?_
  rintro _ w16 hS16 rfl
  (refine jT rfl rfl rfl ?_; refine jq rfl ?_; apply jK rfl; exact eB rfl; apply jI; exact eB rfl; refine jT rfl rfl rfl ?_; apply jI; exact eI rfl; refine jT rfl rfl rfl ?_; refine jjh rfl rfl (by omega) ?_; apply jK rfl; exact eB rfl; apply jI; exact eB rfl; refine jT rfl rfl rfl ?_; apply jI; exact eS rfl; refine jT rfl rfl rfl ?_; apply jI; exact eS rfl; refine jT rfl rfl rfl ?_)
  refine jjQ ((sorted_law6 a bv c ev' d (sortF d.length qs) _ (by rw [sortF_len _ _]; omega)).mono fun v _ _ e => e.trans (by rw [sortB_no hqo])) rfl (by rw [sortF_len _ _]; rfl) ?_
  rintro _ w17 hS17 rfl
  (refine jT rfl rfl rfl ?_; refine jq rfl ?_; apply jK rfl; exact eB rfl; apply jJ; exact eB rfl; refine jz ?_; refine jjF ?_; refine jB rfl rfl ⟨inferInstance, ?_⟩)
  exact rfl
end
end Go.Proofs.YtpijeomnplmakaaGreatDoor
