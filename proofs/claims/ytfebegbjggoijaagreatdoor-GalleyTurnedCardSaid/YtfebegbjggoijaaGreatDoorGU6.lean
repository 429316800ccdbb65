/- Texts of the proof, part 6: LawGu. -/
import Derived.Test.YtfebegbjggoijaaGreatDoorGU5
/- The law: turned round columns may end at the same numbers; a block behind all others changes nothing before it. -/
namespace Go.Proofs.YtfebegbjggoijaaGreatDoor
open Go.RowKit

theorem rev_step {bs : List Blk} {i : Nat} (hi : i < bs.length) : (bs.reverse.take i ++ bs.drop i).set i (bs[bs.length - 1 - i]'(by omega)) = bs.reverse.take (i + 1) ++ bs.drop (i + 1) := by
  have hr : i < bs.reverse.length := by rw [List.length_reverse]; exact hi
  have e : bs.reverse[i]'hr = bs[bs.length - 1 - i]'(by omega) := List.getElem_reverse _
  rw [← e, take_snoc_get (List.getElem?_eq_getElem hr), List.drop_eq_getElem_cons hi, List.set_append_right _ _ (by rw [List.length_take]; omega)]
  have h0 : i - (bs.reverse.take i).length = 0 := by rw [List.length_take]; omega
  rw [h0, List.set_cons_zero, List.append_assoc]
  rfl
section
variable (h : Int) (a : Option Addr) (c : Nat) (bs : List Blk) (more : Blk) (w : World) [hgs : At w 2 0 sidesC] [htn : At w 1 0 tornC] [hnn : At w 0 0 noneC]
set_option maxRecDepth 20000 in
set_option maxHeartbeats 8000000 in
theorem GalleyTurned_law [hrow : RowI w (.slice a bs.length c) true 2 (bs.map encB)] :
    Ct Tryz.prog 7 [.agg #[.int .i64 h, .slice a bs.length c], encB more] w fun v _ => v = .bool true := by
  refine Ct.ofW (by simp) ?_
  (refine jjB ?_; refine jjC ?_)
  (refine jy rfl ?_; intro b2 w_b2 hb_b2 hs_b2 hS_b2 hk_b2; have hA_b2 := At.ofBlock hk_b2)
  skip
  (refine jy rfl ?_; intro b3 w_b3 hb_b3 hs_b3 hS_b3 hk_b3; have hA_b3 := At.ofBlock hk_b3)
  (apply jJ; exact eB rfl; refine jz ?_; refine jjB ?_; refine jjC ?_)
  refine jjQ (alive_law8 _) rfl rfl ?_
  rintro _ w3 hS3 rfl
  obtain ⟨R, hR⟩ : ∃ R, (greatB bs || decide (700 < 0)) = R := ⟨_, rfl⟩
  (apply jJ; exact eB rfl; refine jz ?_; refine jjB ?_; refine jjB ?_; refine jjC ?_; refine jO rfl rfl rfl rfl ?_)
  refine jjQ ((great_ref h a c bs none 0 0 _).mono fun v _ _ h => h.trans (by rw [hR])) rfl rfl ?_
  rintro _ w4 hS4 rfl
  cases R with
  | true =>
    (apply jI; exact eB rfl; refine jU rfl rfl rfl rfl ?_; refine jU rfl rfl rfl rfl ?_; refine jU rfl rfl rfl rfl ?_; apply jK rfl; exact eB rfl; apply jI; exact eB rfl; refine jU rfl rfl rfl rfl ?_; refine jU rfl rfl rfl rfl ?_; refine jU rfl rfl rfl rfl ?_; refine jU rfl rfl rfl rfl ?_; apply jK rfl; exact eB rfl; apply jI; exact eB rfl; refine jU rfl rfl rfl rfl ?_; refine jU rfl rfl rfl rfl ?_; apply jK rfl; exact eB rfl; refine jz ?_; refine jjJ rfl ?_; refine jjB ?_; refine jjC ?_; apply jI; exact eB rfl; apply jJ; exact eB rfl; refine jz ?_; refine jjF ?_; refine jB rfl rfl ⟨inferInstance, ?_⟩)
    exact rfl
  | false =>
  have hgr : greatB bs = false := by simpa using hR
  have hsz := great_no hgr
  have hbz : ∀ b ∈ bs, b.1.size ≤ 140737488351232 := fun b hb => by have := hsz.2 b hb; omega
  obtain ⟨G, hG⟩ : ∃ G, galleyB h bs = G := ⟨_, rfl⟩
  (apply jI; exact eB rfl; refine jT rfl rfl rfl ?_; refine jO rfl rfl rfl rfl ?_; refine jT rfl rfl rfl ?_)
  refine jjQ ((Galley_ref h a c bs _ hbz (by omega)).mono fun v _ _ h => h.trans (by rw [hG])) rfl rfl ?_
  rintro _ w5 hS5 rfl
  cases G with
  | false =>
    (refine jT rfl rfl rfl ?_; refine jq rfl ?_; apply jL rfl; exact eB rfl; apply jI; exact eB rfl; refine jU rfl rfl rfl rfl ?_; refine jU rfl rfl rfl rfl ?_; refine jU rfl rfl rfl rfl ?_; refine jU rfl rfl rfl rfl ?_; apply jK rfl; exact eB rfl; apply jI; exact eB rfl; refine jU rfl rfl rfl rfl ?_; refine jU rfl rfl rfl rfl ?_; apply jK rfl; exact eB rfl; refine jz ?_; refine jjJ rfl ?_; refine jjB ?_; refine jjC ?_; apply jI; exact eB rfl; apply jJ; exact eB rfl; refine jz ?_; refine jjF ?_; refine jB rfl rfl ⟨inferInstance, ?_⟩)
    exact rfl
  | true =>
  obtain ⟨hh, hlb, hbb, hs1, hs2⟩ := galley_yes hG
  have hge : gErr h bs = 0 := by rw [gErr, hG]; rfl
  by_cases hmz : 40 < more.1.size
  · (refine jT rfl rfl rfl ?_; refine jp rfl ?_; apply jL rfl; exact eB rfl; apply jI; exact eB rfl; refine jT rfl rfl rfl ?_; refine jm ?_; refine jn rfl ?_; refine jT rfl rfl rfl ?_; refine jN rfl rfl rfl ?_; refine jT rfl rfl rfl ?_; refine ji rfl ?_; refine jT rfl rfl rfl ?_; refine jjd rfl rfl (by omega) ?_; apply jL rfl; exact eB rfl; apply jI; exact eB rfl; refine jU rfl rfl rfl rfl ?_; refine jU rfl rfl rfl rfl ?_; apply jK rfl; exact eB rfl; refine jz ?_; refine jjJ rfl ?_; refine jjB ?_; refine jjC ?_; apply jI; exact eB rfl; apply jJ; exact eB rfl; refine jz ?_; refine jjF ?_; refine jB rfl rfl ⟨inferInstance, ?_⟩)
    exact rfl
  obtain ⟨pb, po, rfl, -⟩ := hrow.h.place (map_get (show 0 < bs.length by omega))
  have hA3 : At w5 b3 0 [.string more.1, .int .i64 more.2] := inferInstance
  (refine jT rfl rfl rfl ?_; refine jp rfl ?_; apply jL rfl; exact eB rfl; apply jI; exact eB rfl; refine jT rfl rfl rfl ?_; refine jm ?_; refine jn rfl ?_; refine jT rfl rfl rfl ?_; refine jN rfl rfl rfl ?_; refine jT rfl rfl rfl ?_; refine ji rfl ?_; refine jT rfl rfl rfl ?_; refine jje rfl rfl (by omega) ?_; apply jL rfl; exact eB rfl; apply jI; exact eB rfl; refine jT rfl rfl rfl ?_; apply jI; exact eB rfl; refine jT rfl rfl rfl ?_; refine jp rfl ?_; apply jL rfl; exact eB rfl; refine jz ?_; refine jjK rfl ?_; refine jjG ?_; refine jjB ?_; refine jjC ?_; refine jO rfl rfl rfl rfl ?_)
  refine jjQ (Twin_ref h (some ⟨pb, po, none⟩) c bs _ (by omega)) rfl rfl ?_
  rintro _ w6 hS6 ⟨a6, c6, rfl, hO6⟩
  obtain ⟨g6, rfl⟩ := own_addr hO6 (by omega)
  skip
  (apply jjR rfl; (intro _; first|exact eI rfl|exact eB rfl|exact eP rfl|exact eS rfl|exact eT rfl|exact eA rfl|exact eU rfl|exact eF rfl|exact eM rfl|exact eN rfl|exact rfl); exact rfl; exact rfl; exact rfl; exact rfl; intro b6 w_b6 hb_b6 hs_b6 hS_b6 hk_b6; have hA_b6 := Bk.of hk_b6)
  have hB6 : Bk w_b6 b6 [.int .i64 h, .slice (some ⟨g6, 0, none⟩) bs.length c6] 24 := hA_b6
  have hOb6 := hO6.ext hS_b6.ext
  have zb6 := hS_b6.size
  have z6 := hS6.size
  have hg6 := (hO6.block g6 rfl)
  have hE5 : Ext w w5 := inferInstance
  have hEb6 : Ext w5 w_b6 := inferInstance
  have hx2 : At w5 b2 0 [.int .i64 h, .slice (some ⟨pb, po, none⟩) bs.length c] := inferInstance
  have ir5 : RowI w5 (.slice (some ⟨pb, po, none⟩) bs.length c) true 2 (bs.map encB) := inferInstance
  have htn5 : At w5 1 0 tornC := inferInstance
  (refine jz ?_; refine jjB ?_; refine jjB ?_; refine jjC ?_; refine jm ?_; refine jn rfl ?_; refine jN rfl rfl rfl ?_; refine jh rfl ?_; apply jI; exact eI rfl; refine jz ?_; refine jjD ?_)
  clear hS3 hS4 hS5
  refine W.keep0 [(2, .pointer (some ⟨b2, 0, none⟩)), (3, .pointer (some ⟨b3, 0, none⟩)), (5, .bool true), (6, .pointer (some ⟨b6, 0, none⟩)), (43, .int .i64 (bs.length : Int)), (44, .int .i64 ((0 : Nat) : Int))] ⟨eP rfl, eP rfl, eB rfl, eP rfl, eI rfl, eI rfl, trivial⟩ fun s0 => ?_
  refine W.loopG (45 :: 46 :: 7 :: 47 :: 48 :: 49 :: 50 :: 51 :: 52 :: 53 :: 54 :: 55 :: 56 :: 57 :: 58 :: 59 :: 60 :: 61 :: 44 :: []) (fun g s' V => ∃ (i : Nat) (yy : List Blk), s' 44 = .int .i64 ((i : Nat) : Int) ∧ g = bs.length - i ∧ i ≤ bs.length ∧ yy = bs.reverse.take i ++ bs.drop i ∧ Ext w5 V ∧ Bk V b6 [.int .i64 h, .slice (some ⟨g6, 0, none⟩) bs.length c6] 24 ∧ OwnL V w5.heap.size 37 true 2 (.slice (some ⟨g6, 0, none⟩) bs.length c6) (yy.map encB)) bs.length ⟨0, bs, rfl, rfl, Nat.zero_le _, by simp, hEb6, hB6, hOb6⟩ ?_
  rintro _ sd V ⟨i, yy, h44, rfl, hi, hyy, hEV, hBV, hOV⟩
  refine W.fix (d := 44) h44 ?_
  clear h44
  have sV : Step w5 V := hEV.toStep
  have hyl : yy.length = bs.length := by rw [hyy, List.length_append, List.length_take, List.length_drop, List.length_reverse]; omega
  by_cases hi3 : i < bs.length
  · have hAt6 : At V b6 0 [.int .i64 h, .slice (some ⟨g6, 0, none⟩) bs.length c6] := Bk.toAt (h := hBV)
    have hAj5 := place_at8 ir5.h (map_get (show bs.length - 1 - i < bs.length by omega))
    have hset := rev_step hi3
    rw [← hyy] at hset
    (refine jjB ?_; refine jjC ?_; refine jjZ rfl rfl (by omega) ?_; refine jz ?_; refine jjB ?_; refine jjJ rfl ?_; refine jjG ?_; refine jjB ?_; refine jjD ?_; refine jjB ?_; refine jjC ?_; apply jI; exact eI rfl; apply jJ; exact eI rfl; refine jz ?_)
    refine W.draw (fun w' => Ext w5 w' ∧ Bk w' b6 [.int .i64 h, .slice (some ⟨g6, 0, none⟩) bs.length c6] 24) ?_
    intro w7 hS7
    have S7 : Ext w5 w7 ∧ Bk w7 b6 [.int .i64 h, .slice (some ⟨g6, 0, none⟩) bs.length c6] 24 := ⟨hEV.trans hS7.ext, hBV.ext hS7.ext⟩
    have hO7 := hOV.ext hS7.ext
    have z7 := hEV.size
    refine jjV [0, 1, 2, 3, 4, 5, 6, 7, 8, 9, 10] (by decide +kernel) S7 ?_
    (((apply jjT; exact rfl; rintro w' hq; have := hq.1.toStep; have := Bk.toAt (h := hq.2); refine jm ?_; refine jn rfl ?_; refine jz ?_; exact ⟨rfl, rfl⟩; apply jjT; exact rfl; rintro w' hq; have := hq.1.toStep; have := Bk.toAt (h := hq.2); refine jN rfl rfl rfl ?_; refine jz ?_; exact ⟨rfl, rfl⟩; apply jjT; exact rfl; rintro w' hq; have := hq.1.toStep; have := Bk.toAt (h := hq.2); apply jI; exact eI rfl; refine jz ?_; exact ⟨rfl, rfl⟩; apply jjT; exact rfl; rintro w' hq; have := hq.1.toStep; have := Bk.toAt (h := hq.2); refine jm ?_; refine jn rfl ?_; refine jz ?_; exact ⟨rfl, rfl⟩; apply jjT; exact rfl; rintro w' hq; have := hq.1.toStep; have := Bk.toAt (h := hq.2); refine jN rfl rfl rfl ?_; refine jz ?_; exact ⟨rfl, rfl⟩; apply jjT; exact rfl; rintro w' hq; have := hq.1.toStep; have := Bk.toAt (h := hq.2); refine jm ?_; refine jn rfl ?_; refine jz ?_; exact ⟨rfl, rfl⟩; apply jjT; exact rfl; rintro w' hq; have := hq.1.toStep; have := Bk.toAt (h := hq.2); refine jN rfl rfl rfl ?_; refine jz ?_; exact ⟨rfl, rfl⟩; apply jjT; exact rfl; rintro w' hq; have := hq.1.toStep; have := Bk.toAt (h := hq.2); refine jh rfl ?_; refine jz ?_; exact ⟨rfl, rfl⟩; apply jjT; exact rfl; rintro w' hq; have := hq.1.toStep; have := Bk.toAt (h := hq.2); refine jZ rfl rfl (by omega) ?_; refine jz ?_; exact ⟨rfl, rfl⟩; apply jjT; exact rfl; rintro w' hq; have := hq.1.toStep; have := Bk.toAt (h := hq.2); apply jI; exact eI rfl; refine jz ?_; exact ⟨rfl, rfl⟩; apply jjT; exact rfl; rintro w' hq; have := hq.1.toStep; have := Bk.toAt (h := hq.2); refine jZ rfl rfl (by omega) ?_; refine jz ?_; exact ⟨rfl, rfl⟩; refine jjU ?_)))
    refine jjV [11] (by decide +kernel) S7 (jjT (v := .pointer (some ⟨pb, po + (bs.length - 1 - i) * 2, none⟩)) rfl (fun w' q1 => ?_) (jjU ?_)); (refine jH (bs.length - 1 - i) rfl rfl (by omega) (by omega) ?_; refine jz ?_; exact ⟨rfl, rfl⟩)
    refine jjV [12, 13] (by decide +kernel) S7 ?_
    (((apply jjT; exact rfl; rintro w' hq; have := hq.1.toStep; have := Bk.toAt (h := hq.2); refine jQ rfl rfl ?_; refine jz ?_; exact ⟨rfl, rfl⟩; apply jjT; exact rfl; rintro w' hq; have := hq.1.toStep; have := Bk.toAt (h := hq.2); refine jH _ rfl rfl rfl (by omega) ?_; refine jz ?_; exact ⟨rfl, rfl⟩; refine jjU ?_)))
    (apply jjW 14; (decide +kernel); exact rfl; (exact S7))
    refine Ops.storeW (g := g6) (j := i) (X' := encB (bs[bs.length - 1 - i]'(by omega))) hO7 rfl (by rw [List.length_map]; omega) rfl (show Value.pointer (some ⟨g6, 0 + i * 2, none⟩) = Value.pointer (some ⟨g6, i * 2, none⟩) from by rw [Nat.zero_add]) rfl rfl ?_
    intro w8 o8 hp8 hO8
    rw [← List.map_set, hset] at hO8
    have S8 : Ext w5 w8 ∧ Bk w8 b6 [.int .i64 h, .slice (some ⟨g6, 0, none⟩) bs.length c6] 24 := ⟨hp8.ext S7.1 (by omega), hp8.bk S7.2 (show b6 ≠ g6 by omega)⟩
    refine jz ?_
    refine jjX (by decide +kernel) S8 ?_
    (refine jjC ?_; refine jY rfl rfl (by omega) ?_; apply jI; exact eI rfl; refine jz ?_)
    exact ⟨rfl, by ((refine Same.upd rfl ?_; refine Same.upd rfl ?_; refine Same.upd rfl ?_; refine Same.upd rfl ?_; refine Same.upd rfl ?_; refine Same.upd rfl ?_; refine Same.upd rfl ?_; refine Same.upd rfl ?_; refine Same.upd rfl ?_; refine Same.upd rfl ?_; refine Same.upd rfl ?_; refine Same.upd rfl ?_; refine Same.upd rfl ?_; refine Same.upd rfl ?_; refine Same.upd rfl ?_; refine Same.upd rfl ?_; refine Same.upd rfl ?_; refine Same.upd rfl ?_; refine Same.upd rfl ?_; refine Same.upd rfl ?_; exact Same.ovN)), bs.length - (i + 1), by omega, i + 1, bs.reverse.take (i + 1) ++ bs.drop (i + 1), congrArg (Value.int .i64) (by omega), rfl, by omega, rfl, S8.1, S8.2, hO8⟩
  obtain rfl : i = bs.length := by omega
  rw [← List.length_reverse, List.take_length, List.drop_of_length_le (by rw [List.length_reverse]; exact Nat.le_refl _), List.append_nil] at hyy
  subst hyy
  have hne : bs ≠ [] := fun e => by rw [e] at hlb; simp at hlb
  have hrb : ∀ b ∈ bs.reverse, 1 ≤ b.2 ∧ b.2 ≤ 20 := fun b hm => hbb b (List.mem_reverse.1 hm)
  have hrz : ∀ b ∈ bs.reverse, b.1.size ≤ 140737488351232 := fun b hm => hbz b (List.mem_reverse.1 hm)
  have hrG : galleyB h bs.reverse = true := by
    have := hG
    simp only [galleyB, List.length_reverse, List.all_reverse] at this ⊢
    exact this
  obtain ⟨u1, u2, u3, u4, u5⟩ := turned hbb hne hs1
  have hpm := fun (b : Blk) (hb1 : 1 ≤ b.2) => proof_more (h := h) (b := b) hbb hb1 hne hs1
  have hem := fun (b : Blk) => ends_more bs b
  have hlz : lastZ (endsF 0 bs) = sumL bs := lastZ_ends hbb hlb.1
  have heb : ∀ x ∈ endsF 0 bs, 0 ≤ x ∧ x ≤ 1000 := fun x hx => by have := ends_bound hbb x hx; omega
  have hgr : gErr h bs.reverse = 0 := by rw [gErr, hrG]; rfl
  have hPl := proofS_len h (sumL bs) (endsF 0 bs)
  have hAt6 : At V b6 0 [.int .i64 h, .slice (some ⟨g6, 0, none⟩) bs.reverse.length c6] := by rw [List.length_reverse]; exact Bk.toAt (h := hBV)
  have hOr : RowV V true 2 (.slice (some ⟨g6, 0, none⟩) bs.reverse.length c6) (bs.reverse.map encB) := by rw [List.length_reverse]; exact hOV.row
  clear hBV hOV hB6 hA_b6 hOb6 hO6
  obtain ⟨rv, hrv⟩ : ∃ rv, bs.reverse = rv := ⟨_, rfl⟩
  rw [hrv] at hrb hrz hrG u2 u4 u5 hgr hAt6 hOr
  obtain ⟨A, hA⟩ : ∃ A, (inA bs).length = A := ⟨_, rfl⟩
  rw [hA] at u1 u2 u3 u4 u5
  rw [hA] at hpm
  obtain ⟨xs, hxs⟩ : ∃ xs, endsF 0 bs = xs := ⟨_, rfl⟩
  obtain ⟨zs, hzs⟩ : ∃ zs, endsF 0 rv = zs := ⟨_, rfl⟩
  rw [hxs] at u1 u3 u5 hlz heb hPl
  rw [hzs] at u2 u4 u5
  obtain ⟨P, hP⟩ : ∃ P, (proofS h (sumL bs) xs).2 = P := ⟨_, rfl⟩
  rw [hP] at hPl
  have hxl : A ≤ 600 := by have := endsF_len hbb 0; rw [hxs] at this; omega
  (refine jjB ?_; refine jjC ?_; refine jja rfl rfl (by omega) ?_; refine jz ?_; refine jjB ?_; refine jjK rfl ?_; refine jjE ?_; refine jjB ?_; refine jjC ?_; refine jO rfl rfl rfl rfl ?_)
  refine jjQ ((Ends_galley h (some ⟨pb, po, none⟩) c bs _ (ir5.h.ext inferInstance) hbz (htn5.ext inferInstance)).mono (R' := fun v w' => ∃ u, v = .tuple #[u, .int .i64 0] ∧ RowV w' false 1 u (xs.map intV)) fun v _ _ h => by rw [if_pos hG, hge, hxs] at h; exact h) rfl rfl ?_
  rintro _ w10 hS10 ⟨u10, rfl, hR10⟩
  obtain ⟨a10, c10, rfl, i10⟩ := hR10.ints
  obtain ⟨pa, oa, rfl, -⟩ := i10.h.place (map_get (show 0 < xs.length by omega))
  (apply jI; exact eU rfl; refine ju rfl rfl ?_; refine ju rfl rfl ?_; apply jJ; exact eS rfl; apply jJ; exact eI rfl; refine jz ?_; refine jjB ?_; refine jjC ?_; refine jO rfl rfl rfl rfl ?_)
  refine jjQ ((Ends_galley h (some ⟨g6, 0, none⟩) c6 rv _ (hOr.ext inferInstance) hrz (htn5.ext inferInstance)).mono (R' := fun v w' => ∃ u, v = .tuple #[u, .int .i64 0] ∧ RowV w' false 1 u (zs.map intV)) fun v _ _ h => by rw [if_pos hrG, hgr, hzs] at h; exact h) rfl rfl ?_
  rintro _ w11 hS11 ⟨u11, rfl, hR11⟩
  obtain ⟨a11, c11, rfl, i11⟩ := hR11.ints
  obtain ⟨pz, oz, rfl, -⟩ := i11.h.place (map_get (show 0 < zs.length by omega))
  (apply jI; exact eU rfl; refine ju rfl rfl ?_; refine ju rfl rfl ?_; apply jJ; exact eS rfl; apply jJ; exact eI rfl; refine jz ?_; refine jjB ?_; refine jjC ?_; refine jO rfl rfl rfl rfl ?_)
  refine jjQ ((Proof_galley h (some ⟨pb, po, none⟩) c bs _ (ir5.h.ext inferInstance) hbz (htn5.ext inferInstance) (fun _ => by rw [hxs]; exact heb)).mono (R' := fun v w' => ∃ u, v = .tuple #[u, .int .i64 0] ∧ RowV w' false 1 u (P.map intV)) fun v _ _ h => by rw [if_pos hG, hge, hxs, hlz, hP] at h; exact h) rfl rfl ?_
  rintro _ w12 hS12 ⟨u12, rfl, hR12⟩
  obtain ⟨a12, c12, rfl, i12⟩ := hR12.ints
  (apply jI; exact eU rfl; refine ju rfl rfl ?_; refine ju rfl rfl ?_; apply jJ; exact eS rfl; apply jJ; exact eI rfl; refine jz ?_; refine jjB ?_; refine jjB ?_)
  have eA : xs[A]'(by omega) = sumL bs := by rw [← getD_lt (by omega)]; exact u3
  have eZ : zs[A]'(by omega) = sumL bs := by rw [← getD_lt (by omega)]; exact u4
  have hAx : At w12 pa (oa + A) (intV (sumL bs)).cells.toList := by
    have := place_at8 (i10.h.ext (w' := w12) inferInstance) (map_get (show A < xs.length by omega))
    rw [eA, Nat.mul_one] at this
    exact this
  have hAz : At w12 pz (oz + A) (intV (sumL bs)).cells.toList := by
    have := place_at8 (i11.h.ext (w' := w12) inferInstance) (map_get (show A < zs.length by omega))
    rw [eZ, Nat.mul_one] at this
    exact this
  have hid1 : (xs.length : Int) - 1 = (A : Int) := by omega
  have hid2 : (zs.length : Int) - 1 = (A : Int) := by omega
  have hE12 : Ext w5 w12 := inferInstance
  have hx2' : At w12 b2 0 [.int .i64 h, .slice (some ⟨pb, po, none⟩) bs.length c] := inferInstance
  have ir12 : RowI w12 (.slice (some ⟨pb, po, none⟩) bs.length c) true 2 (bs.map encB) := inferInstance
  have ix12 := i10.h.ext (w' := w12) inferInstance
  have iz12 := i11.h.ext (w' := w12) inferInstance
  refine W.keep0 [(2, .pointer (some ⟨b2, 0, none⟩)), (3, .pointer (some ⟨b3, 0, none⟩)), (5, .bool true), (8, .slice (some ⟨pa, oa, none⟩) xs.length c10), (9, .int .i64 0), (10, .slice (some ⟨pz, oz, none⟩) zs.length c11), (11, .int .i64 0), (12, .slice a12 P.length c12), (13, .int .i64 0)] ⟨eP rfl, eP rfl, eB rfl, eS rfl, eI rfl, eS rfl, eI rfl, eS rfl, eI rfl, trivial⟩ fun s1 => ?_
  refine W.draw (fun w' => Ext w12 w') ?_
  intro w13 hS13
  refine jjV [0, 1, 2, 3, 4, 5, 6, 7, 8, 9, 10, 11, 12, 13, 14, 15, 16, 17, 18, 19, 20, 21, 22, 23, 24, 25, 26, 27, 28, 29] (by decide +kernel) hS13.ext ?_
  (((apply jjT; exact rfl; rintro w' hq; have := hq.toStep; apply jI; exact eI rfl; refine jz ?_; exact ⟨rfl, rfl⟩; apply jjT; exact rfl; rintro w' hq; have := hq.toStep; refine jjk rfl rfl (by omega) ?_; refine jz ?_; exact ⟨rfl, rfl⟩; apply jjT; exact rfl; rintro w' hq; have := hq.toStep; apply jI; exact eB rfl; refine jz ?_; exact ⟨rfl, rfl⟩; apply jjT; exact rfl; rintro w' hq; have := hq.toStep; refine jT rfl rfl rfl ?_; apply jI; exact eI rfl; refine jz ?_; exact ⟨rfl, rfl⟩; apply jjT; exact rfl; rintro w' hq; have := hq.toStep; refine jT rfl rfl rfl ?_; refine jjk rfl rfl (by omega) ?_; refine jz ?_; exact ⟨rfl, rfl⟩; apply jjT; exact rfl; rintro w' hq; have := hq.toStep; apply jL rfl; exact eB rfl; refine jz ?_; exact ⟨rfl, rfl⟩; apply jjT; exact rfl; rintro w' hq; have := hq.toStep; apply jI; exact eB rfl; refine jz ?_; exact ⟨rfl, rfl⟩; apply jjT; exact rfl; rintro w' hq; have := hq.toStep; refine jT rfl rfl rfl ?_; apply jI; exact eI rfl; refine jz ?_; exact ⟨rfl, rfl⟩; apply jjT; exact rfl; rintro w' hq; have := hq.toStep; refine jT rfl rfl rfl ?_; refine jjk rfl rfl (by omega) ?_; refine jz ?_; exact ⟨rfl, rfl⟩; apply jjT; exact rfl; rintro w' hq; have := hq.toStep; apply jL rfl; exact eB rfl; refine jz ?_; exact ⟨rfl, rfl⟩; apply jjT; exact rfl; rintro w' hq; have := hq.toStep; apply jI; exact eB rfl; refine jz ?_; exact ⟨rfl, rfl⟩; apply jjT; exact rfl; rintro w' hq; have := hq.toStep; refine jT rfl rfl rfl ?_; apply jI; exact eS rfl; refine jz ?_; exact ⟨rfl, rfl⟩; apply jjT; exact rfl; rintro w' hq; have := hq.toStep; refine jT rfl rfl rfl ?_; refine jh rfl ?_; refine jz ?_; exact ⟨rfl, rfl⟩; apply jjT; exact rfl; rintro w' hq; have := hq.toStep; refine jT rfl rfl rfl ?_; apply jI; exact eS rfl; refine jz ?_; exact ⟨rfl, rfl⟩; apply jjT; exact rfl; rintro w' hq; have := hq.toStep; refine jT rfl rfl rfl ?_; refine jh rfl ?_; refine jz ?_; exact ⟨rfl, rfl⟩; apply jjT; exact rfl; rintro w' hq; have := hq.toStep; refine jT rfl rfl rfl ?_; refine jjk rfl rfl (by omega) ?_; refine jz ?_; exact ⟨rfl, rfl⟩; apply jjT; exact rfl; rintro w' hq; have := hq.toStep; apply jL rfl; exact eB rfl; refine jz ?_; exact ⟨rfl, rfl⟩; apply jjT; exact rfl; rintro w' hq; have := hq.toStep; apply jI; exact eB rfl; refine jz ?_; exact ⟨rfl, rfl⟩; apply jjT; exact rfl; rintro w' hq; have := hq.toStep; refine jT rfl rfl rfl ?_; apply jI; exact eS rfl; refine jz ?_; exact ⟨rfl, rfl⟩; apply jjT; exact rfl; rintro w' hq; have := hq.toStep; refine jT rfl rfl rfl ?_; refine jh rfl ?_; refine jz ?_; exact ⟨rfl, rfl⟩; apply jjT; exact rfl; rintro w' hq; have := hq.toStep; refine jT rfl rfl rfl ?_; refine jji rfl rfl (by omega) ?_; refine jz ?_; exact ⟨rfl, rfl⟩; apply jjT; exact rfl; rintro w' hq; have := hq.toStep; apply jL rfl; exact eB rfl; refine jz ?_; exact ⟨rfl, rfl⟩; apply jjT; exact rfl; rintro w' hq; have := hq.toStep; apply jI; exact eB rfl; refine jz ?_; exact ⟨rfl, rfl⟩; apply jjT; exact rfl; rintro w' hq; have := hq.toStep; refine jT rfl rfl rfl ?_; apply jI; exact eS rfl; refine jz ?_; exact ⟨rfl, rfl⟩; apply jjT; exact rfl; rintro w' hq; have := hq.toStep; refine jT rfl rfl rfl ?_; apply jI; exact eS rfl; refine jz ?_; exact ⟨rfl, rfl⟩; apply jjT; exact rfl; rintro w' hq; have := hq.toStep; refine jT rfl rfl rfl ?_; refine jh rfl ?_; refine jz ?_; exact ⟨rfl, rfl⟩; apply jjT; exact rfl; rintro w' hq; have := hq.toStep; refine jT rfl rfl rfl ?_; refine jZ rfl rfl (by omega) ?_; refine jz ?_; exact ⟨rfl, rfl⟩; apply jjT; exact rfl; rintro w' hq; have := hq.toStep; refine jT rfl rfl rfl ?_; refine jG rfl rfl (by assumption) (by omega) ?_; refine jz ?_; exact ⟨rfl, rfl⟩; apply jjT; exact rfl; rintro w' hq; have := hq.toStep; refine jT rfl rfl rfl ?_; refine jQ rfl rfl ?_; refine jz ?_; exact ⟨rfl, rfl⟩; apply jjT; exact rfl; rintro w' hq; have := hq.toStep; refine jT rfl rfl rfl ?_; refine jO rfl rfl rfl rfl ?_; refine jz ?_; exact ⟨rfl, rfl⟩; refine jjU ?_)))
  (apply jjW 30; (decide +kernel); exact rfl; (exact inferInstance))
  (refine jT rfl rfl rfl ?_)
  refine jjQ (lines_law8 h (some ⟨pb, po, none⟩) c bs _ hbb (by omega)) rfl rfl ?_
  rintro _ w14 hS14 rfl
  refine jz ?_
  refine jjV [31, 32, 33, 34, 35, 36, 37, 38, 39, 40] (by decide +kernel) inferInstance ?_
  (((apply jjT; exact rfl; rintro w' hq; have := hq.toStep; refine jT rfl rfl rfl ?_; refine jjk rfl rfl (by omega) ?_; refine jz ?_; exact ⟨rfl, rfl⟩; apply jjT; exact rfl; rintro w' hq; have := hq.toStep; apply jL rfl; exact eB rfl; refine jz ?_; exact ⟨rfl, rfl⟩; apply jjT; exact rfl; rintro w' hq; have := hq.toStep; apply jI; exact eB rfl; refine jz ?_; exact ⟨rfl, rfl⟩; apply jjT; exact rfl; rintro w' hq; have := hq.toStep; refine jT rfl rfl rfl ?_; apply jI; exact eS rfl; refine jz ?_; exact ⟨rfl, rfl⟩; apply jjT; exact rfl; rintro w' hq; have := hq.toStep; refine jT rfl rfl rfl ?_; apply jI; exact eS rfl; refine jz ?_; exact ⟨rfl, rfl⟩; apply jjT; exact rfl; rintro w' hq; have := hq.toStep; refine jT rfl rfl rfl ?_; refine jh rfl ?_; refine jz ?_; exact ⟨rfl, rfl⟩; apply jjT; exact rfl; rintro w' hq; have := hq.toStep; refine jT rfl rfl rfl ?_; refine jZ rfl rfl (by omega) ?_; refine jz ?_; exact ⟨rfl, rfl⟩; apply jjT; exact rfl; rintro w' hq; have := hq.toStep; refine jT rfl rfl rfl ?_; refine jG rfl rfl (by assumption) (by omega) ?_; refine jz ?_; exact ⟨rfl, rfl⟩; apply jjT; exact rfl; rintro w' hq; have := hq.toStep; refine jT rfl rfl rfl ?_; refine jQ rfl rfl ?_; refine jz ?_; exact ⟨rfl, rfl⟩; apply jjT; exact rfl; rintro w' hq; have := hq.toStep; refine jT rfl rfl rfl ?_; refine jO rfl rfl rfl rfl ?_; refine jz ?_; exact ⟨rfl, rfl⟩; refine jjU ?_)))
  (apply jjW 41; (decide +kernel); exact rfl; (exact inferInstance))
  (refine jT rfl rfl rfl ?_)
  refine jjQ (lines_law8 h (some ⟨pb, po, none⟩) c bs _ hbb (by omega)) rfl rfl ?_
  rintro _ w15 hS15 rfl
  refine jz ?_
  refine jjV [42, 43, 44, 45, 46, 47, 48, 49, 50, 51] (by decide +kernel) inferInstance ?_
  (((apply jjT; exact rfl; rintro w' hq; have := hq.toStep; refine jT rfl rfl rfl ?_; refine jjk rfl rfl (by omega) ?_; refine jz ?_; exact ⟨rfl, rfl⟩; apply jjT; exact rfl; rintro w' hq; have := hq.toStep; apply jL rfl; exact eB rfl; refine jz ?_; exact ⟨rfl, rfl⟩; apply jjT; exact rfl; rintro w' hq; have := hq.toStep; apply jI; exact eB rfl; refine jz ?_; exact ⟨rfl, rfl⟩; apply jjT; exact rfl; rintro w' hq; have := hq.toStep; refine jT rfl rfl rfl ?_; apply jI; exact eS rfl; refine jz ?_; exact ⟨rfl, rfl⟩; apply jjT; exact rfl; rintro w' hq; have := hq.toStep; refine jT rfl rfl rfl ?_; refine jh rfl ?_; refine jz ?_; exact ⟨rfl, rfl⟩; apply jjT; exact rfl; rintro w' hq; have := hq.toStep; refine jT rfl rfl rfl ?_; apply jI; exact eS rfl; refine jz ?_; exact ⟨rfl, rfl⟩; apply jjT; exact rfl; rintro w' hq; have := hq.toStep; refine jT rfl rfl rfl ?_; refine jh rfl ?_; refine jz ?_; exact ⟨rfl, rfl⟩; apply jjT; exact rfl; rintro w' hq; have := hq.toStep; refine jT rfl rfl rfl ?_; refine jY rfl rfl (by omega) ?_; refine jz ?_; exact ⟨rfl, rfl⟩; apply jjT; exact rfl; rintro w' hq; have := hq.toStep; refine jT rfl rfl rfl ?_; refine jjk rfl rfl (by omega) ?_; refine jz ?_; exact ⟨rfl, rfl⟩; apply jjT; exact rfl; rintro w' hq; have := hq.toStep; apply jL rfl; exact eB rfl; refine jz ?_; exact ⟨rfl, rfl⟩; refine jjU ?_)))
  refine jjX (by decide +kernel) inferInstance ?_
  (refine jjK rfl ?_; refine jjG ?_; refine jjB ?_; refine jjB ?_; refine jjC ?_; apply jI; exact eS rfl; refine jh rfl ?_; refine jZ rfl rfl (by omega) ?_; apply jI; exact eI rfl; refine jz ?_; refine jjD ?_)
  have hE15 : Ext w12 w15 := inferInstance
  refine W.keep0 [(2, .pointer (some ⟨b2, 0, none⟩)), (3, .pointer (some ⟨b3, 0, none⟩)), (5, .bool true), (8, .slice (some ⟨pa, oa, none⟩) xs.length c10), (10, .slice (some ⟨pz, oz, none⟩) zs.length c11), (12, .slice a12 P.length c12), (131, .int .i64 ((xs.length : Int) - 1)), (132, .int .i64 ((0 : Nat) : Int))] ⟨eP rfl, eP rfl, eB rfl, eS rfl, eS rfl, eS rfl, eI rfl, eI rfl, trivial⟩ fun s2 => ?_
  refine W.loop (133 :: 134 :: 14 :: 135 :: 136 :: 137 :: 138 :: 139 :: 140 :: 141 :: 142 :: 143 :: 144 :: 145 :: 146 :: 147 :: 148 :: 149 :: 150 :: 4 :: 151 :: 132 :: []) (fun g s' V => ∃ i : Nat, s' 132 = .int .i64 ((i : Nat) : Int) ∧ g = A - i ∧ i ≤ A) A ⟨0, rfl, rfl, Nat.zero_le _⟩ ?_
  rintro _ sd2 V2 hSV2 ⟨i, h132, rfl, hi⟩
  refine W.fix (d := 132) h132 ?_
  clear h132
  by_cases hi3 : i < A
  · have u5i := u5 i hi3
    rw [getD_lt (show i < xs.length by omega), getD_lt (show A - 1 - i < zs.length by omega)] at u5i
    have hAi : At V2 pa (oa + i) (intV (xs[i]'(by omega))).cells.toList := by
      have := place_at8 ((ix12.ext hE15).ext hSV2.ext) (map_get (show i < xs.length by omega))
      rwa [Nat.mul_one] at this
    have hAj : At V2 pz (oz + (A - 1 - i)) (intV (zs[A - 1 - i]'(by omega))).cells.toList := by
      have := place_at8 ((iz12.ext hE15).ext hSV2.ext) (map_get (show A - 1 - i < zs.length by omega))
      rwa [Nat.mul_one] at this
    have hb1 : 1 ≤ xs[i]'(by omega) ∧ xs[i]'(by omega) ≤ sumL bs := ends_bound hbb _ (by rw [hxs]; exact List.getElem_mem _)
    generalize xs[i]'(by omega) = xi at *
    generalize zs[A - 1 - i]'(by omega) = zi at *
    have hid3 : (zs.length : Int) - 2 - (i : Int) = ((A - 1 - i : Nat) : Int) := by omega
    have hxi : -10000 ≤ xi ∧ xi ≤ 10000 ∧ -10000 ≤ zi ∧ zi ≤ 10000 := by omega
    (refine jjB ?_; refine jjC ?_; refine jjZ rfl rfl (by omega) ?_; refine jz ?_; refine jjB ?_; refine jjJ rfl ?_; refine jjG ?_; refine jjB ?_; refine jjD ?_; refine jjB ?_; refine jjC ?_; apply jI; exact eI rfl; apply jJ; exact eI rfl; refine jz ?_; refine jjB ?_)
    refine W.draw (fun w' => Ext V2 w') ?_
    intro w16 hS16
    refine jjV [0, 1, 2, 3, 4, 5, 6, 7, 8, 9, 10, 11, 12, 13] (by decide +kernel) hS16.ext ?_
    (((apply jjT; exact rfl; rintro w' hq; have := hq.toStep; apply jI; exact eS rfl; refine jz ?_; exact ⟨rfl, rfl⟩; apply jjT; exact rfl; rintro w' hq; have := hq.toStep; apply jI; exact eI rfl; refine jz ?_; exact ⟨rfl, rfl⟩; apply jjT; exact rfl; rintro w' hq; have := hq.toStep; refine jG rfl rfl rfl (by omega) ?_; refine jz ?_; exact ⟨rfl, rfl⟩; apply jjT; exact rfl; rintro w' hq; have := hq.toStep; refine jQ rfl rfl ?_; refine jz ?_; exact ⟨rfl, rfl⟩; apply jjT; exact rfl; rintro w' hq; have := hq.toStep; apply jI; exact eS rfl; refine jz ?_; exact ⟨rfl, rfl⟩; apply jjT; exact rfl; rintro w' hq; have := hq.toStep; apply jI; exact eS rfl; refine jz ?_; exact ⟨rfl, rfl⟩; apply jjT; exact rfl; rintro w' hq; have := hq.toStep; refine jh rfl ?_; refine jz ?_; exact ⟨rfl, rfl⟩; apply jjT; exact rfl; rintro w' hq; have := hq.toStep; refine jZ rfl rfl (by omega) ?_; refine jz ?_; exact ⟨rfl, rfl⟩; apply jjT; exact rfl; rintro w' hq; have := hq.toStep; apply jI; exact eI rfl; refine jz ?_; exact ⟨rfl, rfl⟩; apply jjT; exact rfl; rintro w' hq; have := hq.toStep; refine jZ rfl rfl (by omega) ?_; refine jz ?_; exact ⟨rfl, rfl⟩; apply jjT; exact rfl; rintro w' hq; have := hq.toStep; refine jG rfl rfl (by assumption) (by omega) ?_; refine jz ?_; exact ⟨rfl, rfl⟩; apply jjT; exact rfl; rintro w' hq; have := hq.toStep; refine jQ rfl rfl ?_; refine jz ?_; exact ⟨rfl, rfl⟩; apply jjT; exact rfl; rintro w' hq; have := hq.toStep; refine jY rfl rfl (by omega) ?_; refine jz ?_; exact ⟨rfl, rfl⟩; apply jjT; exact rfl; rintro w' hq; have := hq.toStep; refine jO rfl rfl rfl rfl ?_; refine jz ?_; exact ⟨rfl, rfl⟩; refine jjU ?_)))
    (apply jjW 14; (decide +kernel); exact rfl; (exact inferInstance))
    skip
    refine jjQ (lines_law8 h (some ⟨pb, po, none⟩) c bs _ hbb (by omega)) rfl rfl ?_
    rintro _ w17 hS17 rfl
    refine jz ?_
    refine jjV [15] (by decide +kernel) inferInstance ?_
    (((apply jjT; exact rfl; rintro w' hq; have := hq.toStep; refine jjk rfl rfl (by omega) ?_; refine jz ?_; exact ⟨rfl, rfl⟩; refine jjU ?_)))
    refine jjX (by decide +kernel) inferInstance ?_
    (refine jjK rfl ?_; refine jjG ?_; refine jjC ?_; refine jY rfl rfl (by omega) ?_; apply jI; exact eI rfl; refine jz ?_)
    exact ⟨rfl, by ((refine Same.upd rfl ?_; refine Same.upd rfl ?_; refine Same.upd rfl ?_; refine Same.upd rfl ?_; refine Same.upd rfl ?_; refine Same.upd rfl ?_; refine Same.upd rfl ?_; refine Same.upd rfl ?_; refine Same.upd rfl ?_; refine Same.upd rfl ?_; refine Same.upd rfl ?_; refine Same.upd rfl ?_; refine Same.upd rfl ?_; refine Same.upd rfl ?_; refine Same.upd rfl ?_; refine Same.upd rfl ?_; refine Same.upd rfl ?_; refine Same.upd rfl ?_; refine Same.upd rfl ?_; refine Same.upd rfl ?_; refine Same.upd rfl ?_; refine Same.upd rfl ?_; exact Same.ovN)), A - (i + 1), by omega, inferInstance, i + 1, congrArg (Value.int .i64) (by omega), rfl, by omega⟩
  obtain rfl : i = A := by omega
  (refine jjB ?_; refine jjC ?_; refine jja rfl rfl (by omega) ?_; refine jz ?_; refine jjB ?_; refine jjK rfl ?_; refine jjE ?_; refine jjB ?_; refine jjC ?_; refine jO rfl rfl rfl rfl ?_)
  have hA3' : At V2 b3 0 [.string more.1, .int .i64 more.2] := (hA3.ext (hE12.trans hE15)).ext hSV2.ext
  have ir20 : RowI V2 (.slice (some ⟨pb, po, none⟩) bs.length c) true 2 (bs.map encB) := inferInstance
  have hE2 : Ext w V2 := ((hE5.trans hE12).trans hE15).trans hSV2.ext
  have htn2 : At V2 1 0 tornC := htn.ext hE2
  have ix2 : RowV V2 false 1 (.slice (some ⟨pa, oa, none⟩) xs.length c10) (xs.map intV) := (ix12.ext hE15).ext hSV2.ext
  have iP2 : RowV V2 false 1 (.slice a12 P.length c12) (P.map intV) := (i12.h.ext hE15).ext hSV2.ext
  refine jjQ (Twin_ref h (some ⟨pb, po, none⟩) c bs _ (by omega)) rfl rfl ?_
  rintro _ w20 hS20 ⟨a20, c20, rfl, hO20⟩
  skip
  (apply jjR rfl; (intro _; first|exact eI rfl|exact eB rfl|exact eP rfl|exact eS rfl|exact eT rfl|exact eA rfl|exact eU rfl|exact eF rfl|exact eM rfl|exact eN rfl|exact rfl); exact rfl; exact rfl; exact rfl; exact rfl; intro b15 w_b15 hb_b15 hs_b15 hS_b15 hk_b15; have hA_b15 := Bk.of hk_b15)
  have hB15 : Bk w_b15 b15 [.int .i64 h, .slice a20 bs.length c20] 24 := hA_b15
  have z20 := hS20.size
  have z15 := hS_b15.size
  (refine jz ?_; refine jjB ?_; refine jjC ?_; refine jm ?_; refine jn rfl ?_; refine jN rfl rfl rfl ?_; refine jO rfl rfl rfl rfl ?_)
  (refine jjP (v := .agg _) rfl (by exact rfl) (by exact rfl) (by exact rfl) (by exact rfl) ?_; intro b157 w_b157 hb_b157 hs_b157 hS_b157 hk_b157; have hR_b157 := RowV.one (agg := true) (k := 2) rfl hk_b157)
  have hO20' := (hO20.ext hS_b15.ext).ext hS_b157.ext
  have hR157 : RowV w_b157 true 2 (.slice (some ⟨b157, 0, none⟩) 1 1) ([more].map encB) := hR_b157
  refine Ops.appendL hO20' (by have := hS_b157.size; omega) hR157 rfl rfl rfl rfl rfl ?_ ?_ ?_
  · simp only [List.length_map, List.length_cons, List.length_nil]; omega
  · simp only [List.length_map, List.length_cons, List.length_nil]; omega
  intro v22 w22 hA22 hO22 _ hw22
  have hE22 : Ext V2 w22 := hA22.ext inferInstance (Nat.le_refl _)
  have hne20 : (Value.slice a20 bs.length c20).ownBlock ≠ some b15 := fun e => by have := (hO20.block b15 e).2; omega
  have hB15' := hA22.bk (hB15.ext hS_b157.ext) hne20
  rw [← List.map_append] at hO22
  obtain ⟨ys, hys⟩ : ∃ ys, bs ++ [more] = ys := ⟨_, rfl⟩
  rw [hys] at hO22
  obtain ⟨a22, c22, rfl⟩ := hO22.slice
  rw [List.length_map] at hO22 hw22 ⊢
  have hne22 : (Value.slice a22 ys.length c22).ownBlock ≠ some b15 := fun e => by
    rcases hw22 with h1 | h1
    · exact hne20 (h1.symm.trans e)
    · rw [h1] at e
      cases e
      have := hB15.lt
      have := hS_b157.size
      omega
  (refine jm ?_; refine jn rfl ?_)
  refine Ops.store rfl rfl rfl rfl rfl ?_
  intro V5 hp5
  have hB5 : Bk V5 b15 [.int .i64 h, .slice a22 ys.length c22] 24 := Bk.of hp5.new
  have hE5' : Ext V2 V5 := hp5.ext hE22 (by omega)
  have hOy := hO22.put hp5 hne22
  have sV5 : Step V2 V5 := hE5'.toStep
  have iy : RowI V5 (.slice a22 ys.length c22) true 2 (ys.map encB) := RowI.mk hOy.row
  have hAt15 : At V5 b15 0 [.int .i64 h, .slice a22 ys.length c22] := Bk.toAt (h := hB5)
  have hyl2 : ys.length = bs.length + 1 := by rw [← hys]; simp
  have hyz : ∀ b ∈ ys, b.1.size ≤ 140737488351232 := fun b hb => by
    rw [← hys] at hb
    rcases List.mem_append.1 hb with h1 | h1
    · exact hbz b h1
    · rw [List.mem_singleton] at h1; subst h1; omega
  obtain ⟨Gy, hGy⟩ : ∃ Gy, galleyB h ys = Gy := ⟨_, rfl⟩
  (refine jz ?_; refine jjB ?_; refine jjB ?_; refine jjC ?_; refine jO rfl rfl rfl rfl ?_)
  refine jjQ ((Galley_ref h a22 c22 ys _ hyz (by omega)).mono fun v _ _ h => h.trans (by rw [hGy])) rfl rfl ?_
  rintro _ w24 hS24 rfl
  cases Gy with
  | false =>
    (refine jq rfl ?_; refine jz ?_; refine jjJ rfl ?_; refine jjB ?_; refine jjC ?_; apply jI; exact eB rfl; apply jJ; exact eB rfl; refine jz ?_; refine jjF ?_; refine jB rfl rfl ⟨inferInstance, ?_⟩)
    exact rfl
  | true =>
  obtain ⟨hh2, hlb2, hbb2, hs12, hs22⟩ := galley_yes hGy
  have hm1 : 1 ≤ more.2 := (hbb2 more (by rw [← hys]; simp)).1
  have hpm1 := hpm more hm1
  obtain ⟨r, hr, -⟩ := hem more
  have hgy : gErr h ys = 0 := by rw [gErr, hGy]; rfl
  have hlzy : lastZ (endsF 0 ys) = sumL ys := lastZ_ends hbb2 hlb2.1
  have hsy : sumL ys = sumL bs + more.2 := by rw [← hys, sumL_append]; show _ + (more.2 + 0) = _; omega
  have heb2 : ∀ x ∈ endsF 0 ys, 0 ≤ x ∧ x ≤ 1000 := fun x hx => by have := ends_bound hbb2 x hx; omega
  have hQl := proofS_len h (sumL ys) (endsF 0 ys)
  rw [hys, hxs] at hr hpm1
  rw [hP] at hpm1
  have hrp : 0 < r.length := by
    refine Nat.pos_of_ne_zero fun e => ?_
    have : r = [] := List.eq_nil_of_length_eq_zero e
    rw [this, List.append_nil] at hr
    rw [hr, hlz] at hlzy
    omega
  obtain ⟨cy, hcy⟩ : ∃ cy, endsF 0 ys = cy := ⟨_, rfl⟩
  rw [hcy] at hr hlzy heb2 hQl hpm1
  have hcyn : cy.length ≤ 600 := by have := endsF_len hbb2 0; rw [hcy] at this; omega
  obtain ⟨Q, hQ⟩ : ∃ Q, (proofS h (sumL ys) cy).2 = Q := ⟨_, rfl⟩
  rw [hQ] at hQl hpm1
  have hcyl : cy.length = xs.length + r.length := by rw [hr, List.length_append]
  have hct : cy.take xs.length = xs := by rw [hr, List.take_append_of_le_length (Nat.le_refl _), List.take_length]
  have hpt : Q.take xs.length = P.take xs.length := by rw [u1]; exact hpm1
  (refine jp rfl ?_; refine jz ?_; refine jjK rfl ?_; refine jjG ?_; refine jjB ?_; refine jjC ?_; refine jO rfl rfl rfl rfl ?_)
  refine jjQ ((Ends_galley h a22 c22 ys _ (iy.h.ext inferInstance) hyz (htn2.ext inferInstance)).mono (R' := fun v w' => ∃ u, v = .tuple #[u, .int .i64 0] ∧ RowV w' false 1 u (cy.map intV)) fun v _ _ h => by rw [if_pos hGy, hgy, hcy] at h; exact h) rfl rfl ?_
  rintro _ w25 hS25 ⟨u25, rfl, hR25⟩
  obtain ⟨a25, c25, rfl, i25⟩ := hR25.ints
  (apply jI; exact eU rfl; refine ju rfl rfl ?_; refine ju rfl rfl ?_; apply jJ; exact eS rfl; apply jJ; exact eI rfl; refine jz ?_; refine jjB ?_; refine jjC ?_; refine jO rfl rfl rfl rfl ?_)
  refine jjQ ((Proof_galley h a22 c22 ys _ (iy.h.ext inferInstance) hyz (htn2.ext inferInstance) (fun _ => by rw [hcy]; exact heb2)).mono (R' := fun v w' => ∃ u, v = .tuple #[u, .int .i64 0] ∧ RowV w' false 1 u (Q.map intV)) fun v _ _ h => by rw [if_pos hGy, hgy, hcy, hlzy, hQ] at h; exact h) rfl rfl ?_
  rintro _ w26 hS26 ⟨u26, rfl, hR26⟩
  obtain ⟨a26, c26, rfl, i26⟩ := hR26.ints
  have hcap25 := i25.h.cap.2
  have hcap26 := i26.h.cap.2
  have hcapP := iP2.cap.2
  rw [List.length_map] at hcap25 hcap26 hcapP
  (apply jI; exact eU rfl; refine ju rfl rfl ?_; refine ju rfl rfl ?_; apply jJ; exact eS rfl; apply jJ; exact eI rfl; refine jz ?_; refine jjB ?_)
  refine W.draw (fun w' => Ext w26 w') ?_
  intro w27 hS27
  have q25 : RowV w27 false 1 (.slice a25 xs.length c25) (xs.map intV) := by
    have := (i25.h.ext (w' := w27) inferInstance).takeV (hi := xs.length) (by rw [List.length_map]; omega)
    rwa [← List.map_take, hct] at this
  have qx : RowV w27 false 1 (.slice (some ⟨pa, oa, none⟩) xs.length c10) (xs.map intV) := ix2.ext inferInstance
  refine jjV [0, 1, 2, 3, 4, 5, 6, 7, 8, 9, 10, 11, 12, 13, 14, 15, 16, 17, 18, 19] (by decide +kernel) hS27.ext ?_
  (((apply jjT; exact rfl; rintro w' hq; have := hq.toStep; apply jI; exact eB rfl; refine jz ?_; exact ⟨rfl, rfl⟩; apply jjT; exact rfl; rintro w' hq; have := hq.toStep; apply jI; exact eB rfl; refine jz ?_; exact ⟨rfl, rfl⟩; apply jjT; exact rfl; rintro w' hq; have := hq.toStep; refine jT rfl rfl rfl ?_; apply jI; exact eI rfl; refine jz ?_; exact ⟨rfl, rfl⟩; apply jjT; exact rfl; rintro w' hq; have := hq.toStep; refine jT rfl rfl rfl ?_; refine jjh rfl rfl (by omega) ?_; refine jz ?_; exact ⟨rfl, rfl⟩; apply jjT; exact rfl; rintro w' hq; have := hq.toStep; apply jK rfl; exact eB rfl; refine jz ?_; exact ⟨rfl, rfl⟩; apply jjT; exact rfl; rintro w' hq; have := hq.toStep; apply jI; exact eB rfl; refine jz ?_; exact ⟨rfl, rfl⟩; apply jjT; exact rfl; rintro w' hq; have := hq.toStep; refine jT rfl rfl rfl ?_; apply jI; exact eI rfl; refine jz ?_; exact ⟨rfl, rfl⟩; apply jjT; exact rfl; rintro w' hq; have := hq.toStep; refine jT rfl rfl rfl ?_; refine jjh rfl rfl (by omega) ?_; refine jz ?_; exact ⟨rfl, rfl⟩; apply jjT; exact rfl; rintro w' hq; have := hq.toStep; apply jK rfl; exact eB rfl; refine jz ?_; exact ⟨rfl, rfl⟩; apply jjT; exact rfl; rintro w' hq; have := hq.toStep; apply jI; exact eB rfl; refine jz ?_; exact ⟨rfl, rfl⟩; apply jjT; exact rfl; rintro w' hq; have := hq.toStep; refine jT rfl rfl rfl ?_; apply jI; exact eS rfl; refine jz ?_; exact ⟨rfl, rfl⟩; apply jjT; exact rfl; rintro w' hq; have := hq.toStep; refine jT rfl rfl rfl ?_; refine jh rfl ?_; refine jz ?_; exact ⟨rfl, rfl⟩; apply jjT; exact rfl; rintro w' hq; have := hq.toStep; refine jT rfl rfl rfl ?_; apply jI; exact eS rfl; refine jz ?_; exact ⟨rfl, rfl⟩; apply jjT; exact rfl; rintro w' hq; have := hq.toStep; refine jT rfl rfl rfl ?_; refine jh rfl ?_; refine jz ?_; exact ⟨rfl, rfl⟩; apply jjT; exact rfl; rintro w' hq; have := hq.toStep; refine jT rfl rfl rfl ?_; refine jjd rfl rfl (by omega) ?_; refine jz ?_; exact ⟨rfl, rfl⟩; apply jjT; exact rfl; rintro w' hq; have := hq.toStep; apply jK rfl; exact eB rfl; refine jz ?_; exact ⟨rfl, rfl⟩; apply jjT; exact rfl; rintro w' hq; have := hq.toStep; apply jI; exact eB rfl; refine jz ?_; exact ⟨rfl, rfl⟩; apply jjT; exact rfl; rintro w' hq; have := hq.toStep; refine jT rfl rfl rfl ?_; apply jI; exact eS rfl; refine jz ?_; exact ⟨rfl, rfl⟩; apply jjT; exact rfl; rintro w' hq; have := hq.toStep; refine jT rfl rfl rfl ?_; apply jI; exact eS rfl; refine jz ?_; exact ⟨rfl, rfl⟩; apply jjT; exact rfl; rintro w' hq; have := hq.toStep; refine jT rfl rfl rfl ?_; refine jh rfl ?_; refine jz ?_; exact ⟨rfl, rfl⟩; refine jjU ?_)))
  refine jjV [20] (by decide +kernel) hS27.ext (jjT (v := .slice a25 xs.length c25) rfl (fun w' q1 => ?_) (jjU ?_)); (refine jT rfl rfl rfl ?_; refine Ops.sliceXHv (k := 1) (hi := xs.length) rfl rfl rfl (by omega) (by omega) ?_; refine jz ?_; exact ⟨rfl, rfl⟩)
  refine jjV [21] (by decide +kernel) hS27.ext ?_
  (((apply jjT; exact rfl; rintro w' hq; have := hq.toStep; refine jT rfl rfl rfl ?_; apply jI; exact eS rfl; refine jz ?_; exact ⟨rfl, rfl⟩; refine jjU ?_)))
  have j25 := RowI.mk q25
  have jx := RowI.mk qx
  (apply jjW 22; (decide +kernel); exact rfl; (exact inferInstance))
  (refine jT rfl rfl rfl ?_)
  refine jjQ ((same_law8 a25 (some ⟨pa, oa, none⟩) c25 c10 xs xs _).mono (R' := fun v _ => v = .bool true) fun v _ _ h => h.trans (by rw [decide_eq_true rfl])) rfl rfl ?_
  rintro _ w28 hS28 rfl
  refine jz ?_
  refine jjV [23, 24, 25, 26, 27, 28, 29, 30, 31, 32, 33, 34, 35] (by decide +kernel) inferInstance ?_
  (((apply jjT; exact rfl; rintro w' hq; have := hq.toStep; apply jK rfl; exact eB rfl; refine jz ?_; exact ⟨rfl, rfl⟩; apply jjT; exact rfl; rintro w' hq; have := hq.toStep; apply jI; exact eB rfl; refine jz ?_; exact ⟨rfl, rfl⟩; apply jjT; exact rfl; rintro w' hq; have := hq.toStep; refine jT rfl rfl rfl ?_; apply jI; exact eS rfl; refine jz ?_; exact ⟨rfl, rfl⟩; apply jjT; exact rfl; rintro w' hq; have := hq.toStep; refine jT rfl rfl rfl ?_; refine jh rfl ?_; refine jz ?_; exact ⟨rfl, rfl⟩; apply jjT; exact rfl; rintro w' hq; have := hq.toStep; refine jT rfl rfl rfl ?_; apply jI; exact eS rfl; refine jz ?_; exact ⟨rfl, rfl⟩; apply jjT; exact rfl; rintro w' hq; have := hq.toStep; refine jT rfl rfl rfl ?_; refine jh rfl ?_; refine jz ?_; exact ⟨rfl, rfl⟩; apply jjT; exact rfl; rintro w' hq; have := hq.toStep; refine jT rfl rfl rfl ?_; refine jY rfl rfl (by omega) ?_; refine jz ?_; exact ⟨rfl, rfl⟩; apply jjT; exact rfl; rintro w' hq; have := hq.toStep; refine jT rfl rfl rfl ?_; refine jjh rfl rfl (by omega) ?_; refine jz ?_; exact ⟨rfl, rfl⟩; apply jjT; exact rfl; rintro w' hq; have := hq.toStep; apply jK rfl; exact eB rfl; refine jz ?_; exact ⟨rfl, rfl⟩; apply jjT; exact rfl; rintro w' hq; have := hq.toStep; apply jI; exact eB rfl; refine jz ?_; exact ⟨rfl, rfl⟩; apply jjT; exact rfl; rintro w' hq; have := hq.toStep; refine jT rfl rfl rfl ?_; apply jI; exact eS rfl; refine jz ?_; exact ⟨rfl, rfl⟩; apply jjT; exact rfl; rintro w' hq; have := hq.toStep; refine jT rfl rfl rfl ?_; apply jI; exact eS rfl; refine jz ?_; exact ⟨rfl, rfl⟩; apply jjT; exact rfl; rintro w' hq; have := hq.toStep; refine jT rfl rfl rfl ?_; refine jh rfl ?_; refine jz ?_; exact ⟨rfl, rfl⟩; refine jjU ?_)))
  refine jjV [36] (by decide +kernel) inferInstance (jjT (v := .slice a26 xs.length c26) rfl (fun w' q1 => ?_) (jjU ?_)); (refine jT rfl rfl rfl ?_; refine Ops.sliceXHv (k := 1) (hi := xs.length) rfl rfl rfl (by omega) (by omega) ?_; refine jz ?_; exact ⟨rfl, rfl⟩)
  refine jjV [37, 38, 39] (by decide +kernel) inferInstance ?_
  (((apply jjT; exact rfl; rintro w' hq; have := hq.toStep; refine jT rfl rfl rfl ?_; apply jI; exact eS rfl; refine jz ?_; exact ⟨rfl, rfl⟩; apply jjT; exact rfl; rintro w' hq; have := hq.toStep; refine jT rfl rfl rfl ?_; apply jI; exact eS rfl; refine jz ?_; exact ⟨rfl, rfl⟩; apply jjT; exact rfl; rintro w' hq; have := hq.toStep; refine jT rfl rfl rfl ?_; refine jh rfl ?_; refine jz ?_; exact ⟨rfl, rfl⟩; refine jjU ?_)))
  refine jjV [40] (by decide +kernel) inferInstance (jjT (v := .slice a12 xs.length c12) rfl (fun w' q1 => ?_) (jjU ?_)); (refine jT rfl rfl rfl ?_; refine Ops.sliceXHv (k := 1) (hi := xs.length) rfl rfl rfl (by omega) (by omega) ?_; refine jz ?_; exact ⟨rfl, rfl⟩)
  have q26 : RowV w28 false 1 (.slice a26 xs.length c26) ((Q.take xs.length).map intV) := by
    have := (i26.h.ext (w' := w28) inferInstance).takeV (hi := xs.length) (by rw [List.length_map]; omega)
    rwa [← List.map_take] at this
  have q12 : RowV w28 false 1 (.slice a12 xs.length c12) ((Q.take xs.length).map intV) := by
    have := (iP2.ext (w' := w28) inferInstance).takeV (hi := xs.length) (by rw [List.length_map]; omega)
    rwa [← List.map_take, ← hpt] at this
  have hql : (Q.take xs.length).length = xs.length := by rw [List.length_take]; omega
  obtain ⟨qs, hqs⟩ : ∃ qs, Q.take xs.length = qs := ⟨_, rfl⟩
  rw [hqs] at q26 q12 hql
  rw [← hql] at q26 q12
  have j26 := RowI.mk q26
  have j12 := RowI.mk q12
  have hsm := same_law8 a26 a12 c26 c12 qs qs w28
  rw [hql] at hsm
  (apply jjW 41; (decide +kernel); exact rfl; (exact inferInstance))
  (refine jT rfl rfl rfl ?_)
  refine jjQ (hsm.mono (R' := fun v _ => v = .bool true) fun v _ _ h => h.trans (by rw [decide_eq_true rfl])) rfl rfl ?_
  rintro _ w29 hS29 rfl
  refine jz ?_
  refine jjV [42, 43] (by decide +kernel) inferInstance ?_
  (((apply jjT; exact rfl; rintro w' hq; have := hq.toStep; apply jK rfl; exact eB rfl; refine jz ?_; exact ⟨rfl, rfl⟩; apply jjT; exact rfl; rintro w' hq; have := hq.toStep; apply jJ; exact eB rfl; refine jz ?_; exact ⟨rfl, rfl⟩; refine jjU ?_)))
  refine jjX (by decide +kernel) inferInstance ?_
  (refine jjF ?_; refine jB rfl rfl ⟨inferInstance, ?_⟩)
  exact rfl
end
end Go.Proofs.YtfebegbjggoijaaGreatDoor
