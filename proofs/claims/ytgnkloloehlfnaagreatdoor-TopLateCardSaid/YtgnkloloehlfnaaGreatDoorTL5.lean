/- Texts of the proof, part 5: HdB, HdC, HdE, HdF, Ra0, RkS, So1, So2, So3, So4, So5, Ra1, Ra2, Ra3, RkP, RkC, RkM, RkN, PkA, Ra4, PkB, RkK, PkC. -/
import Derived.Test.YtgnkloloehlfnaaGreatDoorTL4
namespace Go.Proofs.YtgnkloloehlfnaaGreatDoor
open Go.RowKit

theorem any_false' {α : Type} (l : List α) : (l.any fun _ => false) = false := by simp
theorem bef_0 (ss : List Shr) (i : Nat) (k : Nat) (h : i < k) : befS ss i k = noP := by rw [befS, if_neg (by omega)]
theorem bef_k {ss : List Shr} {i k : Nat} (h : k ≤ i) (hi : i - k < ss.length) : befS ss i k = ss[i - k] := by
  rw [befS, if_pos h, List.getD_eq_getElem?_getD, List.getElem?_eq_getElem hi]; rfl
theorem bef_next {ss : List Shr} {i : Nat} (hi : i < ss.length) : befS ss (i + 1) 1 = ss[i] ∧ befS ss (i + 1) 2 = befS ss i 1 := by
  refine ⟨bef_k (by omega) (by omega), ?_⟩
  by_cases h : 1 ≤ i
  · rw [bef_k (by omega) (by omega), bef_k h (by omega)]
    simp only [show i + 1 - 2 = i - 1 by omega]
  · rw [bef_0 _ _ _ (by omega), bef_0 _ _ _ (by omega)]
theorem inTwo_hand (lo hi m n : Int) (b : Nat) (w : World) (h : lo ≤ m ∧ m ≤ hi) (h2 : lo ≤ n ∧ n ≤ hi) (hR : RowV w false 1 (.slice (some ⟨b, 0, none⟩) 2 2) [.int .i64 m, .int .i64 n]) : Ct Tryz.prog 100 [.int .i64 lo, .int .i64 hi, .slice (some ⟨b, 0, none⟩) 2 2] w fun v _ => v = .bool true :=
  (in_hand lo hi _ [m, n] w hR).mono fun v _ _ e => e.trans (by rw [List.all_cons, List.all_cons, List.all_nil, inB, inB, decide_eq_true h, decide_eq_true h2]; rfl)
abbrev shC (s : Shr) : List Value := [.int .i64 s.1, .int .i64 s.2.1, .int .i64 s.2.2.1, .int .i64 s.2.2.2]
section
variable (bd : Nat) (v0 v5 : Value) (ha : Option Addr) (hc : Nat) (hs : List Hp) (sa : Option Addr) (sc : Nat) (ss : List Shr) (xa : Option Addr) (xc : Nat) (xs : List Sht) (la : Option Addr) (lc : Nat) (L : List Ln) (w : World)
  [hd : At w bd 0 [v0, .slice ha hs.length hc, .slice sa ss.length sc, .slice xa xs.length xc, .slice la L.length lc, v5]] [hhs : RowI w (.slice ha hs.length hc) true 3 (hs.map encHp)] [hss : RowI w (.slice sa ss.length sc) true 4 (ss.map encShr)] [hxs : RowI w (.slice xa xs.length xc) true 2 (xs.map encSht)] [hxi : ShtI w xs]
include hd hhs hss hxs hxi
set_option maxRecDepth 10000 in
set_option maxHeartbeats 40000000 in
theorem right_hand (hp : RoundOk L.length hs ss xs) : Ct Tryz.prog 60 [.pointer (some ⟨bd, 0, none⟩)] w fun v _ => v = .bool true := by
  have hh := hp.h1
  have hs1 := hp.s1
  have hx1 := hp.x1
  have hfew := hp.few
  refine Ct.ofW (by simp) ?_
  (refine jjB (jjC (jJ (eB rfl) (jz (jjH (jjB ?_))))); refine jjB ?_)
  refine W.draw (fun w' => Ext w w') ?_
  intro w1 hS1
  refine jjV [0, 1, 2, 3, 4, 5] (by decide +kernel) hS1.ext ?_
  (((refine jjT rfl (fun _ _ => jI (eP rfl) (jz ⟨rfl, rfl⟩)) ?_; apply jjT; exact rfl; rintro w' hq; have := hq.toStep; refine jw rfl (jz ?_); exact ⟨rfl, rfl⟩; apply jjT; exact rfl; rintro w' hq; have := hq.toStep; refine jm (jn rfl (jz ?_)); exact ⟨rfl, rfl⟩; apply jjT; exact rfl; rintro w' hq; have := hq.toStep; refine jm (jn rfl (jz ?_)); exact ⟨rfl, rfl⟩; apply jjT; exact rfl; rintro w' hq; have := hq.toStep; refine jN rfl rfl rfl (jz ?_); exact ⟨rfl, rfl⟩; refine jjT rfl (fun _ _ => jh rfl (jz ⟨rfl, rfl⟩)) (jjU ?_))))
  (apply jjW 6; (decide +kernel); exact rfl; (exact hS1.ext))
  (refine jjP (v := .int _ _) rfl (by exact rfl) (by exact rfl) (by exact rfl) (by exact rfl) ?_; intro b17 w_b17 hb_b17 hs_b17 hS_b17 hk_b17; have hR_b17 := RowV.one (agg := false) (k := 1) rfl hk_b17)
  have q17 : Ext w w_b17 := hS1.ext.trans hS_b17.ext
  refine jz ?_
  (apply jjW 7; (decide +kernel); exact rfl; (exact q17))
  refine jjQ (inOne_hand 1 4 (hs.length : Int) b17 _ (by omega) hR_b17) rfl rfl ?_
  rintro _ w2 hS2 rfl
  have q2 : Ext w w2 := q17.trans hS2.ext
  refine jz ?_
  refine jjV [8, 9, 10, 11, 12, 13, 14, 15, 16, 17, 18, 19, 20, 21, 22, 23, 24, 25, 26, 27, 28, 29, 30] (by decide +kernel) q2 ?_
  (((refine jjT rfl (fun _ _ => jp rfl (jz ⟨rfl, rfl⟩)) (jjT rfl (fun _ _ => jI (eB rfl) (jz ⟨rfl, rfl⟩)) (jjT rfl (fun _ _ => jT rfl rfl rfl (jI (eP rfl) (jz ⟨rfl, rfl⟩))) ?_)); apply jjT; exact rfl; rintro w' hq; have := hq.toStep; refine jT rfl rfl rfl (jw rfl (jz ?_)); exact ⟨rfl, rfl⟩; apply jjT; exact rfl; rintro w' hq; have := hq.toStep; refine jT rfl rfl rfl (jm (jn rfl (jz ?_))); exact ⟨rfl, rfl⟩; apply jjT; exact rfl; rintro w' hq; have := hq.toStep; refine jT rfl rfl rfl (jm (jn rfl (jz ?_))); exact ⟨rfl, rfl⟩; apply jjT; exact rfl; rintro w' hq; have := hq.toStep; refine jT rfl rfl rfl (jN rfl rfl rfl (jz ?_)); exact ⟨rfl, rfl⟩; refine jjT rfl (fun _ _ => jT rfl rfl rfl (jh rfl (jz ⟨rfl, rfl⟩))) (jjT rfl (fun _ _ => jT rfl rfl rfl (jje rfl rfl (by omega) (jz ⟨rfl, rfl⟩))) (jjT rfl (fun _ _ => jL rfl (eB rfl) (jz ⟨rfl, rfl⟩)) (jjT rfl (fun _ _ => jI (eB rfl) (jz ⟨rfl, rfl⟩)) (jjT rfl (fun _ _ => jT rfl rfl rfl (jI (eP rfl) (jz ⟨rfl, rfl⟩))) ?_)))); apply jjT; exact rfl; rintro w' hq; have := hq.toStep; refine jT rfl rfl rfl (jw rfl (jz ?_)); exact ⟨rfl, rfl⟩; apply jjT; exact rfl; rintro w' hq; have := hq.toStep; refine jT rfl rfl rfl (jm (jn rfl (jz ?_))); exact ⟨rfl, rfl⟩; apply jjT; exact rfl; rintro w' hq; have := hq.toStep; refine jT rfl rfl rfl (jm (jn rfl (jz ?_))); exact ⟨rfl, rfl⟩; apply jjT; exact rfl; rintro w' hq; have := hq.toStep; refine jT rfl rfl rfl (jN rfl rfl rfl (jz ?_)); exact ⟨rfl, rfl⟩; refine jjT rfl (fun _ _ => jT rfl rfl rfl (jh rfl (jz ⟨rfl, rfl⟩))) (jjT rfl (fun _ _ => jT rfl rfl rfl (jI (eP rfl) (jz ⟨rfl, rfl⟩))) ?_); apply jjT; exact rfl; rintro w' hq; have := hq.toStep; refine jT rfl rfl rfl (jw rfl (jz ?_)); exact ⟨rfl, rfl⟩; apply jjT; exact rfl; rintro w' hq; have := hq.toStep; refine jT rfl rfl rfl (jm (jn rfl (jz ?_))); exact ⟨rfl, rfl⟩; apply jjT; exact rfl; rintro w' hq; have := hq.toStep; refine jT rfl rfl rfl (jm (jn rfl (jz ?_))); exact ⟨rfl, rfl⟩; apply jjT; exact rfl; rintro w' hq; have := hq.toStep; refine jT rfl rfl rfl (jN rfl rfl rfl (jz ?_)); exact ⟨rfl, rfl⟩; refine jjT rfl (fun _ _ => jT rfl rfl rfl (jh rfl (jz ⟨rfl, rfl⟩))) (jjU ?_))))
  refine jjV [31] (by decide +kernel) q2 (jjT (v := .bool false) rfl (fun w' q1 => ?_) (jjU ?_)); (refine jT rfl rfl rfl (jc rfl rfl ?_); rw [decide_eq_false (by omega)]; refine jz ?_; exact ⟨rfl, rfl⟩)
  refine jjV [32] (by decide +kernel) q2 ?_
  (((refine jjT rfl (fun _ _ => jL rfl (eB rfl) (jz ⟨rfl, rfl⟩)) (jjU ?_))))
  refine jjX (by decide +kernel) q2 ?_
  (refine jjK rfl (jjG (jjB (jjC ?_))))
  refine Ops.makeMap (Value.int .i64) ?_
  intro mb w3 hmb hs3 hS3 hM3
  have q3 : Ext w w3 := q2.trans hS3.ext
  have z2 := q2.size
  (refine jJ (eM rfl) (jz (jjB (jjB (jjC (jI (eP rfl) ?_))))); refine jw rfl (jm (jn rfl (jm (jn rfl (jN rfl rfl rfl ?_))))); refine jh rfl (jI (eI rfl) (jz (jjD ?_))))
  refine W.keep0 [(0, .pointer (some ⟨bd, 0, none⟩)), (3, .map (some mb)), (49, .slice ha hs.length hc), (50, .int .i64 (hs.length : Int)), (51, .int .i64 ((0 : Nat) : Int))] ⟨eP rfl, eM rfl, eS rfl, eI rfl, eI rfl, trivial⟩ fun s0 => ?_
  refine W.loopG (52 :: 53 :: 54 :: 5 :: 55 :: 56 :: 57 :: 58 :: 59 :: 60 :: 61 :: 62 :: 63 :: 64 :: 65 :: 66 :: 67 :: 68 :: 69 :: 70 :: 71 :: 72 :: 73 :: 74 :: 75 :: 76 :: 77 :: 78 :: 79 :: 2 :: 80 :: 81 :: 82 :: 83 :: 51 :: []) (fun g s' V => ∃ (k : Nat) (m : List (Int × Value)), s' 51 = .int .i64 (k : Int) ∧ g = hs.length - k ∧ k ≤ hs.length ∧ Ext w V ∧ MapE (Value.int .i64) V mb m ∧ ∀ x v, mget m x = some v → ∃ j, ∃ (h : j < hs.length), j < k ∧ hs[j].1 = x) hs.length ⟨0, [], rfl, rfl, Nat.zero_le _, q3, hM3, fun x v h => by cases h⟩ ?_
  rintro _ sd V ⟨k, m, h51, rfl, hk, hEV, hM, hmg⟩
  refine W.fix h51 ?_
  clear h51
  have hEV' := hEV.toStep
  by_cases hk1 : k < hs.length
  · have hh := hp.hp k hk1
    have hnone : (mget m hs[k].1).getD (.bool false) = .bool false := by
      cases e : mget m hs[k].1 with
      | none => rfl
      | some v =>
        obtain ⟨j, h1, h2, h3⟩ := hmg _ _ e
        exact absurd h3 (hp.hd k hk1 j h2)
    (refine jjB (jjC (jjZ rfl rfl (by omega) (jz (jjB (jjJ rfl ?_))))); refine jjG (jjB (jjD (jjB (jjC ?_)))); refine jF rfl rfl rfl (map_get (by omega)) ?_; intro _ _ _; refine jQ rfl rfl ?_)
    (apply jjR rfl; (intro _; first|exact eI rfl|exact eB rfl|exact eP rfl|exact eS rfl|exact eT rfl|exact eA rfl|exact eU rfl|exact eF rfl|exact eM rfl|exact eN rfl|exact rfl); exact rfl; exact rfl; exact rfl; exact rfl; intro b5 w_b5 hb_b5 hs_b5 hS_b5 hk_b5; have hA_b5 := Bk.of hk_b5)
    have hA5 : At w_b5 b5 0 [.int .i64 hs[k].1, .int .i64 hs[k].2.1, .int .i64 hs[k].2.2] := Bk.toAt (h := hA_b5)
    (refine jz (jjB (jjB (jjC (jm (jn rfl ?_))))); refine jN rfl rfl rfl ?_)
    (refine jjP (v := .int _ _) rfl (by exact rfl) (by exact rfl) (by exact rfl) (by exact rfl) ?_; intro b57 w_b57 hb_b57 hs_b57 hS_b57 hk_b57; have hR_b57 := RowV.one (agg := false) (k := 1) rfl hk_b57)
    skip
    refine jjQ (inOne_hand 0 9999 hs[k].1 b57 _ (by omega) hR_b57) rfl rfl ?_
    rintro _ w4 hS4 rfl
    have e4 : Ext V w4 := hS_b5.ext.trans (hS_b57.ext.trans hS4.ext)
    (refine jp rfl (jI (eB rfl) (jT rfl rfl rfl (jI (eM rfl) (jT rfl rfl rfl (jm ?_))))); refine jn rfl (jT rfl rfl rfl (jN rfl rfl rfl (jT rfl rfl rfl ?_))))
    refine Ops.lookupV (k := hs[k].1) (v := .bool false) hnone (hM.ext e4) rfl rfl ?_
    (refine jL rfl (eB rfl) (jI (eB rfl) (jT rfl rfl rfl (jm (jn rfl (jT rfl rfl rfl ?_))))); refine jN rfl rfl rfl (jT rfl rfl rfl ?_))
    (refine jjP (v := .int _ _) rfl (by exact rfl) (by exact rfl) (by exact rfl) (by exact rfl) ?_; intro b69 w_b69 hb_b69 hs_b69 hS_b69 hk_b69; have hR_b69 := RowV.one (agg := false) (k := 1) rfl hk_b69)
    (refine jT rfl rfl rfl ?_)
    refine jjQ (inOne_hand 0 30 hs[k].2.1 b69 _ (by omega) hR_b69) rfl rfl ?_
    rintro _ w5 hS5 rfl
    (refine jT rfl rfl rfl (jp rfl (jL rfl (eB rfl) (jI (eB rfl) (jT rfl rfl rfl (jm ?_))))); refine jn rfl (jT rfl rfl rfl (jN rfl rfl rfl (jT rfl rfl rfl ?_))))
    (refine jjP (v := .int _ _) rfl (by exact rfl) (by exact rfl) (by exact rfl) (by exact rfl) ?_; intro b76 w_b76 hb_b76 hs_b76 hS_b76 hk_b76; have hR_b76 := RowV.one (agg := false) (k := 1) rfl hk_b76)
    (refine jT rfl rfl rfl ?_)
    refine jjQ (inOne_hand 1 20 hs[k].2.2 b76 _ (by omega) hR_b76) rfl rfl ?_
    rintro _ w6 hS6 rfl
    have e6 : Ext V w6 := e4.trans (hS_b69.ext.trans (hS5.ext.trans (hS_b76.ext.trans hS6.ext)))
    (refine jT rfl rfl rfl (jp rfl (jL rfl (eB rfl) (jz (jjK rfl (jjG ?_))))); refine jjC (jI (eM rfl) (jm (jn rfl (jN rfl rfl rfl ?_)))))
    refine Ops.mapUpdate (k := hs[k].1) (v := .bool true) (hM.ext e6) rfl rfl rfl ?_
    intro w7 o7 hp7 hM7
    (refine jz (jjC (jY rfl rfl (by omega) (jI (eI rfl) (jz ?_)))))
    refine ⟨rfl, by (((iterate 35 refine Same.upd rfl ?_); exact Same.ovN)), hs.length - (k + 1), by omega, k + 1, _, congrArg (Value.int .i64) (by omega), rfl, by omega, hp7.ext (hEV.trans e6) (by omega), hM7, fun x v h => ?_⟩
    by_cases e : x = hs[k].1
    · exact ⟨k, hk1, by omega, e.symm⟩
    · rw [mget_set_other _ _ e] at h
      obtain ⟨j, h1, h2, h3⟩ := hmg _ _ h
      exact ⟨j, h1, by omega, h3⟩
  (refine jjB (jjC (jja rfl rfl (by omega) (jz (jjB (jjK rfl ?_))))); refine jjE (jjB (jjC ?_)))
  (refine jjS (cells := [.int .i64 (-1), .int .i64 (-1), .int .i64 0, .int .i64 0]) ?_ ?_; exact rfl)
  (refine jjS (cells := [.int .i64 (-1), .int .i64 (-1), .int .i64 0, .int .i64 0]) ?_ ?_; exact rfl)
  (refine jjS (cells := [.int .i64 (-1), .int .i64 (-1), .int .i64 0, .int .i64 0, .int .i64 (-1), .int .i64 (-1), .int .i64 0, .int .i64 0]) ?_ ?_; exact rfl)
  (apply jjR rfl; (intro _; first|exact eI rfl|exact eB rfl|exact eP rfl|exact eS rfl|exact eT rfl|exact eA rfl|exact eU rfl|exact eF rfl|exact eM rfl|exact eN rfl|exact rfl); exact rfl; exact rfl; exact rfl; exact rfl; intro b6 w_b6 hb_b6 hs_b6 hS_b6 hk_b6; have hA_b6 := Bk.of hk_b6)
  have q6 : Ext w w_b6 := hEV.trans hS_b6.ext
  have z6 := hEV.size
  have hA6 : Bk w_b6 b6 (shC (befS ss 0 2) ++ shC (befS ss 0 1)) 179 := by
    rw [bef_0 _ _ _ (by omega), bef_0 _ _ _ (by omega)]
    exact hA_b6
  (refine jz (jjB (jjC (jJ (eB rfl) (jz (jjB ?_))))); refine jjI (jjB (jjB (jjC (jI (eP rfl) (jw rfl ?_))))); refine jm (jn rfl (jm (jn rfl (jN rfl rfl rfl (jh rfl ?_))))); refine jI (eI rfl) (jz (jjD ?_)))
  refine W.keep0 [(0, .pointer (some ⟨bd, 0, none⟩)), (6, .pointer (some ⟨b6, 0, none⟩)), (7, .bool true), (91, .slice sa ss.length sc), (92, .int .i64 (ss.length : Int)), (93, .int .i64 ((0 : Nat) : Int))] ⟨eP rfl, eP rfl, eB rfl, eS rfl, eI rfl, eI rfl, trivial⟩ fun s1 => ?_
  refine W.loopG (94 :: 95 :: 96 :: 97 :: 9 :: 8 :: 98 :: 99 :: 100 :: 101 :: 102 :: 103 :: 104 :: 105 :: 10 :: 106 :: 107 :: 108 :: 109 :: 110 :: 111 :: 112 :: 113 :: 114 :: 115 :: 116 :: 117 :: 118 :: 119 :: 120 :: 121 :: 122 :: 123 :: 124 :: 125 :: 126 :: 127 :: 128 :: 129 :: 130 :: 131 :: 132 :: 133 :: 134 :: 135 :: 136 :: 137 :: 138 :: 139 :: 140 :: 141 :: 142 :: 143 :: 144 :: 145 :: 146 :: 147 :: 148 :: 149 :: 150 :: 151 :: 152 :: 153 :: 154 :: 155 :: 156 :: 157 :: 158 :: 159 :: 160 :: 161 :: 162 :: 163 :: 164 :: 165 :: 166 :: 167 :: 168 :: 169 :: 170 :: 171 :: 172 :: 173 :: 174 :: 175 :: 176 :: 177 :: 178 :: 179 :: 180 :: 181 :: 182 :: 183 :: 7 :: 184 :: 185 :: 186 :: 187 :: 188 :: 189 :: 190 :: 191 :: 192 :: 193 :: 194 :: 195 :: 93 :: []) (fun g s' V => ∃ i : Nat, s' 93 = .int .i64 (i : Int) ∧ s' 7 = .bool true ∧ g = ss.length - i ∧ i ≤ ss.length ∧ Ext w V ∧ Bk V b6 (shC (befS ss i 2) ++ shC (befS ss i 1)) 179) ss.length ⟨0, rfl, rfl, rfl, Nat.zero_le _, q6, hA6⟩ ?_
  clear hmg hM hEV' hEV hk hk1 hA6 q6
  rintro _ sd2 V ⟨i, h93, h7, rfl, hi, hEV, hB6⟩
  refine W.fix h93 (W.fix (d := 7) h7 ?_)
  clear h93 h7
  have hEV' := hEV.toStep
  by_cases hi1 : i < ss.length
  rotate_left
  · (refine jjB (jjC (jja rfl rfl (by omega) (jz (jjB (jjK rfl ?_))))); refine jjE (jjB (jjC (jI (eB rfl) (jJ (eB rfl) (jz ?_))))); refine jjF ?_; refine jB rfl rfl ⟨inferInstance, ?_⟩)
    exact rfl
  have sp := hp.sp i hi1
  have hix : i < xs.length := by omega
  have sh := hp.sh i hix
  obtain ⟨s0', hs0⟩ : ∃ q, befS ss i 2 = q := ⟨_, rfl⟩
  obtain ⟨s1', hs1'⟩ : ∃ q, befS ss i 1 = q := ⟨_, rfl⟩
  have ord : s1'.1 < ss[i].1 ∧ s1'.2.1 < ss[i].2.1 ∧ s0'.2.1 < ss[i].1 := by
    rw [← hs0, ← hs1']
    refine ⟨?_, ?_, ?_⟩
    · by_cases h : 1 ≤ i
      · rw [bef_k h (by omega)]; exact (hp.so i hi1 (by omega)).1
      · rw [bef_0 _ _ _ (by omega)]; simp only; omega
    · by_cases h : 1 ≤ i
      · rw [bef_k h (by omega)]; exact (hp.so i hi1 (by omega)).2
      · rw [bef_0 _ _ _ (by omega)]; simp only; omega
    · by_cases h : 2 ≤ i
      · rw [bef_k h (by omega)]; exact hp.so2 i hi1 (by omega)
      · rw [bef_0 _ _ _ (by omega)]; simp only; omega
  rw [hs0, hs1'] at hB6
  obtain ⟨nx1, nx2⟩ := bef_next hi1
  rw [hs1'] at nx2
  have hA6 : At V b6 0 [.int .i64 s0'.1, .int .i64 s0'.2.1, .int .i64 s0'.2.2.1, .int .i64 s0'.2.2.2, .int .i64 s1'.1, .int .i64 s1'.2.1, .int .i64 s1'.2.2.1, .int .i64 s1'.2.2.2] := Bk.toAt (h := hB6)
  obtain ⟨B, hB⟩ : ∃ B, xs[i].1 = B := ⟨_, rfl⟩
  (refine jjB (jjC (jjZ rfl rfl (by omega) (jz (jjB (jjJ rfl ?_))))); refine jjG (jjB (jjD (jjB (jjC (jI (eI rfl) ?_))))); refine jF rfl rfl rfl (map_get (by omega)) ?_; intro _ _ _; refine jQ rfl rfl ?_)
  ((skip); refine jjY ?_; intro b9 w_b9 hb_b9 hs_b9 hS_b9 hk_b9; have hA_b9 := Bk.of hk_b9)
  (apply jJ; exact eI rfl)
  refine Ops.store rfl rfl rfl rfl rfl ?_
  intro w8 hp8
  have e8 : Ext V w8 := hp8.ext hS_b9.ext (by omega)
  have A9 : At w8 b9 0 [.int .i64 ss[i].1, .int .i64 ss[i].2.1, .int .i64 ss[i].2.2.1, .int .i64 ss[i].2.2.2] := Bk.toAt (h := ⟨hp8.new⟩)
  have e8' := e8.toStep
  have e8w := (hEV.trans e8).toStep
  (refine jz (jjB (jjC (jI (eP rfl) (jw rfl (jm ?_))))); refine jn rfl (jm (jn rfl (jN rfl rfl rfl (jI (eI rfl) ?_)))); refine jF rfl rfl rfl (map_get (by omega)) ?_; intro _ _ _; refine jQ rfl rfl ?_)
  ((skip); refine jjY ?_; intro b10 w_b10 hb_b10 hs_b10 hS_b10 hk_b10; have hA_b10 := Bk.of hk_b10)
  skip
  refine Ops.store rfl rfl rfl rfl rfl ?_
  intro w9 hp9
  have e9 : Ext w8 w9 := hp9.ext hS_b10.ext (by omega)
  have A10 : At w9 b10 0 [.bool xs[i].1, .slice xs[i].2.1 xs[i].2.2.2.length xs[i].2.2.1] := Bk.toAt (h := ⟨hp9.new⟩)
  rw [hB] at A10
  have e9' := e9.toStep
  have e9v := (e8.trans e9).toStep
  have e9w := (hEV.trans (e8.trans e9)).toStep
  (refine jz (jjB ?_))
  refine W.draw (fun w' => Ext w9 w') ?_
  intro x1 hX1
  have p1 := hX1.ext
  refine jjV [0, 1, 2, 3, 4, 5, 6, 7, 8, 9] (by decide +kernel) p1 ?_
  (((refine jjT rfl (fun _ _ => jI (eP rfl) (jz ⟨rfl, rfl⟩)) ?_; apply jjT; exact rfl; rintro w' hq; have := hq.toStep; refine jw rfl (jz ?_); exact ⟨rfl, rfl⟩; apply jjT; exact rfl; rintro w' hq; have := hq.toStep; refine jm (jn rfl (jz ?_)); exact ⟨rfl, rfl⟩; apply jjT; exact rfl; rintro w' hq; have := hq.toStep; refine jN rfl rfl rfl (jz ?_); exact ⟨rfl, rfl⟩; refine jjT rfl (fun _ _ => jh rfl (jz ⟨rfl, rfl⟩)) (jjT rfl (fun _ _ => jZ rfl rfl (by omega) (jz ⟨rfl, rfl⟩)) ?_); apply jjT; exact rfl; rintro w' hq; have := hq.toStep; refine jm (jn rfl (jz ?_)); exact ⟨rfl, rfl⟩; apply jjT; exact rfl; rintro w' hq; have := hq.toStep; refine jN rfl rfl rfl (jz ?_); exact ⟨rfl, rfl⟩; apply jjT; exact rfl; rintro w' hq; have := hq.toStep; refine jm (jn rfl (jz ?_)); exact ⟨rfl, rfl⟩; apply jjT; exact rfl; rintro w' hq; have := hq.toStep; refine jN rfl rfl rfl (jz ?_); exact ⟨rfl, rfl⟩; refine jjU ?_)))
  (apply jjW 10; (decide +kernel); exact rfl; (exact p1))
  refine Ops.buildSliceF (cells := [.int .i64 ss[i].1, .int .i64 ss[i].2.1]) rfl rfl rfl ?_
  intro b116 x2 hb10 hs10 hX2 hk10
  have R116 : RowV x2 false 1 (.slice (some ⟨b116, 0, none⟩) 2 2) [.int .i64 ss[i].1, .int .i64 ss[i].2.1] := row_two (Bk.toAt (h := hk10))
  have p2 := p1.trans hX2.ext
  refine jz ?_
  (apply jjW 11; (decide +kernel); exact rfl; (exact p2))
  refine jjQ (inTwo_hand 0 ((L.length : Int) - 1) ss[i].1 ss[i].2.1 b116 _ (by omega) (by omega) R116) rfl rfl ?_
  rintro _ x3 hX3 rfl
  have p3 := p2.trans hX3.ext
  refine jz ?_
  refine jjV [12, 13, 14, 15, 16, 17, 18, 19, 20, 21, 22, 23, 24, 25, 26, 27, 28] (by decide +kernel) p3 ?_
  (((refine jjT rfl (fun _ _ => jI (eB rfl) (jz ⟨rfl, rfl⟩)) ?_; apply jjT; exact rfl; rintro w' hq; have := hq.toStep; refine jT rfl rfl rfl (jm (jn rfl (jz ?_))); exact ⟨rfl, rfl⟩; apply jjT; exact rfl; rintro w' hq; have := hq.toStep; refine jT rfl rfl rfl (jN rfl rfl rfl (jz ?_)); exact ⟨rfl, rfl⟩; apply jjT; exact rfl; rintro w' hq; have := hq.toStep; refine jT rfl rfl rfl (jm (jn rfl (jz ?_))); exact ⟨rfl, rfl⟩; apply jjT; exact rfl; rintro w' hq; have := hq.toStep; refine jT rfl rfl rfl (jN rfl rfl rfl (jz ?_)); exact ⟨rfl, rfl⟩; refine jjT rfl (fun _ _ => jT rfl rfl rfl (jjb rfl rfl (by omega) (jz ⟨rfl, rfl⟩))) (jjT rfl (fun _ _ => jK rfl (eB rfl) (jz ⟨rfl, rfl⟩)) (jjT rfl (fun _ _ => jI (eB rfl) (jz ⟨rfl, rfl⟩)) (jjT rfl (fun _ _ => jT rfl rfl rfl (jI (eP rfl) (jz ⟨rfl, rfl⟩))) ?_))); apply jjT; exact rfl; rintro w' hq; have := hq.toStep; refine jT rfl rfl rfl (jw rfl (jz ?_)); exact ⟨rfl, rfl⟩; apply jjT; exact rfl; rintro w' hq; have := hq.toStep; refine jT rfl rfl rfl (jm (jn rfl (jz ?_))); exact ⟨rfl, rfl⟩; apply jjT; exact rfl; rintro w' hq; have := hq.toStep; refine jT rfl rfl rfl (jm (jn rfl (jz ?_))); exact ⟨rfl, rfl⟩; apply jjT; exact rfl; rintro w' hq; have := hq.toStep; refine jT rfl rfl rfl (jN rfl rfl rfl (jz ?_)); exact ⟨rfl, rfl⟩; refine jjT rfl (fun _ _ => jT rfl rfl rfl (jh rfl (jz ⟨rfl, rfl⟩))) (jjT rfl (fun _ _ => jT rfl rfl rfl (jZ rfl rfl (by omega) (jz ⟨rfl, rfl⟩))) ?_); apply jjT; exact rfl; rintro w' hq; have := hq.toStep; refine jT rfl rfl rfl (jm (jn rfl (jz ?_))); exact ⟨rfl, rfl⟩; apply jjT; exact rfl; rintro w' hq; have := hq.toStep; refine jT rfl rfl rfl (jN rfl rfl rfl (jz ?_)); exact ⟨rfl, rfl⟩; refine jjU ?_)))
  (apply jjW 29; (decide +kernel); exact rfl; (exact p3))
  refine jT rfl rfl rfl ?_
  (refine jjP (v := .int _ _) rfl (by exact rfl) (by exact rfl) (by exact rfl) (by exact rfl) ?_; intro b135 w_b135 hb_b135 hs_b135 hS_b135 hk_b135; have hR_b135 := RowV.one (agg := false) (k := 1) rfl hk_b135)
  have p4 := p3.trans hS_b135.ext
  refine jz ?_
  (apply jjW 30; (decide +kernel); exact rfl; (exact p4))
  refine jT rfl rfl rfl ?_
  refine jjQ (inOne_hand 0 ((hs.length : Int) - 1) ss[i].2.2.1 b135 _ (by omega) hR_b135) rfl rfl ?_
  rintro _ x5 hX5 rfl
  have p5 := p4.trans hX5.ext
  refine jz ?_
  refine jjV [31, 32, 33, 34] (by decide +kernel) p5 ?_
  (((refine jjT rfl (fun _ _ => jK rfl (eB rfl) (jz ⟨rfl, rfl⟩)) (jjT rfl (fun _ _ => jI (eB rfl) (jz ⟨rfl, rfl⟩)) ?_); apply jjT; exact rfl; rintro w' hq; have := hq.toStep; refine jT rfl rfl rfl (jm (jn rfl (jz ?_))); exact ⟨rfl, rfl⟩; apply jjT; exact rfl; rintro w' hq; have := hq.toStep; refine jT rfl rfl rfl (jN rfl rfl rfl (jz ?_)); exact ⟨rfl, rfl⟩; refine jjU ?_)))
  (apply jjW 35; (decide +kernel); exact rfl; (exact p5))
  refine jT rfl rfl rfl ?_
  (refine jjP (v := .int _ _) rfl (by exact rfl) (by exact rfl) (by exact rfl) (by exact rfl) ?_; intro b141 w_b141 hb_b141 hs_b141 hS_b141 hk_b141; have hR_b141 := RowV.one (agg := false) (k := 1) rfl hk_b141)
  have p6 := p5.trans hS_b141.ext
  refine jz ?_
  (apply jjW 36; (decide +kernel); exact rfl; (exact p6))
  refine jT rfl rfl rfl ?_
  refine jjQ (inOne_hand 0 400 ss[i].2.2.2 b141 _ (by omega) hR_b141) rfl rfl ?_
  rintro _ x7 hX7 rfl
  have p7 := p6.trans hX7.ext
  have A6 : ∀ V', Ext w9 V' → At V' b6 0 [.int .i64 s0'.1, .int .i64 s0'.2.1, .int .i64 s0'.2.2.1, .int .i64 s0'.2.2.2, .int .i64 s1'.1, .int .i64 s1'.2.1, .int .i64 s1'.2.2.1, .int .i64 s1'.2.2.2] := fun V' e => hA6.ext (e8.trans (e9.trans e))
  refine jz ?_
  refine jjV [37, 38, 39, 40] (by decide +kernel) p7 ?_
  (((refine jjT rfl (fun _ _ => jK rfl (eB rfl) (jz ⟨rfl, rfl⟩)) (jjT rfl (fun _ _ => jI (eB rfl) (jz ⟨rfl, rfl⟩)) ?_); apply jjT; exact rfl; rintro w' hq; have := hq.toStep; refine jT rfl rfl rfl (jm (jn rfl (jz ?_))); exact ⟨rfl, rfl⟩; apply jjT; exact rfl; rintro w' hq; have := hq.toStep; refine jT rfl rfl rfl (jN rfl rfl rfl (jz ?_)); exact ⟨rfl, rfl⟩; refine jjU ?_)))
  refine jjV [41] (by decide +kernel) p7 (jjT (v := .pointer (some ⟨b6, 4, none⟩)) rfl (fun w' q1 => ?_) (jjU ?_)); (refine jT rfl rfl rfl ?_; refine Ops.indexAP 1 rfl rfl rfl rfl ?_; refine jz ?_; exact ⟨rfl, rfl⟩)
  refine jjV [42] (by decide +kernel) p7 ?_
  (((apply jjT; exact rfl; rintro w' hq; refine jT rfl rfl rfl (jm (jn rfl (jz ?_))); exact ⟨rfl, rfl⟩; refine jjU ?_)))
  refine jjV [43] (by decide +kernel) p7 (jjT (v := .int .i64 s1'.1) rfl (fun w' q1 => ?_) (jjU ?_)); (refine jT rfl rfl rfl ?_; refine jR ((A6 _ q1).get (i := 4) rfl) rfl rfl ?_; refine jz ?_; exact ⟨rfl, rfl⟩)
  refine jjV [44, 45, 46, 47, 48] (by decide +kernel) p7 ?_
  (((refine jjT rfl (fun _ _ => jT rfl rfl rfl (jjd rfl rfl (by omega) (jz ⟨rfl, rfl⟩))) (jjT rfl (fun _ _ => jK rfl (eB rfl) (jz ⟨rfl, rfl⟩)) (jjT rfl (fun _ _ => jI (eB rfl) (jz ⟨rfl, rfl⟩)) ?_)); apply jjT; exact rfl; rintro w' hq; have := hq.toStep; refine jT rfl rfl rfl (jm (jn rfl (jz ?_))); exact ⟨rfl, rfl⟩; apply jjT; exact rfl; rintro w' hq; have := hq.toStep; refine jT rfl rfl rfl (jN rfl rfl rfl (jz ?_)); exact ⟨rfl, rfl⟩; refine jjU ?_)))
  refine jjV [49] (by decide +kernel) p7 (jjT (v := .pointer (some ⟨b6, 4, none⟩)) rfl (fun w' q1 => ?_) (jjU ?_)); (refine jT rfl rfl rfl ?_; refine Ops.indexAP 1 rfl rfl rfl rfl ?_; refine jz ?_; exact ⟨rfl, rfl⟩)
  refine jjV [50] (by decide +kernel) p7 ?_
  (((apply jjT; exact rfl; rintro w' hq; refine jT rfl rfl rfl (jm (jn rfl (jz ?_))); exact ⟨rfl, rfl⟩; refine jjU ?_)))
  refine jjV [51] (by decide +kernel) p7 (jjT (v := .int .i64 s1'.2.1) rfl (fun w' q1 => ?_) (jjU ?_)); (refine jT rfl rfl rfl ?_; refine jR ((A6 _ q1).get (i := 5) rfl) rfl rfl ?_; refine jz ?_; exact ⟨rfl, rfl⟩)
  refine jjV [52, 53, 54, 55, 56] (by decide +kernel) p7 ?_
  (((refine jjT rfl (fun _ _ => jT rfl rfl rfl (jjd rfl rfl (by omega) (jz ⟨rfl, rfl⟩))) (jjT rfl (fun _ _ => jK rfl (eB rfl) (jz ⟨rfl, rfl⟩)) (jjT rfl (fun _ _ => jI (eB rfl) (jz ⟨rfl, rfl⟩)) ?_)); apply jjT; exact rfl; rintro w' hq; have := hq.toStep; refine jT rfl rfl rfl (jm (jn rfl (jz ?_))); exact ⟨rfl, rfl⟩; apply jjT; exact rfl; rintro w' hq; have := hq.toStep; refine jT rfl rfl rfl (jN rfl rfl rfl (jz ?_)); exact ⟨rfl, rfl⟩; refine jjU ?_)))
  refine jjV [57] (by decide +kernel) p7 (jjT (v := .pointer (some ⟨b6, 0, none⟩)) rfl (fun w' q1 => ?_) (jjU ?_)); (refine jT rfl rfl rfl ?_; refine Ops.indexAP 0 rfl rfl rfl rfl ?_; refine jz ?_; exact ⟨rfl, rfl⟩)
  refine jjV [58] (by decide +kernel) p7 ?_
  (((apply jjT; exact rfl; rintro w' hq; refine jT rfl rfl rfl (jm (jn rfl (jz ?_))); exact ⟨rfl, rfl⟩; refine jjU ?_)))
  refine jjV [59] (by decide +kernel) p7 (jjT (v := .int .i64 s0'.2.1) rfl (fun w' q1 => ?_) (jjU ?_)); (refine jT rfl rfl rfl ?_; refine jR ((A6 _ q1).get (i := 1) rfl) rfl rfl ?_; refine jz ?_; exact ⟨rfl, rfl⟩)
  refine jjV [60, 61, 62, 63, 64, 65, 66, 67, 68, 69] (by decide +kernel) p7 ?_
  (((refine jjT rfl (fun _ _ => jT rfl rfl rfl (jjd rfl rfl (by omega) (jz ⟨rfl, rfl⟩))) (jjT rfl (fun _ _ => jK rfl (eB rfl) (jz ⟨rfl, rfl⟩)) (jjT rfl (fun _ _ => jI (eB rfl) (jz ⟨rfl, rfl⟩)) ?_)); apply jjT; exact rfl; rintro w' hq; have := hq.toStep; refine jT rfl rfl rfl (jm (jn rfl (jz ?_))); exact ⟨rfl, rfl⟩; apply jjT; exact rfl; rintro w' hq; have := hq.toStep; refine jT rfl rfl rfl (jN rfl rfl rfl (jz ?_)); exact ⟨rfl, rfl⟩; refine jjT rfl (fun _ _ => jT rfl rfl rfl (jh rfl (jz ⟨rfl, rfl⟩))) (jjT rfl (fun _ _ => jT rfl rfl rfl (jjb rfl rfl (by omega) (jz ⟨rfl, rfl⟩))) (jjT rfl (fun _ _ => jK rfl (eB rfl) (jz ⟨rfl, rfl⟩)) (jjT rfl (fun _ _ => jI (eB rfl) (jz ⟨rfl, rfl⟩)) ?_))); apply jjT; exact rfl; rintro w' hq; have := hq.toStep; refine jT rfl rfl rfl (jm (jn rfl (jz ?_))); exact ⟨rfl, rfl⟩; refine jjU ?_)))
  cases B
  · have hz : xs[i].2.2.2.length = 0 := sh.2.1.resolve_left (by rw [hB]; decide)
    refine jjV [70, 71, 72, 73, 74] (by decide +kernel) p7 ?_
    (((apply jjT; exact rfl; rintro w' hq; have := hq.toStep; refine jT rfl rfl rfl (jN rfl rfl rfl (jz ?_)); exact ⟨rfl, rfl⟩; refine jjT rfl (fun _ _ => jT rfl rfl rfl (jI (eB rfl) (jz ⟨rfl, rfl⟩))) ?_; apply jjT; exact rfl; rintro w' hq; have := hq.toStep; refine jT rfl rfl rfl (jm (jn rfl (jz ?_))); exact ⟨rfl, rfl⟩; apply jjT; exact rfl; rintro w' hq; have := hq.toStep; refine jT rfl rfl rfl (jN rfl rfl rfl (jz ?_)); exact ⟨rfl, rfl⟩; refine jjT rfl (fun _ _ => jT rfl rfl rfl (jh rfl (jz ⟨rfl, rfl⟩))) (jjU ?_))))
    refine jjV [75] (by decide +kernel) p7 (jjT (v := .bool true) rfl (fun w' q1 => ?_) (jjU ?_)); (refine jT rfl rfl rfl (jb rfl rfl ?_); rw [decide_eq_true (by omega)]; refine jz ?_; exact ⟨rfl, rfl⟩)
    refine jjV [76, 77, 78] (by decide +kernel) p7 ?_
    (((refine jjT rfl (fun _ _ => jT rfl rfl rfl (jL rfl (eB rfl) (jz ⟨rfl, rfl⟩))) (jjT rfl (fun _ _ => jK rfl (eB rfl) (jz ⟨rfl, rfl⟩)) (jjT rfl (fun _ _ => jJ (eB rfl) (jz ⟨rfl, rfl⟩)) (jjU ?_))))))
    have p8 := hX7.ext
    refine jjX (by decide +kernel) p7 ?_
    have P7 := p7.toStep
    have P7v := (e8.trans (e9.trans p7)).toStep
    have P7w := (hEV.trans (e8.trans (e9.trans p7))).toStep
    have hB67 : Bk x7 b6 (shC s0' ++ shC s1') 179 := hB6.ext (e8.trans (e9.trans p7))
    (refine jjB (jjB (jjC (jI (eB rfl) (jp rfl (jI (eB rfl) ?_))))); refine jT rfl rfl rfl (jm (jn rfl (jT rfl rfl rfl (jN rfl rfl rfl (jT rfl rfl rfl ?_))))))
    refine jjQ ((ContainsFunc_Slstring _ _ (.func (.func 102) #[] #[]) encLn xs[i].2.2.2 (fun _ => false) ((hxi.line hix).h.ext (hEV.trans (e8.trans (e9.trans p7)))) ⟨_, [], rfl, inferInstance, fun w' y hy hs' => by
      obtain ⟨n, hn, rfl⟩ := List.mem_iff_getElem.1 hy
      exact right1_hand _ w' ((hxi.word hix hn).h.ext ((hEV.trans (e8.trans (e9.trans p7))).trans hs')) (sh.2.2 n hn)⟩).mono fun v _ _ h => h.trans (by rw [any_false'])) rfl rfl ?_
    rintro _ x8 hX8 rfl
    have hB68 := hB67.ext hX8.ext
    have A68 : At x8 b6 0 [.int .i64 s0'.1, .int .i64 s0'.2.1, .int .i64 s0'.2.2.1, .int .i64 s0'.2.2.2, .int .i64 s1'.1, .int .i64 s1'.2.1, .int .i64 s1'.2.2.1, .int .i64 s1'.2.2.2] := Bk.toAt (h := hB68)
    (refine jL rfl (eB rfl) (jz (jjK rfl (jjG (jjC ?_)))))
    refine Ops.indexAP 1 rfl rfl rfl rfl ?_
    (refine jO rfl rfl rfl rfl (jO rfl rfl rfl rfl ?_))
    (refine jjS (cells := [.int .i64 s1'.1, .int .i64 s1'.2.1, .int .i64 s1'.2.2.1, .int .i64 s1'.2.2.2, .int .i64 ss[i].1, .int .i64 ss[i].2.1, .int .i64 ss[i].2.2.1, .int .i64 ss[i].2.2.2]) ?_ ?_; exact rfl)
    refine Ops.store (hb := hB68) rfl rfl rfl rfl rfl ?_
    intro y1 hpY
    have eY : Ext w y1 := hpY.ext ((hEV.trans (e8.trans (e9.trans p7))).trans hX8.ext) (by omega)
    have hBY : Bk y1 b6 (shC (befS ss (i + 1) 2) ++ shC (befS ss (i + 1) 1)) 179 := by
      rw [nx1, nx2]
      exact ⟨hpY.new⟩
    (refine jz (jjC (jY rfl rfl (by omega) (jI (eI rfl) (jz ?_)))))
    exact ⟨rfl, by (((iterate 109 refine Same.upd rfl ?_); exact Same.ovN)), ss.length - (i + 1), by omega, i + 1, congrArg (Value.int .i64) (by omega), rfl, rfl, by omega, eY, hBY⟩
  · refine jjV [70, 71, 72, 73, 74, 75, 76, 77, 78] (by decide +kernel) p7 ?_
    (((apply jjT; exact rfl; rintro w' hq; have := hq.toStep; refine jT rfl rfl rfl (jN rfl rfl rfl (jz ?_)); exact ⟨rfl, rfl⟩; refine jjT rfl (fun _ _ => jT rfl rfl rfl (jI (eB rfl) (jz ⟨rfl, rfl⟩))) (jjT rfl (fun _ _ => jU rfl rfl rfl rfl (jz ⟨rfl, rfl⟩)) (jjT rfl (fun _ _ => jU rfl rfl rfl rfl (jz ⟨rfl, rfl⟩)) (jjT rfl (fun _ _ => jU rfl rfl rfl rfl (jz ⟨rfl, rfl⟩)) (jjT rfl (fun _ _ => jU rfl rfl rfl rfl (jz ⟨rfl, rfl⟩)) (jjT rfl (fun _ _ => jT rfl rfl rfl (jK rfl (eB rfl) (jz ⟨rfl, rfl⟩))) ?_))))); refine jjT rfl (fun _ _ => jK rfl (eB rfl) (jz ⟨rfl, rfl⟩)) (jjT rfl (fun _ _ => jJ (eB rfl) (jz ⟨rfl, rfl⟩)) (jjU ?_)))))
    have p8 := hX7.ext
    refine jjX (by decide +kernel) p7 ?_
    have P7 := p7.toStep
    have P7v := (e8.trans (e9.trans p7)).toStep
    have P7w := (hEV.trans (e8.trans (e9.trans p7))).toStep
    have hB67 : Bk x7 b6 (shC s0' ++ shC s1') 179 := hB6.ext (e8.trans (e9.trans p7))
    (refine jjB (jjB (jjC (jI (eB rfl) (jp rfl (jI (eB rfl) ?_))))); refine jT rfl rfl rfl (jm (jn rfl (jT rfl rfl rfl (jN rfl rfl rfl (jT rfl rfl rfl ?_))))))
    refine jjQ ((ContainsFunc_Slstring _ _ (.func (.func 102) #[] #[]) encLn xs[i].2.2.2 (fun _ => false) ((hxi.line hix).h.ext (hEV.trans (e8.trans (e9.trans p7)))) ⟨_, [], rfl, inferInstance, fun w' y hy hs' => by
      obtain ⟨n, hn, rfl⟩ := List.mem_iff_getElem.1 hy
      exact right1_hand _ w' ((hxi.word hix hn).h.ext ((hEV.trans (e8.trans (e9.trans p7))).trans hs')) (sh.2.2 n hn)⟩).mono fun v _ _ h => h.trans (by rw [any_false'])) rfl rfl ?_
    rintro _ x8 hX8 rfl
    have hB68 := hB67.ext hX8.ext
    have A68 : At x8 b6 0 [.int .i64 s0'.1, .int .i64 s0'.2.1, .int .i64 s0'.2.2.1, .int .i64 s0'.2.2.2, .int .i64 s1'.1, .int .i64 s1'.2.1, .int .i64 s1'.2.2.1, .int .i64 s1'.2.2.2] := Bk.toAt (h := hB68)
    (refine jL rfl (eB rfl) (jz (jjK rfl (jjG (jjC ?_)))))
    refine Ops.indexAP 1 rfl rfl rfl rfl ?_
    (refine jO rfl rfl rfl rfl (jO rfl rfl rfl rfl ?_))
    (refine jjS (cells := [.int .i64 s1'.1, .int .i64 s1'.2.1, .int .i64 s1'.2.2.1, .int .i64 s1'.2.2.2, .int .i64 ss[i].1, .int .i64 ss[i].2.1, .int .i64 ss[i].2.2.1, .int .i64 ss[i].2.2.2]) ?_ ?_; exact rfl)
    refine Ops.store (hb := hB68) rfl rfl rfl rfl rfl ?_
    intro y1 hpY
    have eY : Ext w y1 := hpY.ext ((hEV.trans (e8.trans (e9.trans p7))).trans hX8.ext) (by omega)
    have hBY : Bk y1 b6 (shC (befS ss (i + 1) 2) ++ shC (befS ss (i + 1) 1)) 179 := by
      rw [nx1, nx2]
      exact ⟨hpY.new⟩
    (refine jz (jjC (jY rfl rfl (by omega) (jI (eI rfl) (jz ?_)))))
    exact ⟨rfl, by (((iterate 109 refine Same.upd rfl ?_); exact Same.ovN)), ss.length - (i + 1), by omega, i + 1, congrArg (Value.int .i64) (by omega), rfl, rfl, by omega, eY, hBY⟩
end

section
variable (a : Option Addr) (c : Nat) (cs : List Ch) (ha : Option Addr) (hc : Nat) (hs : List Hp) (sa : Option Addr) (sc : Nat) (ss : List Shr) (xa : Option Addr) (xc : Nat) (xs : List Sht) (w : World)
  [hrow : RowI w (.slice a cs.length c) true 2 (cs.map encCh)] [hT : TextI w cs] [hhs : RowI w (.slice ha hs.length hc) true 3 (hs.map encHp)] [hss : RowI w (.slice sa ss.length sc) true 4 (ss.map encShr)] [hxs : RowI w (.slice xa xs.length xc) true 2 (xs.map encSht)] [hxi : ShtI w xs]
theorem DeskR.ext {bd : Nat} {w w' : World} (h : DeskR bd a c cs ha hc hs sa sc ss xa xc xs w) (e : Ext w w') : DeskR bd a c cs ha hc hs sa sc ss xa xc xs w' := by
  obtain ⟨la, lc, pa, pc, h1, h2, h3⟩ := h.h
  exact ⟨la, lc, pa, pc, h1.ext e, h2.ext e, h3.ext e⟩
set_option maxHeartbeats 8000000 in
theorem open_hand (hsm : SmallT cs) (ht : textB (txF cs) = true) (hp : RoundOk (lnK cs cs.length).length hs ss xs) : Ct Tryz.prog 26 [.agg #[.slice a cs.length c, .slice ha hs.length hc, .slice sa ss.length sc, .slice xa xs.length xc]] w fun v w' => ∃ bd, v = .tuple #[.pointer (some ⟨bd, 0, none⟩), .int .i64 0] ∧ DeskR bd a c cs ha hc hs sa sc ss xa xc xs w' := by
  refine Ct.ofW (by simp) ?_
  (refine jjB (jjC ?_))
  (refine jy rfl ?_; intro b1 w_b1 hb_b1 hs_b1 hS_b1 hk_b1; have hA_b1 := At.ofBlock hk_b1)
  have A1 : At w_b1 b1 0 [.slice a cs.length c, .slice ha hs.length hc, .slice sa ss.length sc, .slice xa xs.length xc] := At.ofBlock hk_b1
  (refine jJ (eN rfl) (jJ (eI rfl) (jz (jjB (jjB (jjC ?_))))); refine jm (jn rfl (jO rfl rfl rfl rfl ?_)))
  refine jjQ ((Check_leaf a c cs _ hsm).mono fun v _ _ h => h.trans (by rw [ht])) rfl rfl ?_
  rintro _ w2 hS2 rfl
  (refine jJ (eI rfl) (jz (jjB (jjC (jI (eI rfl) (jc rfl rfl ?_))))); refine jz (jjK rfl (jjG (jjB (jjC (jO rfl rfl rfl rfl ?_))))))
  refine jjQ (laid_hand a c cs ha hc hs sa sc ss xa xc xs _ hsm) rfl rfl ?_
  rintro _ w3 hS3 ⟨bd, rfl, hbd, hD⟩
  obtain ⟨la, lc, pa, pc, h1, h2, h3⟩ := hD.h
  (refine jJ (eP rfl) (jz (jjB (jjB (jjC (jI (eP rfl) ?_))))))
  refine jjQ (right_hand bd _ _ ha hc hs sa sc ss xa xc xs la lc (lnK cs cs.length) _ hp) rfl rfl ?_
  rintro _ w4 hS4 rfl
  (refine jp rfl (jz (jjK rfl (jjG (jjB (jjC ?_))))); refine jI (eP rfl) (jJ (eP rfl) (jJ (eI rfl) (jz (jjF ?_)))); refine jC rfl rfl rfl ⟨inferInstance, ?_⟩)
  exact ⟨bd, rfl, hD.ext (e := hS4.ext)⟩
end

theorem make_slP {t : Tx} {side W : Int} {k j q : Nat} (hk : k < t.length) (hj : j < (wsT t k).length) (hq : q < ((wsT t k).getD j []).length) : makeF t side W ((k : Int), (j : Int), (q : Int)) = some (slP t side W ((k : Int), (j : Int), (q : Int))) := by
  have hm : ((k : Int), (j : Int), (q : Int)) ∈ runA k (wsT t k) := by
    rw [runA, runAn, List.mem_flatMap]
    refine ⟨j, List.mem_range.2 hj, ?_⟩
    rw [lnP, List.mem_map]
    exact ⟨q, List.mem_range.2 hq, rfl⟩
  obtain ⟨i, hi⟩ := List.getElem?_of_mem hm
  rw [makeF_yes hk hi, slP_eq hk hi]
theorem lnK_words (cs : List Ch) : ∀ k, k ≤ cs.length → (lnK cs k).map (·.2.2) = (prL (txF cs) k).map fun p => (wsT (txF cs) p.1).getD p.2 [] := fun k => by
  induction k with
  | zero => intro _; rfl
  | succ k ih =>
    intro hk
    rw [lnK_succ (by omega), prL_succ, List.map_append, List.map_append, ih (by omega)]
    congr 1
    rw [List.map_map]
    have e : wsT (txF cs) k = cs[k].2.2.2.map (·.2.2) := by rw [wsT_get (by omega)]
    rw [← e]
    exact (range_get (wsT (txF cs) k) []).symm
theorem line_at {cs : List Ch} {n : Nat} (hn : n < (lnK cs cs.length).length) : ∃ k j : Nat, (prL (txF cs) (txF cs).length)[n]? = some (k, j) ∧ k < (txF cs).length ∧ j < (wsT (txF cs) k).length ∧ (lnK cs cs.length)[n].2.2 = (wsT (txF cs) k).getD j [] ∧ (atK cs cs.length)[n]? = some ((k : Int), (j : Int), 0) := by
  have hl := lnK_len (cs := cs) (Nat.le_refl _)
  have hn' : n < (prL (txF cs) cs.length).length := by omega
  obtain ⟨⟨k, j⟩, hp⟩ : ∃ p, (prL (txF cs) cs.length)[n]? = some p := ⟨_, List.getElem?_eq_getElem hn'⟩
  have hm := prL_mem.1 (List.mem_of_getElem? hp)
  have hw := congrArg (fun l => l[n]?) (lnK_words cs cs.length (Nat.le_refl _))
  simp only [List.getElem?_map, hp, List.getElem?_eq_getElem hn, Option.map_some, Option.some.injEq] at hw
  refine ⟨k, j, by rw [txF_len]; exact hp, by rw [txF_len]; exact hm.1, hm.2, hw, ?_⟩
  rw [atK, List.getElem?_map, hp]; rfl
section
variable (bd : Nat) (v0 v1 v2 v4 v5 : Value) (xa : Option Addr) (xc : Nat) (xs : List Sht) (a : Option Addr) (c : Nat) (l : List Int) (b1 b2 : Nat) (w : World)
  [hd : At w bd 0 [v0, v1, v2, .slice xa xs.length xc, v4, v5]] [hxs : RowI w (.slice xa xs.length xc) true 2 (xs.map encSht)] [hl : RowI w (.slice a l.length c) false 1 (l.map intV)] [h1 : At w b1 0 [.pointer (some ⟨bd, 0, none⟩)]] [h2 : At w b2 0 [.slice a l.length c]]
include hd hxs hl h1 h2
set_option maxHeartbeats 4000000 in
theorem doubt1_hand (k : Nat) (hx : k < xs.length) : Ct Tryz.prog 30 [.int .i64 (k : Int), .pointer (some ⟨b1, 0, none⟩), .pointer (some ⟨b2, 0, none⟩)] w fun v _ => ∃ B, v = .bool B := by
  have hxl := hxs.h.len
  rw [List.length_map] at hxl
  have gx : (xs.map encSht)[k]? = some (encSht xs[k]) := by rw [List.getElem?_map, List.getElem?_eq_getElem hx]; rfl
  obtain ⟨B, hB⟩ : ∃ B, xs[k].1 = B := ⟨_, rfl⟩
  obtain ⟨pb, po, rfl, -⟩ := hxs.h.place' gx
  have A0 : At w pb (po + k * 2) [.bool B, .slice xs[k].2.1 xs[k].2.2.2.length xs[k].2.2.1] := by
    rw [← hB]; exact place_k hxs.h gx
  clear hxs
  refine Ct.ofW (by simp) ?_
  (refine jjB (jjC (jJ (eB rfl) (jz (jjB (jjC ?_))))); refine jN rfl rfl rfl (jw rfl (jm (jn rfl (jm (jn rfl ?_))))); refine jN rfl rfl rfl (jI (eI rfl) ?_))
  refine jH k rfl rfl rfl (by omega) ?_
  cases B with
  | false =>
    (refine jm (jn rfl (jP rfl rfl rfl (jI (eB rfl) (jU rfl rfl rfl rfl (jU rfl rfl rfl rfl ?_))))); refine jU rfl rfl rfl rfl (jU rfl rfl rfl rfl (jL rfl (eB rfl) (jJ (eB rfl) (jz (jjF ?_))))); refine jB rfl rfl ⟨inferInstance, ?_⟩)
    exact ⟨_, rfl⟩
  | true =>
    (refine jm (jn rfl (jP rfl rfl rfl (jI (eB rfl) (jT rfl rfl rfl (jN rfl rfl rfl ?_))))); refine jT rfl rfl rfl (jI (eI rfl) (jT rfl rfl rfl ?_)))
    refine jjQ (Contains_ints a c l (k : Int) _) rfl rfl ?_
    rintro _ w2 hS2 ⟨T, rfl⟩
    cases T with
    | false =>
      (refine jT rfl rfl rfl (jq rfl (jK rfl (eB rfl) (jJ (eB rfl) (jz (jjF ?_))))); refine jB rfl rfl ⟨inferInstance, ?_⟩)
      exact ⟨_, rfl⟩
    | true =>
      (refine jT rfl rfl rfl (jp rfl (jK rfl (eB rfl) (jJ (eB rfl) (jz (jjF ?_))))); refine jB rfl rfl ⟨inferInstance, ?_⟩)
      exact ⟨_, rfl⟩
end

theorem doubtL_len {t : Tx} {side W : Int} {D : Nat → Bool} (h : ∀ p : Nat × Nat, ((wsT t p.1).getD p.2 []).length ≤ 1000) : ∀ n, (doubtL t side W D n).length ≤ n * 1000
  | 0 => by simp [doubtL]
  | n + 1 => by
    rw [doubtL_succ, List.length_append]
    have := doubtL_len h (side := side) (W := W) (D := D) n
    have h2 : (if D n then lnS t side W ((prL t t.length).getD n (0, 0)) else []).length ≤ 1000 := by
      by_cases e : D n = true
      · rw [if_pos e, lnS, List.length_map, lnP, List.length_map, List.length_range]; exact h _
      · rw [if_neg e]; simp
    omega
noncomputable def lnQ (t : Tx) (side W : Int) (k j q : Nat) : List Slp := (List.range q).map fun (w : Nat) => slP t side W ((k : Int), (j : Int), (w : Int))
theorem lnQ_succ (t : Tx) (side W : Int) (k j q : Nat) : lnQ t side W k j (q + 1) = lnQ t side W k j q ++ [slP t side W ((k : Int), (j : Int), (q : Int))] := by simp [lnQ, List.range_succ]
theorem lnQ_len (t : Tx) (side W : Int) (k j q : Nat) : (lnQ t side W k j q).length = q := by simp [lnQ]
theorem lnQ_all (t : Tx) (side W : Int) (k j : Nat) : lnQ t side W k j ((wsT t k).getD j []).length = lnS t side W (k, j) := by
  simp only [lnS, lnP, List.map_map, lnQ]; rfl
section
variable (a : Option Addr) (c : Nat) (cs : List Ch) (ha : Option Addr) (hc : Nat) (hs : List Hp) (sa : Option Addr) (sc : Nat) (ss : List Shr) (xa : Option Addr) (xc : Nat) (xs : List Sht) (wd side : Int) (w : World)
  [hrow : RowI w (.slice a cs.length c) true 2 (cs.map encCh)] [hT : TextI w cs] [hhs : RowI w (.slice ha hs.length hc) true 3 (hs.map encHp)] [hss : RowI w (.slice sa ss.length sc) true 4 (ss.map encShr)] [hxs : RowI w (.slice xa xs.length xc) true 2 (xs.map encSht)] [hxi : ShtI w xs] [hgs : At w 1 0 sidesC]
set_option maxHeartbeats 16000000 in
theorem Doubt_hand (hsm : SmallT cs) (ht : textB (txF cs) = true) (hsd : 0 ≤ side ∧ side ≤ 255) (hcut : cutB wd side = true) (hp : RoundOk (lnK cs cs.length).length hs ss xs) :
    Ct Tryz.prog 9 [.agg #[.slice a cs.length c, .slice ha hs.length hc, .slice sa ss.length sc, .slice xa xs.length xc], encCut wd side] w fun v w' => ∃ (D : Nat → Bool) (va : Option Addr) (vc : Nat),
      v = .tuple #[.slice va (doubtL (txF cs) side wd D (lnK cs cs.length).length).length vc, .int .i64 0] ∧ RowV w' true 6 (.slice va (doubtL (txF cs) side wd D (lnK cs cs.length).length).length vc) ((doubtL (txF cs) side wd D (lnK cs cs.length).length).map encSl) ∧ (ss = [] → ∀ n, n < (lnK cs cs.length).length → D n = true) := by
  have hfew := hp.few
  have hx1 := hp.x1
  have hs8 := hp.s1
  have hask : askE (txF cs) wd side = 0 := askE_yes ht hcut
  have hlk := lnK_len (cs := cs) (Nat.le_refl _)
  obtain ⟨N, hN⟩ : ∃ N, (lnK cs cs.length).length = N := ⟨_, rfl⟩
  refine Ct.ofW (by simp) ?_
  (refine jjB (jjC ?_))
  (refine jy rfl ?_; intro b2 w_b2 hb_b2 hs_b2 hS_b2 hk_b2; have hA_b2 := At.ofBlock hk_b2)
  skip
  (refine jy rfl ?_; intro b3 w_b3 hb_b3 hs_b3 hS_b3 hk_b3; have hA_b3 := At.ofBlock hk_b3)
  have A2 : At w_b3 b2 0 [.slice a cs.length c, .slice ha hs.length hc, .slice sa ss.length sc, .slice xa xs.length xc] := (At.ofBlock hk_b2).ext hS_b3.ext
  have A3 : At w_b3 b3 0 [.int .i64 wd, .int .u8 side] := At.ofBlock hk_b3
  (refine jJ (eS rfl) (jJ (eI rfl) (jz (jjB (jjC (jO rfl rfl rfl rfl ?_))))))
  refine jjQ (open_hand a c cs ha hc hs sa sc ss xa xc xs _ hsm ht hp) rfl rfl ?_
  rintro _ w4 hS4 ⟨bd, rfl, hD⟩
  obtain ⟨la, lc, pa, pc, D1, D2, D3⟩ := hD.h
  (refine jI (eU rfl) (ju rfl rfl (ju rfl rfl ?_)))
  (apply jjR rfl; (intro _; first|exact eI rfl|exact eB rfl|exact eP rfl|exact eS rfl|exact eT rfl|exact eA rfl|exact eU rfl|exact eF rfl|exact eM rfl|exact eN rfl|exact rfl); exact rfl; exact rfl; exact rfl; exact rfl; intro b6 w_b6 hb_b6 hs_b6 hS_b6 hk_b6; have hA_b6 := Bk.of hk_b6)
  (refine jJ (eI rfl) (jz (jjB (jjB (jjC (jI (eI rfl) ?_))))); refine jjk rfl rfl (by omega) (jz (jjK rfl (jjG (jjB (jjB ?_))))); refine jjC (jO rfl rfl rfl rfl ?_))
  refine jjQ ((Check_slip wd side hsd _).mono fun v _ _ h => h.trans (by rw [hcut])) rfl rfl ?_
  rintro _ w5 hS5 rfl
  have i5 : RowI w5 (.slice la (lnK cs cs.length).length lc) false 1 ((lnK cs cs.length).map encLn) := ⟨D2.ext (hS_b6.ext.trans hS5.ext)⟩
  have d5 : At w5 bd 0 _ := D1.ext (hS_b6.ext.trans hS5.ext)
  (refine jJ (eI rfl) (jz (jjB (jjC (jI (eI rfl) (jc rfl rfl ?_))))); refine jz (jjK rfl (jjG (jjB (jjC (jN rfl rfl rfl ?_))))))
  refine jjQ (again_hand bd _ _ _ _ sa sc ss xa xc xs _ (hd := d5) hp) rfl rfl ?_
  rintro _ w6 hS6 ⟨l, ga, gc, rfl, hR6⟩
  skip
  (apply jjR rfl; (intro _; first|exact eI rfl|exact eB rfl|exact eP rfl|exact eS rfl|exact eT rfl|exact eA rfl|exact eU rfl|exact eF rfl|exact eM rfl|exact eN rfl|exact rfl); exact rfl; exact rfl; exact rfl; exact rfl; intro b9 w_b9 hb_b9 hs_b9 hS_b9 hk_b9; have hA_b9 := Bk.of hk_b9)
  have A6 : At w_b9 b6 0 [.pointer (some ⟨bd, 0, none⟩)] := (Bk.toAt (h := hA_b6)).ext (hS5.ext.trans (hS6.ext.trans hS_b9.ext))
  have A9 : At w_b9 b9 0 [.slice ga l.length gc] := Bk.toAt (h := hA_b9)
  have d9 := d5.ext (hS6.ext.trans hS_b9.ext)
  have X9 : RowI w_b9 (.slice xa xs.length xc) true 2 (xs.map encSht) := inferInstance
  have R9 := hR6.ext hS_b9.ext
  (refine jz (jjB (jjC (jN rfl rfl rfl (jv ?_)))))
  refine jjQ (uncovered_hand bd _ _ _ _ sa sc ss la lc (lnK cs cs.length) 30 [.pointer (some ⟨b6, 0, none⟩), .pointer (some ⟨b9, 0, none⟩)] _ (hd := d9) (fun V hV i hi => doubt1_hand bd _ _ _ _ _ xa xc xs ga gc l b6 b9 V (hd := d9.ext hV) (hxs := ⟨X9.h.ext hV⟩) (hl := ⟨R9.ext hV⟩) (h1 := A6.ext hV) (h2 := A9.ext hV) i (by omega)) hfew hs8 (fun i h => ⟨(hp.sp i h).1, (hp.sp i h).2.1, (hp.sp i h).2.2.1⟩)) rfl rfl ?_
  rintro _ w7 hS7 ⟨mb, m, rfl, hM, hSet, hAll⟩
  obtain ⟨D, hDm⟩ : ∃ D : Nat → Bool, ∀ n : Nat, (mget m (n : Int)).isSome = D n := ⟨fun n => (mget m (n : Int)).isSome, fun _ => rfl⟩
  have hget : ∀ n : Nat, (mget m (n : Int)).getD (.bool false) = .bool (D n) := fun n => by rw [LinM.get hSet, hDm]
  have hE7 : Ext w w7 := inferInstance
  have hwl : ∀ p : Nat × Nat, ((wsT (txF cs) p.1).getD p.2 []).length ≤ 1000 := fun p => by
    by_cases h1 : p.1 < cs.length
    · have e : wsT (txF cs) p.1 = cs[p.1].2.2.2.map (·.2.2) := by rw [wsT_get h1]
      rw [e]
      by_cases h2 : p.2 < cs[p.1].2.2.2.length
      · rw [List.getD_eq_getElem?_getD, List.getElem?_map, List.getElem?_eq_getElem h2]
        exact ((hsm.2 _ (List.getElem_mem h1)).2 _ (List.getElem_mem h2)).1
      · rw [List.getD_eq_getElem?_getD, List.getElem?_map, List.getElem?_eq_none (by omega)]; simp
    · have e : wsT (txF cs) p.1 = [] := by
        rw [wsT, List.getD_eq_getElem?_getD, List.getElem?_eq_none (by rw [txF_len]; omega)]; rfl
      rw [e]; simp
  have hal : (atK cs cs.length).length = (lnK cs cs.length).length := by rw [atK, List.length_map, hlk]
  have e67 := (hS6.ext.trans hS_b9.ext).trans hS7.ext
  have d7 := d5.ext e67
  have L7 : RowI w7 (.slice la (lnK cs cs.length).length lc) false 1 ((lnK cs cs.length).map encLn) := ⟨i5.h.ext e67⟩
  have P7 : RowI w7 (.slice pa (lnK cs cs.length).length pc) true 3 ((atK cs cs.length).map encPl) := ⟨D3.ext ((hS_b6.ext.trans hS5.ext).trans e67)⟩
  have A67 := A6.ext hS7.ext
  (refine jJ (eM rfl) (jz (jjB (jjC (jJ (eS rfl) (jz ?_))))); refine jjB (jjB (jjC (jN rfl rfl rfl (jw rfl (jm ?_))))); refine jn rfl (jN rfl rfl rfl (jh rfl (jI (eI rfl) (jz (jjD ?_))))))
  refine W.keep0 [(2, .pointer (some ⟨b2, 0, none⟩)), (3, .pointer (some ⟨b3, 0, none⟩)), (6, .pointer (some ⟨b6, 0, none⟩)), (10, .map (some mb)), (11, .slice none 0 0), (38, .slice pa (lnK cs cs.length).length pc), (39, .int .i64 ((lnK cs cs.length).length : Int)), (40, .int .i64 ((0 : Nat) : Int))] ⟨eP rfl, eP rfl, eP rfl, eM rfl, eS rfl, eS rfl, eI rfl, eI rfl, trivial⟩ fun s0 => ?_
  refine W.loopG (41 :: 42 :: 43 :: 44 :: 13 :: 12 :: 45 :: 46 :: 47 :: 48 :: 49 :: 50 :: 51 :: 52 :: 53 :: 54 :: 55 :: 56 :: 57 :: 58 :: 59 :: 14 :: 60 :: 61 :: 63 :: 64 :: 65 :: 66 :: 67 :: 62 :: 68 :: 69 :: 15 :: 16 :: 70 :: 71 :: 72 :: 73 :: 11 :: 74 :: 75 :: 40 :: []) (fun g s' V => ∃ (n : Nat) (lv : Value), s' 40 = .int .i64 (n : Int) ∧ s' 11 = lv ∧ g = (lnK cs cs.length).length - n ∧ n ≤ (lnK cs cs.length).length ∧ Ext w7 V ∧ OwnL V w7.heap.size 46 true 6 lv ((doubtL (txF cs) side wd D n).map encSl)) (lnK cs cs.length).length ⟨0, .slice none 0 0, rfl, rfl, rfl, Nat.zero_le _, .refl _, OwnL.nil _ _ _ _ _⟩ ?_
  rintro _ sd V ⟨n, lv, h40, h11, rfl, hn, hEV, hO⟩
  obtain ⟨va, vc, rfl⟩ := hO.slice
  rw [List.length_map] at hO h11
  refine W.fix h40 (W.fix (d := 11) h11 ?_)
  clear h40 h11
  have hEV' := hEV.toStep
  have zV := hEV.size
  by_cases hn1 : n < (lnK cs cs.length).length
  rotate_left
  · obtain rfl : n = (lnK cs cs.length).length := by omega
    (refine jjB (jjC (jja rfl rfl (by omega) (jz (jjB (jjK rfl ?_))))); refine jjE (jjB (jjC (jI (eS rfl) (jJ (eS rfl) (jJ (eI rfl) ?_))))); refine jz (jjF ?_); refine jC rfl rfl rfl ⟨inferInstance, ?_⟩)
    exact ⟨D, va, vc, rfl, hO.row, fun e n hn => by rw [← hDm]; exact hAll e n hn⟩
  obtain ⟨k, j, hpr, hk, hj, hwd, hat⟩ := line_at hn1
  have hdl := doubtL_len (side := side) (W := wd) (D := D) hwl n
  have hat' : (atK cs cs.length)[n]'(by omega) = ((k : Int), (j : Int), 0) := by
    rw [List.getElem?_eq_getElem (by omega)] at hat
    exact Option.some.inj hat
  have hpd : (prL (txF cs) (txF cs).length).getD n (0, 0) = (k, j) := by rw [List.getD_eq_getElem?_getD, hpr]; rfl
  have hsc := doubtL_succ (txF cs) side wd D n
  rw [hpd] at hsc
  obtain ⟨B, hB⟩ : ∃ B, D n = B := ⟨_, rfl⟩
  rw [hB] at hsc
  have hwn := hwl (k, j)
  simp only at hwn
  (refine jjB (jjC (jjZ rfl rfl (by omega) (jz (jjB (jjJ rfl ?_))))); refine jjG (jjB (jjD (jjB (jjC (jI (eI rfl) ?_))))); refine jF rfl rfl rfl (map_get (by omega)) ?_; intro _ _ _; refine jQ rfl rfl ?_)
  ((skip); refine jjY ?_; intro b13 w_b13 hb_b13 hs_b13 hS_b13 hk_b13; have hA_b13 := Bk.of hk_b13)
  (apply jJ; exact eI rfl)
  refine Ops.store rfl rfl rfl rfl rfl ?_
  intro V1 hp1
  have z13 := hS_b13.size
  have hE1 : Ext V V1 := hp1.ext hS_b13.ext (by omega)
  have hE1w : Ext w7 V1 := hEV.trans hE1
  have hE1' := hE1w.toStep
  have B13 : Bk V1 b13 [.int .i64 (k : Int), .int .i64 (j : Int), .int .i64 0] 44 := by
    have h : Bk V1 b13 [.int .i64 ((atK cs cs.length)[n]'(by omega)).1, .int .i64 ((atK cs cs.length)[n]'(by omega)).2.1, .int .i64 ((atK cs cs.length)[n]'(by omega)).2.2] 44 := ⟨hp1.new⟩
    rw [hat'] at h
    exact h
  have hO1 := hO.ext hE1
  have hne1 : (Value.slice va (doubtL (txF cs) side wd D n).length vc).ownBlock ≠ some b13 := fun e => by have := (hO.block b13 e).2; omega
  (refine jz (jjB (jjB (jjC (jI (eM rfl) (jI (eI rfl) ?_))))))
  refine Ops.lookupV (k := (n : Int)) (v := .bool B) (by rw [hget, hB]) (hM.ext hE1w) rfl rfl ?_
  cases B with
  | false =>
    rw [if_neg (by decide), List.append_nil] at hsc
    (refine jq rfl (jz (jjJ rfl (jjE (jjC (jY rfl rfl (by omega) ?_))))); refine jI (eI rfl) (jz ?_))
    exact ⟨rfl, by (((iterate 14 refine Same.upd rfl ?_); exact Same.ovN)), (lnK cs cs.length).length - (n + 1), by omega, n + 1, _, congrArg (Value.int .i64) (by omega), rfl, rfl, by omega, hE1w, by rw [hsc]; exact hO1⟩
  | true =>
  rw [if_pos rfl] at hsc
  have hwd2 : (lnK cs cs.length)[n].2.2.length = ((wsT (txF cs) k).getD j []).length := by rw [hwd]
  (refine jp rfl (jz (jjK rfl (jjG (jjB (jjC ?_))))); refine jN rfl rfl rfl (jw rfl (jm (jn rfl (jN rfl rfl rfl (jI (eI rfl) ?_))))); refine jF rfl rfl rfl (map_get (by omega)) ?_; intro _ _ _; refine jQ rfl rfl (jh rfl (jI (eI rfl) (jz (jjD ?_)))))
  refine W.keep [(2, .pointer (some ⟨b2, 0, none⟩)), (3, .pointer (some ⟨b3, 0, none⟩)), (6, .pointer (some ⟨b6, 0, none⟩)), (10, .map (some mb)), (11, .slice va (doubtL (txF cs) side wd D n).length vc), (12, .int .i64 (n : Int)), (13, .pointer (some ⟨b13, 0, none⟩)), (38, .slice pa (lnK cs cs.length).length pc), (39, .int .i64 ((lnK cs cs.length).length : Int)), (40, .int .i64 (n : Int)), (56, .int .i64 ((lnK cs cs.length)[n].2.2.length : Int)), (57, .int .i64 ((0 : Nat) : Int))] (D := (41 :: 42 :: 43 :: 44 :: 13 :: 12 :: 45 :: 46 :: 47 :: 48 :: 49 :: 50 :: 51 :: 52 :: 53 :: 54 :: 55 :: 56 :: 57 :: 58 :: 59 :: 14 :: 60 :: 61 :: 63 :: 64 :: 65 :: 66 :: 67 :: 62 :: 68 :: 69 :: 15 :: 16 :: 70 :: 71 :: 72 :: 73 :: 11 :: 74 :: 75 :: 40 :: [])) (sO := upds s0 _) (by (((iterate 21 refine Same.upd rfl ?_); exact Same.ovN))) ⟨eP rfl, eP rfl, eP rfl, eM rfl, eS rfl, eI rfl, eP rfl, eS rfl, eI rfl, eI rfl, eI rfl, eI rfl, trivial⟩ fun s1 hs1' => ?_
  refine W.loopG (58 :: 59 :: 14 :: 60 :: 61 :: 63 :: 64 :: 65 :: 66 :: 67 :: 62 :: 68 :: 69 :: 15 :: 16 :: 70 :: 71 :: 72 :: 73 :: 11 :: 74 :: 57 :: []) (fun g s' V => ∃ (q : Nat) (lv : Value), s' 57 = .int .i64 (q : Int) ∧ s' 11 = lv ∧ g = (lnK cs cs.length)[n].2.2.length - q ∧ q ≤ (lnK cs cs.length)[n].2.2.length ∧ Ext w7 V ∧ (∃ x : Int, Bk V b13 [.int .i64 (k : Int), .int .i64 (j : Int), .int .i64 x] 44) ∧ lv.ownBlock ≠ some b13 ∧ OwnL V w7.heap.size 46 true 6 lv ((doubtL (txF cs) side wd D n ++ lnQ (txF cs) side wd k j q).map encSl)) (lnK cs cs.length)[n].2.2.length ⟨0, .slice va (doubtL (txF cs) side wd D n).length vc, rfl, rfl, rfl, Nat.zero_le _, hE1w, ⟨0, B13⟩, hne1, by simpa [lnQ] using hO1⟩ ?_
  clear hO hO1 hne1 B13 hp1
  rintro _ sd2 V2 ⟨q, lv, h57, h11, rfl, hq, hE2, ⟨x, B13⟩, hne, hO⟩
  obtain ⟨va2, vc2, rfl⟩ := hO.slice
  rw [List.length_map] at hO h11 hne
  refine W.fix h57 (W.fix (d := 11) h11 ?_)
  clear h57 h11
  have hE2' := hE2.toStep
  have z2 := hE2.size
  have zb13 : w7.heap.size ≤ b13 := by omega
  have hll : (doubtL (txF cs) side wd D n ++ lnQ (txF cs) side wd k j q).length = (doubtL (txF cs) side wd D n).length + q := by rw [List.length_append, lnQ_len]
  by_cases hq1 : q < (lnK cs cs.length)[n].2.2.length
  rotate_left
  · obtain rfl : q = (lnK cs cs.length)[n].2.2.length := by omega
    rw [hwd2, lnQ_all, ← hsc] at hO
    (refine jjB (jjC (jja rfl rfl (by omega) (jz (jjB (jjK rfl ?_))))); refine jjE (jjC (jY rfl rfl (by omega) (jI (eI rfl) (jz ?_)))))
    refine ⟨rfl, by (((iterate 5 refine Same.upd rfl ?_); refine Same.ovN' rfl ?_; assumption)), (lnK cs cs.length).length - (n + 1), by omega, n + 1, _, congrArg (Value.int .i64) (by omega), rfl, rfl, by omega, hE2, ?_⟩
    rw [hwd2, lnQ_all, ← hsc]
    exact hO
  have hq2 : q < ((wsT (txF cs) k).getD j []).length := by omega
  have hmk := make_slP (side := side) (W := wd) hk hj hq2
  (refine jjB (jjC (jjZ rfl rfl (by omega) (jz (jjB (jjJ rfl ?_))))); refine jjG (jjB (jjD (jjB (jjC (jI (eI rfl) ?_))))); refine jJ (eI rfl) (jz (jjB (jjC (jI (eI rfl) (jm ?_))))); refine jn rfl ?_)
  refine Ops.store rfl rfl rfl rfl rfl ?_
  intro V3 hp3
  have hE3 : Ext w7 V3 := hp3.ext hE2 zb13
  have hE3' := hE3.toStep
  have hE3w := (hE7.trans hE3).toStep
  have B3 : Bk V3 b13 [.int .i64 (k : Int), .int .i64 (j : Int), .int .i64 (q : Int)] 44 := ⟨hp3.new⟩
  have A13 : At V3 b13 0 [.int .i64 (k : Int), .int .i64 (j : Int), .int .i64 (q : Int)] := Bk.toAt (h := B3)
  have hO3 := hO.put hp3 hne
  (refine jz (jjB (jjC (jm (jn rfl (jO rfl rfl rfl rfl ?_))))); refine jO rfl rfl rfl rfl (jO rfl rfl rfl rfl ?_))
  refine jjQ ((Make_slip a c cs wd side V3 ((k : Int), (j : Int), (q : Int)) hsm hsd).mono fun v _ _ h => h.trans (by rw [makeR_some hask hmk])) rfl rfl ?_
  rintro _ V4 hS4' rfl
  obtain ⟨S, hS⟩ : ∃ S, slP (txF cs) side wd ((k : Int), (j : Int), (q : Int)) = S := ⟨_, rfl⟩
  rw [hS]
  (refine jI (eU rfl) (ju rfl rfl (ju rfl rfl ?_)))
  (apply jjR rfl; (intro _; first|exact eI rfl|exact eB rfl|exact eP rfl|exact eS rfl|exact eT rfl|exact eA rfl|exact eU rfl|exact eF rfl|exact eM rfl|exact eN rfl|exact rfl); exact rfl; exact rfl; exact rfl; exact rfl; intro b15 w_b15 hb_b15 hs_b15 hS_b15 hk_b15; have hA_b15 := Bk.of hk_b15)
  (refine jJ (eI rfl) (jz (jjC (jI (eS rfl) (jO rfl rfl rfl rfl ?_)))))
  (refine jjP (v := .agg _) rfl (by exact rfl) (by exact rfl) (by exact rfl) (by exact rfl) ?_; intro b72 w_b72 hb_b72 hs_b72 hS_b72 hk_b72; have hR_b72 := RowV.one (agg := true) (k := 6) rfl hk_b72)
  have e72 : Ext V3 w_b72 := hS4'.ext.trans (hS_b15.ext.trans hS_b72.ext)
  have z72 := e72.size
  have z3 := hE3.size
  have R72 : RowV w_b72 true 6 (.slice (some ⟨b72, 0, none⟩) 1 1) [encSl S] := hR_b72
  refine Ops.appendL (hO3.ext e72) (by omega) R72 rfl rfl rfl rfl rfl ?_ ?_ ?_
  · rw [List.length_map, hll]; simp only [List.length_cons, List.length_nil]; omega
  · rw [List.length_map, hll]; simp only [List.length_cons, List.length_nil]; omega
  intro v6 w11 hA11 hO11 _ hown
  have e11 : (doubtL (txF cs) side wd D n ++ lnQ (txF cs) side wd k j q).map encSl ++ [encSl S] = (doubtL (txF cs) side wd D n ++ lnQ (txF cs) side wd k j (q + 1)).map encSl := by
    rw [lnQ_succ, hS]; simp
  rw [e11] at hO11
  have zb : b13 < w_b72.heap.size := by have := (Bk.lt (h := B3)); omega
  have B11 := hA11.bk (B3.ext e72) hne
  have hv6 : v6.ownBlock ≠ some b13 := fun e => by
    rcases hown with h | h
    · rw [h] at e; exact hne e
    · rw [h] at e; simp only [Option.some.injEq] at e; omega
  (refine jJ rfl (jz (jjC (jY rfl rfl (by omega) (jI (eI rfl) (jz ?_))))))
  exact ⟨rfl, by (((iterate 24 refine Same.upd rfl ?_); exact Same.ovN)), (lnK cs cs.length)[n].2.2.length - (q + 1), by omega, q + 1, v6, congrArg (Value.int .i64) (by omega), rfl, rfl, by omega, hA11.ext (hE3.trans e72) (Nat.le_refl _), ⟨_, B11⟩, hv6, hO11⟩
end


def deckB (d : List Int) : Bool := decide (d.length ≤ 60) && d.all (inB 0 999)
theorem all_one (p : Int → Bool) (n : Int) : [n].all p = p n := by simp

section
variable (a : Option Addr) (c : Nat) (d : List Int) (w : World)
theorem Check_rack (hl : d.length ≤ 1000000) [hrow : RowI w (.slice a d.length c) false 1 (d.map intV)] :
    Ct Tryz.prog 43 [.slice a d.length c] w fun v _ => v = .int .i64 (if deckB d then 0 else 60) := by
  refine Ct.ofW (by simp) ?_
  rcases Nat.lt_or_ge 60 d.length with hc | hc
  · have : deckB d = false := by simp [deckB]; omega
    (refine jjB (jjC (jJ (eI rfl) (jz (jjH (jjB ?_))))); refine jjB (jjC (jI (eS rfl) (jh rfl (jjd rfl rfl (by omega) (jz ?_))))); refine jjJ rfl (jjB (jjC (jJ (eI rfl) (jz (jjF ?_))))); refine jB rfl rfl ⟨inferInstance, ?_⟩)
    rw [this]; exact rfl
  · (refine jjB (jjC (jJ (eI rfl) (jz (jjH (jjB ?_))))); refine jjB (jjC (jI (eS rfl) (jh rfl (jje rfl rfl (by omega) (jz ?_))))); refine jjK rfl (jjG (jjB (jjI (jjB (jjB ?_))))); refine jjC (jI (eS rfl) (jh rfl (jI (eI rfl) (jz (jjD ?_))))))
    refine W.loop (11 :: 12 :: 13 :: 4 :: 14 :: 15 :: 16 :: 2 :: 17 :: 10 :: []) (fun g s' _ => ∃ k : Nat, s' 10 = .int .i64 ((k : Nat) : Int) ∧ g = d.length - k ∧ k ≤ d.length ∧ ∀ (j : Nat) (hj : j < d.length), j < k → inB 0 999 d[j] = true) d.length ⟨0, rfl, rfl, Nat.zero_le _, by intros; omega⟩ ?_
    rintro _ sd w1 hS1 ⟨k, h10, rfl, hk, hpre⟩
    refine W.fix h10 ?_
    clear h10
    repeat' (first|((first|apply jI|apply jJ); exact eI rfl)|(refine jM (jQ rfl rfl ?_))|(refine jW (jX rfl rfl ?_))|(refine jE ?_; (refine jF rfl rfl rfl (map_get (by omega)) ?_; intro _ _ _))|refine jz ?_|(refine jjA ?_; (first|refine jjB ?_|refine jjC ?_|refine jjD ?_|refine jjE ?_|refine jjF ?_|refine jjG ?_))|(refine jjA ?_; (refine jjN rfl ?_ ?_ <;> intro _))|refine jB rfl rfl ⟨inferInstance, ?_⟩)
    · have hk' : k < d.length := by omega
      (refine jjP (v := .int _ _) rfl (by exact rfl) (by exact rfl) (by exact rfl) (by exact rfl) ?_; intro b2 w_b2 hb_b2 hs_b2 hS_b2 hk_b2; have hR_b2 := RowV.one (agg := false) (k := 1) rfl hk_b2)
      ((skip); refine jjQ (in_rack 0 999 _ [d[k]] _ hR_b2) rfl rfl ?_)
      rintro _ w3 hS3 rfl
      rw [all_one]
      repeat' (first|((first|apply jI|apply jJ); exact eI rfl)|(refine jW (jY rfl rfl (by omega) ?_))|refine jz ?_|(refine jjA ?_; (first|refine jjB ?_|refine jjC ?_|refine jjE ?_|refine jjF ?_|refine jjG ?_))|(refine jjA ?_; (refine jjN rfl ?_ ?_ <;> intro _))|refine jB rfl rfl ⟨inferInstance, ?_⟩)
      · refine ⟨rfl, by (((iterate 10 refine Same.upd rfl ?_); exact Same.ovN)), d.length - (k + 1), by omega, inferInstance, k + 1, rfl, rfl, by omega, fun i hi hik => ?_⟩
        by_cases e : i = k
        · subst e; exact decide_eq_true ‹_›
        · exact hpre i hi (by omega)
      · have : deckB d = false := by
          have h1 : d.all (inB 0 999) = false := by rw [List.all_eq_false]; exact ⟨d[k], List.getElem_mem hk', by rw [show inB 0 999 d[k] = false from decide_eq_false ‹_›]; simp⟩
          simp [deckB, h1]
        rw [this]; exact rfl
    · have : deckB d = true := by
        have h1 : d.all (inB 0 999) = true := by
          rw [List.all_eq_true]
          intro x hx
          obtain ⟨i, hi, rfl⟩ := List.mem_iff_getElem.1 hx
          exact hpre i hi (by omega)
        simp [deckB, h1, hc]
      rw [this]; exact rfl
end

def upN (n : Nat) : List Int := (List.range n).map fun (i : Nat) => (i : Int)
theorem upN_len (n : Nat) : (upN n).length = n := by simp [upN]
theorem upN_succ (n : Nat) : upN (n + 1) = upN n ++ [(n : Int)] := by simp [upN, List.range_succ]
theorem upN_mem {n : Nat} {x : Int} : x ∈ upN n ↔ 0 ≤ x ∧ x < n := by
  simp only [upN, List.mem_map, List.mem_range]
  constructor
  · rintro ⟨i, hi, rfl⟩; omega
  · intro h; exact ⟨x.toNat, by omega, by omega⟩
theorem deckB_len {d : List Int} (h : deckB d = true) : d.length ≤ 60 := by simp [deckB] at h; exact h.1
end Go.Proofs.YtgnkloloehlfnaaGreatDoor

namespace Go.Proofs.YtgnkloloehlfnaaGreatDoor

def Filt (k : Int → Int) (l r : List Int) : Prop := ∀ c, l.filter (fun x => decide (k x = c)) = r.filter (fun x => decide (k x = c))
def Srt (k : Int → Int) (l : List Int) : Prop := l.Pairwise (fun a b => k a ≤ k b)
theorem Filt.refl (k : Int → Int) (l : List Int) : Filt k l l := fun _ => rfl
theorem Filt.symm {k : Int → Int} {l r : List Int} (h : Filt k l r) : Filt k r l := fun c => (h c).symm
theorem Filt.trans {k : Int → Int} {a b c : List Int} (h : Filt k a b) (g : Filt k b c) : Filt k a c := fun x => (h x).trans (g x)
theorem Filt.app {k : Int → Int} {a b c d : List Int} (h : Filt k a b) (g : Filt k c d) : Filt k (a ++ c) (b ++ d) := fun x => by simp [List.filter_append, h x, g x]
theorem Filt.cons {k : Int → Int} {a b : List Int} (x : Int) (h : Filt k a b) : Filt k (x :: a) (x :: b) := Filt.app (Filt.refl k [x]) h
theorem Filt.mem {k : Int → Int} {a b : List Int} (h : Filt k a b) {x : Int} (hx : x ∈ a) : x ∈ b := by
  have : x ∈ a.filter (fun y => decide (k y = k x)) := by simp [hx]
  rw [h] at this
  exact (List.mem_filter.1 this).1
theorem Filt.mem_iff {k : Int → Int} {a b : List Int} (h : Filt k a b) {x : Int} : x ∈ a ↔ x ∈ b := ⟨h.mem, h.symm.mem⟩
theorem Filt.nil {k : Int → Int} {b : List Int} (h : Filt k [] b) : b = [] := by
  cases b with
  | nil => rfl
  | cons x b => exact absurd (h.symm.mem List.mem_cons_self) (by simp)
theorem Filt.swap {k : Int → Int} {a b : List Int} (h : ∀ x ∈ a, ∀ y ∈ b, k x ≠ k y) : Filt k (a ++ b) (b ++ a) := by
  intro c
  rw [List.filter_append, List.filter_append]
  by_cases hc : ∃ x ∈ a, k x = c
  · obtain ⟨x, hx, rfl⟩ := hc
    have : b.filter (fun y => decide (k y = k x)) = [] := by
      rw [List.filter_eq_nil_iff]
      intro y hy
      simpa using fun e => h x hx y hy e.symm
    rw [this]; simp
  · have : a.filter (fun y => decide (k y = c)) = [] := by
      rw [List.filter_eq_nil_iff]
      intro y hy
      simpa using fun e => hc ⟨y, hy, e⟩
    rw [this]; simp
theorem Srt.uniq {k : Int → Int} : ∀ {a b : List Int}, Srt k a → Srt k b → Filt k a b → a = b
  | [], b, _, _, h => h.nil.symm
  | x :: a, [], _, _, h => absurd (h.symm.nil) (by simp)
  | x :: a, y :: b, ha, hb, h => by
    have h1 : k y ≤ k x := by
      have := h.mem (List.mem_cons_self (a := x) (l := a))
      rcases List.mem_cons.1 this with e | e
      · rw [e]; exact Int.le_refl _
      · exact (List.pairwise_cons.1 hb).1 x e
    have h2 : k x ≤ k y := by
      have := h.symm.mem (List.mem_cons_self (a := y) (l := b))
      rcases List.mem_cons.1 this with e | e
      · rw [e]; exact Int.le_refl _
      · exact (List.pairwise_cons.1 ha).1 y e
    have hk : k y = k x := by omega
    have hx := h (k x)
    simp [hk] at hx
    obtain ⟨rfl, hx⟩ := hx
    have : Filt k a b := fun c => by
      have := h c
      by_cases e : k x = c
      · simpa [e] using this
      · simpa [e] using this
    rw [Srt.uniq (List.pairwise_cons.1 ha).2 (List.pairwise_cons.1 hb).2 this]

def insF (k : Int → Int) (x : Int) : List Int → List Int
  | [] => [x]
  | y :: l => if k x ≤ k y then x :: y :: l else y :: insF k x l
def ssort (k : Int → Int) : List Int → List Int
  | [] => []
  | x :: l => insF k x (ssort k l)
theorem insF_filt (k : Int → Int) (x : Int) : ∀ l, Filt k (x :: l) (insF k x l)
  | [] => Filt.refl _ _
  | y :: l => by
    unfold insF
    split
    · exact Filt.refl _ _
    · have h1 : Filt k (x :: y :: l) (y :: x :: l) := Filt.app (a := [x] ++ [y]) (b := [y] ++ [x]) (Filt.swap (by intro a ha b hb; simp at ha hb; subst ha; subst hb; omega)) (Filt.refl _ l)
      exact h1.trans ((insF_filt k x l).cons y)
theorem insF_srt {k : Int → Int} {x : Int} : ∀ {l}, Srt k l → Srt k (insF k x l)
  | [], _ => by simp [insF, Srt]
  | y :: l, h => by
    obtain ⟨h1, h2⟩ := List.pairwise_cons.1 h
    unfold insF
    split
    · rename_i hxy
      refine List.pairwise_cons.2 ⟨fun z hz => ?_, h⟩
      rcases List.mem_cons.1 hz with rfl | hz
      · exact hxy
      · have := h1 z hz; omega
    · rename_i hxy
      refine List.pairwise_cons.2 ⟨fun z hz => ?_, insF_srt h2⟩
      rcases List.mem_cons.1 ((insF_filt k x l).symm.mem hz) with rfl | hz
      · omega
      · exact h1 z hz
theorem ssort_filt (k : Int → Int) : ∀ l, Filt k l (ssort k l)
  | [] => Filt.refl _ _
  | x :: l => ((ssort_filt k l).cons x).trans (insF_filt k x _)
theorem ssort_srt (k : Int → Int) : ∀ l, Srt k (ssort k l)
  | [] => List.Pairwise.nil
  | _ :: l => insF_srt (ssort_srt k l)
theorem ssort_eq {k : Int → Int} {l r : List Int} (hs : Srt k r) (hf : Filt k l r) : r = ssort k l := Srt.uniq hs (ssort_srt k l) (hf.symm.trans (ssort_filt k l))
theorem ssort_of_srt {k : Int → Int} {l : List Int} (hs : Srt k l) : ssort k l = l := (ssort_eq hs (Filt.refl _ _)).symm
theorem ssort_mem {k : Int → Int} {l : List Int} {x : Int} : x ∈ ssort k l ↔ x ∈ l := (ssort_filt k l).mem_iff.symm
theorem ssort_len (k : Int → Int) (l : List Int) : (ssort k l).length = l.length := by
  induction l with
  | nil => rfl
  | cons x l ih =>
    have : ∀ m, (insF k x m).length = m.length + 1 := by
      intro m
      induction m with
      | nil => rfl
      | cons y m ih2 => unfold insF; split <;> simp_all
    rw [ssort, this, ih]; rfl
theorem ssort_app_l (k : Int → Int) (a b : List Int) : ssort k (ssort k a ++ b) = ssort k (a ++ b) := ssort_eq (ssort_srt _ _) (((ssort_filt k a).app (Filt.refl k b)).trans (ssort_filt k _))
theorem ssort_sym {k : Int → Int} {U1 U2 V1 V2 : List Int} (hU : Srt k (U1 ++ U2)) (hV : Srt k (V1 ++ V2)) (h1 : ∀ u ∈ U2, ∀ v ∈ V1, k v < k u) (h2 : ∀ u ∈ U1, ∀ v ∈ V2, k u ≤ k v) :
    ssort k (U1 ++ U2 ++ (V1 ++ V2)) = ssort k (U1 ++ V1) ++ ssort k (U2 ++ V2) := by
  refine (ssort_eq ?_ ?_).symm
  · refine List.pairwise_append.2 ⟨ssort_srt _ _, ssort_srt _ _, fun a ha b hb => ?_⟩
    rw [ssort_mem] at ha hb
    rcases List.mem_append.1 ha with ha | ha <;> rcases List.mem_append.1 hb with hb | hb
    · exact (List.pairwise_append.1 hU).2.2 a ha b hb
    · exact h2 a ha b hb
    · exact Int.le_of_lt (h1 b hb a ha)
    · exact (List.pairwise_append.1 hV).2.2 a ha b hb
  · have e : Filt k (U1 ++ (U2 ++ V1) ++ V2) (U1 ++ (V1 ++ U2) ++ V2) := ((Filt.refl k U1).app (Filt.swap fun x hx y hy e => by have := h1 x hx y hy; omega)).app (Filt.refl k V2)
    have e2 : U1 ++ U2 ++ (V1 ++ V2) = U1 ++ (U2 ++ V1) ++ V2 := by simp
    have e3 : U1 ++ (V1 ++ U2) ++ V2 = (U1 ++ V1) ++ (U2 ++ V2) := by simp
    rw [e2]
    refine e.trans ?_
    rw [e3]
    exact (ssort_filt k _).app (ssort_filt k _)
theorem ssort_snoc {k : Int → Int} {a b : List Int} {x : Int} (h : Srt k (a ++ b)) (h1 : ∀ y ∈ b, k x < k y) (h2 : ∀ y ∈ a, k y ≤ k x) : ssort k (a ++ b ++ [x]) = a ++ [x] ++ b := by
  have := ssort_sym (k := k) (U1 := a) (U2 := b) (V1 := [x]) (V2 := []) h (by simp [Srt]) (by intro u hu v hv; simp at hv; subst hv; exact h1 u hu) (by simp)
  rw [List.append_nil] at this
  rw [this]
  obtain ⟨ha, hb, _⟩ := List.pairwise_append.1 h
  rw [List.append_nil, ssort_of_srt hb, ssort_of_srt]
  exact List.pairwise_append.2 ⟨ha, by simp, by intro y hy z hz; simp at hz; subst hz; exact h2 y hy⟩
theorem ssort_front {k : Int → Int} {a b : List Int} {x : Int} (h : Srt k (a ++ b)) (h1 : ∀ y ∈ a, k y < k x) (h2 : ∀ y ∈ b, k x ≤ k y) : ssort k ([x] ++ (a ++ b)) = a ++ [x] ++ b := by
  have := ssort_sym (k := k) (U1 := []) (U2 := [x]) (V1 := a) (V2 := b) (by simp [Srt]) h (by intro u hu v hv; simp at hu; subst hu; exact h1 v hv) (by simp)
  simp only [List.nil_append] at this
  rw [this]
  obtain ⟨ha, hb, _⟩ := List.pairwise_append.1 h
  rw [ssort_of_srt ha, ssort_of_srt, List.append_assoc]
  exact List.pairwise_cons.2 ⟨fun y hy => h2 y hy, hb⟩
end Go.Proofs.YtgnkloloehlfnaaGreatDoor
namespace Go.Proofs.YtgnkloloehlfnaaGreatDoor
open Go.RowKit

def swpL (X A Y B Z : List Int) (i : Nat) : List Int := X ++ B.take i ++ A.drop i ++ Y ++ A.take i ++ B.drop i ++ Z
theorem swpL_step {X A Y B Z : List Int} {i : Nat} (hi : i < A.length) (he : A.length = B.length) :
    ∃ x y, (swpL X A Y B Z i)[X.length + i]? = some x ∧ (swpL X A Y B Z i)[X.length + A.length + Y.length + i]? = some y ∧ ((swpL X A Y B Z i).set (X.length + i) y).set (X.length + A.length + Y.length + i) x = swpL X A Y B Z (i + 1) := by
  have hiB : i < B.length := by omega
  have e : swpL X A Y B Z i = (X ++ B.take i) ++ A[i] :: (A.drop (i + 1) ++ Y ++ A.take i ++ B.drop i ++ Z) := by
    rw [swpL, List.drop_eq_getElem_cons hi]; simp only [List.append_assoc, List.cons_append]
  have e2 : ∀ q : Int, (X ++ B.take i) ++ q :: (A.drop (i + 1) ++ Y ++ A.take i ++ B.drop i ++ Z) = (X ++ B.take i ++ q :: A.drop (i + 1) ++ Y ++ A.take i) ++ B[i] :: (B.drop (i + 1) ++ Z) := by
    intro q; rw [List.drop_eq_getElem_cons hiB]; simp only [List.append_assoc, List.cons_append]
  have l1 : X.length + i = (X ++ B.take i).length := by simp; omega
  have l2 : ∀ q : Int, X.length + A.length + Y.length + i = (X ++ B.take i ++ q :: A.drop (i + 1) ++ Y ++ A.take i).length := by intro q; simp; omega
  refine ⟨A[i], B[i], ?_, ?_, ?_⟩
  · rw [e]; exact get_mid l1
  · rw [e, e2]; exact get_mid (l2 _)
  · rw [e, set_mid l1, e2, set_mid (l2 _), swpL, List.take_succ_eq_append_getElem hi, List.take_succ_eq_append_getElem hiB]; simp only [List.append_assoc, List.cons_append, List.nil_append]
theorem swpL_zero (X A Y B Z : List Int) : swpL X A Y B Z 0 = X ++ A ++ Y ++ B ++ Z := by simp [swpL]
theorem swpL_end {X A Y B Z : List Int} (he : A.length = B.length) : swpL X A Y B Z A.length = X ++ B ++ Y ++ A ++ Z := by rw [swpL, List.drop_length, List.take_length, he, List.take_length, List.drop_length]; simp

section
variable (b n c : Nat) (fv : Value)
set_option maxHeartbeats 1000000 in
theorem swapRange_int (X A Y B Z : List Int) (w : World) (he : A.length = B.length) (hl : n ≤ 1000000) (hD : SD 3 w b n c (X ++ A ++ Y ++ B ++ Z)) (i1 i2 i3 : Int) (h1 : i1 = X.length) (h2 : i2 = X.length + A.length + Y.length) (h3 : i3 = A.length) :
    Calls Tryz.prog 159 [.slice (some ⟨b, 0, none⟩) n c, .int .i64 i1, .int .i64 i2, .int .i64 i3, fv].toArray w fun e w' => (∃ v, e = .returned v) ∧ Only b w w' ∧ SD 3 w' b n c (X ++ B ++ Y ++ A ++ Z) := by
  subst h1 h2 h3
  have hn : n = X.length + A.length + Y.length + B.length + Z.length := by have := hD.1; simp at this; omega
  refine Calls.ofW (by simp) ?_
  (refine jjB (jjC (jJ (eI rfl) (jz (jjD ?_)))))
  refine W.loopG (11 :: 12 :: 13 :: 16 :: 17 :: 18 :: 19 :: 20 :: 21 :: 22 :: 23 :: 24 :: 25 :: 26 :: 27 :: 28 :: 29 :: 30 :: 31 :: 32 :: 33 :: 34 :: 35 :: 36 :: 37 :: 14 :: 15 :: 10 :: []) (fun g s' w' => ∃ i : Nat, s' 10 = .int .i64 ((i : Nat) : Int) ∧ g = A.length - i ∧ i ≤ A.length ∧ Only b w w' ∧ SD 3 w' b n c (swpL X A Y B Z i)) A.length ⟨0, rfl, rfl, Nat.zero_le _, .ofExt (.refl w), by rw [swpL_zero]; exact hD⟩ ?_
  rintro _ d w1 ⟨i, h10, rfl, hi, hO, hD1⟩
  refine W.fix h10 ?_
  clear h10
  repeat' (first|(apply jI; exact eI rfl)|(refine jW (jX rfl rfl ?_))|refine jz ?_|(refine jjA ?_; (first|refine jjB ?_|refine jjC ?_|refine jjD ?_|refine jjE ?_|refine jjG ?_))|(refine jjA ?_; (refine jjN rfl ?_ ?_ <;> intro _))|refine jA rfl ⟨⟨_, rfl⟩, ?_⟩)
  · have hi' : i < A.length := by omega
    obtain ⟨x, y, hx, hy, hs⟩ := swpL_step (X := X) (Y := Y) (Z := Z) hi' he
    refine W.draw (fun w' => Only b w1 w') ?_
    intro w2 hS2
    have hO2 : Only b w1 w2 := .ofExt hS2.ext
    have hD2 : SD 3 w2 b n c _ := hD1.ext hS2.ext
    have hx2 := hD2.get hx
    have hy2 := hD2.get hy
    have hlt1 : X.length + i < n := by omega
    have hlt2 : X.length + A.length + Y.length + i < n := by omega
    refine jjV [0, 1, 2, 3, 4, 5, 6, 7, 8, 9, 10, 11, 12, 14, 15, 16, 17, 18] (by decide +kernel) hO2 ?_
    (((refine jjT rfl (fun _ _ => jI (eS rfl) (jz ⟨rfl, rfl⟩)) (jjT rfl (fun _ _ => jI (eI rfl) (jz ⟨rfl, rfl⟩)) (jjT rfl (fun _ _ => jI (eI rfl) (jz ⟨rfl, rfl⟩)) (jjT rfl (fun _ _ => jY rfl rfl (by omega) (jz ⟨rfl, rfl⟩)) (jjT rfl (fun _ _ => jI (eS rfl) (jz ⟨rfl, rfl⟩)) (jjT rfl (fun _ _ => jI (eI rfl) (jz ⟨rfl, rfl⟩)) ?_))))); refine jjT rfl (fun _ _ => jI (eI rfl) (jz ⟨rfl, rfl⟩)) (jjT rfl (fun _ _ => jY rfl rfl (by omega) (jz ⟨rfl, rfl⟩)) (jjT rfl (fun _ _ => jI (eS rfl) (jz ⟨rfl, rfl⟩)) (jjT rfl (fun _ _ => jI (eI rfl) (jz ⟨rfl, rfl⟩)) (jjT rfl (fun _ _ => jI (eI rfl) (jz ⟨rfl, rfl⟩)) (jjT rfl (fun _ _ => jY rfl rfl (by omega) (jz ⟨rfl, rfl⟩)) ?_))))); apply jjT; exact rfl; rintro w' hq; refine jG rfl rfl rfl (by omega) (jz ?_); exact ⟨rfl, rfl⟩; refine jjT rfl (fun _ _ => jI (eS rfl) (jz ⟨rfl, rfl⟩)) (jjT rfl (fun _ _ => jI (eI rfl) (jz ⟨rfl, rfl⟩)) (jjT rfl (fun _ _ => jI (eI rfl) (jz ⟨rfl, rfl⟩)) (jjT rfl (fun _ _ => jY rfl rfl (by omega) (jz ⟨rfl, rfl⟩)) ?_))); apply jjT; exact rfl; rintro w' hq; refine jG rfl rfl rfl (by omega) (jz ?_); exact ⟨rfl, rfl⟩; refine jjU ?_)))
    refine jjl 13 19 (by decide +kernel) rfl rfl hO2 ?b1 ?b2
    case b1 =>
      refine jR hy2 rfl rfl ?_
      refine jz ?_
      apply jjW 19 (by decide +kernel) rfl hO2
      refine jR hx2 rfl rfl ?_
      refine jz ?_
      (refine jjV [20] (by decide +kernel) hO2 ?_; (((apply jjT; exact rfl; rintro w' hq; refine jG rfl rfl rfl (by omega) (jz ?_); exact ⟨rfl, rfl⟩; refine jjU ?_))); apply jjW 21 (by decide +kernel) rfl hO2; refine OpsD.store (i := X.length + i) hD2 hlt1 rfl (eI rfl) ?_; intro w3 hO3 hD3; refine jz ?_; refine jjV [22] (by decide +kernel) (hO2.trans hO3) ?_; (((apply jjT; exact rfl; rintro w' hq; refine jG rfl rfl rfl (by omega) (jz ?_); exact ⟨rfl, rfl⟩; refine jjU ?_))); apply jjW 23 (by decide +kernel) rfl (hO2.trans hO3); refine OpsD.store (i := X.length + A.length + Y.length + i) hD3 hlt2 rfl (eI rfl) ?_; intro w4 hO4 hD4; refine jz ?_; rw [hs] at hD4; refine jjX (by decide +kernel) (hO2.trans (hO3.trans hO4)) ?_)
      (refine jjC (jI (eI rfl) (jY rfl rfl (by omega) (jJ (eI rfl) (jz ?_)))))
      exact ⟨rfl, by (((iterate 29 refine Same.upd rfl ?_); exact Same.ovN)), A.length - (i + 1), by omega, i + 1, rfl, rfl, by omega, hO.trans (hO2.trans (hO3.trans hO4)), hD4⟩
    case b2 =>
      refine jR hx2 rfl rfl ?_
      refine jz ?_
      apply jjW 13 (by decide +kernel) rfl hO2
      refine jR hy2 rfl rfl ?_
      refine jz ?_
      (refine jjV [20] (by decide +kernel) hO2 ?_; (((apply jjT; exact rfl; rintro w' hq; refine jG rfl rfl rfl (by omega) (jz ?_); exact ⟨rfl, rfl⟩; refine jjU ?_))); apply jjW 21 (by decide +kernel) rfl hO2; refine OpsD.store (i := X.length + i) hD2 hlt1 rfl (eI rfl) ?_; intro w3 hO3 hD3; refine jz ?_; refine jjV [22] (by decide +kernel) (hO2.trans hO3) ?_; (((apply jjT; exact rfl; rintro w' hq; refine jG rfl rfl rfl (by omega) (jz ?_); exact ⟨rfl, rfl⟩; refine jjU ?_))); apply jjW 23 (by decide +kernel) rfl (hO2.trans hO3); refine OpsD.store (i := X.length + A.length + Y.length + i) hD3 hlt2 rfl (eI rfl) ?_; intro w4 hO4 hD4; refine jz ?_; rw [hs] at hD4; refine jjX (by decide +kernel) (hO2.trans (hO3.trans hO4)) ?_)
      (refine jjC (jI (eI rfl) (jY rfl rfl (by omega) (jJ (eI rfl) (jz ?_)))))
      exact ⟨rfl, by (((iterate 29 refine Same.upd rfl ?_); exact Same.ovN)), A.length - (i + 1), by omega, i + 1, rfl, rfl, by omega, hO.trans (hO2.trans (hO3.trans hO4)), hD4⟩
  · have : i = A.length := by omega
    subst this
    rw [swpL_end he] at hD1
    exact ⟨hO, hD1⟩

set_option maxHeartbeats 1000000 in
theorem rotate_int (X U V Z : List Int) (w : World) (hU : 0 < U.length) (hV : 0 < V.length) (hl : n ≤ 1000000) (hD : SD 3 w b n c (X ++ U ++ V ++ Z)) (i1 i2 i3 : Int) (h1 : i1 = X.length) (h2 : i2 = X.length + U.length) (h3 : i3 = X.length + U.length + V.length) :
    Calls Tryz.prog 154 [.slice (some ⟨b, 0, none⟩) n c, .int .i64 i1, .int .i64 i2, .int .i64 i3, fv].toArray w fun e w' => (∃ v, e = .returned v) ∧ Only b w w' ∧ SD 3 w' b n c (X ++ V ++ U ++ Z) := by
  have hn : n = X.length + U.length + V.length + Z.length := by have := hD.1; simp at this; omega
  refine Calls.ofW (by simp) ?_
  (refine jjB (jjC (jI (eI rfl) (jI (eI rfl) (jZ rfl rfl (by omega) (jJ (eI rfl) ?_))))); refine jz (jjB (jjC (jI (eI rfl) (jI (eI rfl) (jZ rfl rfl (by omega) ?_))))); refine jJ (eI rfl) (jz (jjB (jjD ?_))))
  refine W.loopG (18 :: 19 :: 20 :: 21 :: 22 :: 23 :: 24 :: 25 :: 26 :: 27 :: 28 :: 29 :: 30 :: 31 :: 32 :: 33 :: 34 :: 10 :: 35 :: 36 :: 37 :: 38 :: 39 :: 40 :: 41 :: 42 :: 43 :: 44 :: 45 :: 46 :: 47 :: 48 :: 49 :: 11 :: []) (fun g s' w' => ∃ X' U' V' Z' : List Int, s' 10 = .int .i64 ((U'.length : Nat) : Int) ∧ s' 11 = .int .i64 ((V'.length : Nat) : Int) ∧ g = U'.length + V'.length ∧ 0 < U'.length ∧ 0 < V'.length ∧ X'.length + U'.length = X.length + U.length ∧ X' ++ V' ++ U' ++ Z' = X ++ V ++ U ++ Z ∧ Only b w w' ∧ SD 3 w' b n c (X' ++ U' ++ V' ++ Z')) (U.length + V.length) ⟨X, U, V, Z, (congrArg (Value.int .i64) (by omega)), (congrArg (Value.int .i64) (by omega)), rfl, hU, hV, rfl, rfl, .ofExt (.refl w), hD⟩ ?_
  rintro _ d w1 ⟨X', U', V', Z', h10, h11, rfl, hU', hV', hm, hE, hO, hD1⟩
  refine W.fix h10 (W.fix (d := 11) h11 ?_)
  clear h10 h11
  have hn1 : n = X'.length + U'.length + V'.length + Z'.length := by have := hD1.1; simp at this; omega
  repeat' (first|(apply jI; (first|exact eI rfl|exact eS rfl|exact rfl))|(refine jW ?_; (first|refine jY rfl rfl (by omega) ?_|refine jZ rfl rfl (by omega) ?_|refine jc rfl rfl ?_|refine je rfl rfl ?_))|refine jz ?_|(refine jjA ?_; (first|refine jjB ?_|refine jjC ?_|refine jjD ?_|refine jjE ?_|refine jjG ?_))|(refine jjA ?_; (refine jjN rfl ?_ ?_ <;> intro _)))
  · have hlt : V'.length < U'.length := by omega
    have e1 : X' ++ U' ++ V' ++ Z' = X' ++ U'.take V'.length ++ U'.drop V'.length ++ V' ++ Z' := by rw [List.append_assoc X' (U'.take V'.length), List.take_append_drop]
    rw [e1] at hD1
    have l1 : (U'.take V'.length).length = V'.length := by simp; omega
    have l2 : (U'.drop V'.length).length = U'.length - V'.length := by simp
    refine Ops.callR rfl (Enters.h (P := Tryz.prog) (g := 159)) rfl (swapRange_int b n c fv X' (U'.take V'.length) (U'.drop V'.length) V' Z' w1 l1 hl hD1 _ _ _ (by omega) (by omega) (by omega)) ?_
    rintro _ w2 ⟨⟨v, rfl⟩, hO2, hD2⟩
    refine ⟨_, rfl, ?_⟩
    (refine jz (jjC (jI (eI rfl) (jI (eI rfl) (jZ rfl rfl (by omega) (jJ (eI rfl) ?_))))); refine jz ?_)
    refine ⟨rfl, by (((iterate 20 refine Same.upd rfl ?_); exact Same.ovN)), _, ?_, X' ++ V', U'.drop V'.length, U'.take V'.length, Z', congrArg (Value.int .i64) (by omega), congrArg (Value.int .i64) (by omega), rfl, by omega, by omega, by simp; omega, ?_, hO.trans hO2, hD2⟩
    · omega
    · rw [← hE, List.append_assoc (X' ++ V'), List.take_append_drop]
  · have hlt : U'.length < V'.length := by omega
    have e1 : X' ++ U' ++ V' ++ Z' = X' ++ U' ++ V'.take (V'.length - U'.length) ++ V'.drop (V'.length - U'.length) ++ Z' := by rw [List.append_assoc (X' ++ U') (V'.take (V'.length - U'.length)), List.take_append_drop]
    rw [e1] at hD1
    have l1 : (V'.take (V'.length - U'.length)).length = V'.length - U'.length := by simp
    have l2 : (V'.drop (V'.length - U'.length)).length = U'.length := by simp; omega
    refine Ops.callR rfl (Enters.h (P := Tryz.prog) (g := 159)) rfl (swapRange_int b n c fv X' U' (V'.take (V'.length - U'.length)) (V'.drop (V'.length - U'.length)) Z' w1 l2.symm hl hD1 _ _ _ (by omega) (by omega) (by omega)) ?_
    rintro _ w2 ⟨⟨v, rfl⟩, hO2, hD2⟩
    refine ⟨_, rfl, ?_⟩
    (refine jz (jjC (jI (eI rfl) (jI (eI rfl) (jZ rfl rfl (by omega) (jJ (eI rfl) ?_))))); refine jz ?_)
    refine ⟨rfl, by (((iterate 24 refine Same.upd rfl ?_); exact Same.ovN)), _, ?_, X', V'.drop (V'.length - U'.length), V'.take (V'.length - U'.length), U' ++ Z', congrArg (Value.int .i64) (by omega), congrArg (Value.int .i64) (by omega), rfl, by omega, by omega, by omega, ?_, hO.trans hO2, ?_⟩
    · omega
    · rw [← hE, List.append_assoc X', List.take_append_drop]; simp only [List.append_assoc]
    · simp only [List.append_assoc] at hD2 ⊢; exact hD2
  · have e1 : X' ++ U' ++ V' ++ Z' = X' ++ U' ++ [] ++ V' ++ Z' := by simp
    rw [e1] at hD1
    have heq : U'.length = V'.length := by omega
    refine Ops.callR rfl (Enters.h (P := Tryz.prog) (g := 159)) rfl (swapRange_int b n c fv X' U' [] V' Z' w1 heq hl hD1 _ _ _ (by omega) (by simp; omega) (by omega)) ?_
    rintro _ w2 ⟨⟨v, rfl⟩, hO2, hD2⟩
    refine ⟨_, rfl, ?_⟩
    (refine jz ?_; refine jA rfl ⟨⟨_, rfl⟩, ?_⟩)
    refine ⟨hO.trans hO2, ?_⟩
    rw [← hE]
    rw [List.append_nil] at hD2
    exact hD2
end

theorem adj {L R : List Int} {u v : Int} {i1 i2 : Nat} (h1 : i1 = L.length) (h2 : i2 = L.length + 1) : (L ++ u :: v :: R)[i1]? = some u ∧ (L ++ u :: v :: R)[i2]? = some v ∧ ((L ++ u :: v :: R).set i2 u).set i1 v = L ++ v :: u :: R ∧ ((L ++ u :: v :: R).set i1 v).set i2 u = L ++ v :: u :: R := by
  have e : ∀ p q : Int, L ++ p :: q :: R = (L ++ [p]) ++ q :: R := by intro p q; simp
  have l2 : ∀ p : Int, i2 = (L ++ [p]).length := by intro p; simp [h2]
  refine ⟨get_mid h1, ?_, ?_, ?_⟩
  · rw [e]; exact get_mid (l2 _)
  · rw [e, set_mid (l2 _), ← e, set_mid h1]
  · rw [set_mid h1, e, set_mid (l2 _), ← e]

def insL (X T R : List Int) (x : Int) (q : Nat) : List Int := X ++ T.take q ++ x :: (T.drop q ++ R)
theorem insL_step {X T R : List Int} {x : Int} {q : Nat} (hq : q < T.length) : ∃ y, T[q]? = some y ∧ (insL X T R x (q + 1))[X.length + q]? = some y ∧ (insL X T R x (q + 1))[X.length + (q + 1)]? = some x ∧ ((insL X T R x (q + 1)).set (X.length + (q + 1)) y).set (X.length + q) x = insL X T R x q := by
  have e1 : insL X T R x (q + 1) = (X ++ T.take q) ++ T[q] :: x :: (T.drop (q + 1) ++ R) := by
    rw [insL, List.take_succ_eq_append_getElem hq]; simp only [List.append_assoc, List.cons_append, List.nil_append]
  have e2 : insL X T R x q = (X ++ T.take q) ++ x :: T[q] :: (T.drop (q + 1) ++ R) := by
    rw [insL, List.drop_eq_getElem_cons hq]; simp only [List.append_assoc, List.cons_append]
  have l1 : X.length + q = (X ++ T.take q).length := by simp; omega
  obtain ⟨h1, h2, h3, _⟩ := adj (L := X ++ T.take q) (R := T.drop (q + 1) ++ R) (u := T[q]) (v := x) l1 (i2 := X.length + (q + 1)) (by omega)
  refine ⟨T[q], by simp [hq], ?_, ?_, ?_⟩
  · rw [e1]; exact h1
  · rw [e1]; exact h2
  · rw [e1, h3, e2]
theorem insL_end {X T R : List Int} {x : Int} : insL X T R x T.length = X ++ T ++ x :: R := by rw [insL, List.take_length, List.drop_length]; rfl
theorem insL_sorted {k : Int → Int} {S : List Int} {m q : Nat} (hm : m < S.length) (hq : q ≤ m) (hb : ∀ y ∈ (ssort k (S.take m)).drop q, k S[m] < k y) (ha : ∀ y, q ≠ 0 → (ssort k (S.take m))[q - 1]? = some y → k y ≤ k S[m]) :
    ssort k (S.take (m + 1)) = (ssort k (S.take m)).take q ++ [S[m]] ++ (ssort k (S.take m)).drop q := by
  have hs := ssort_srt k (S.take m)
  rw [List.take_succ_eq_append_getElem hm, ← ssort_app_l]
  have ht := List.take_append_drop q (ssort k (S.take m))
  have hlen : (ssort k (S.take m)).length = m := by rw [ssort_len]; simp; omega
  have h := ssort_snoc (k := k) (a := (ssort k (S.take m)).take q) (b := (ssort k (S.take m)).drop q) (x := S[m]) (by rw [ht]; exact hs) hb ?_
  · rw [ht] at h; exact h
  · intro y hy
    obtain ⟨i, hi, rfl⟩ := List.mem_iff_getElem.1 hy
    simp only [List.length_take] at hi
    have h0 : q ≠ 0 := by omega
    have hq1 : q - 1 < (ssort k (S.take m)).length := by omega
    have h1 := ha _ h0 (List.getElem?_eq_getElem hq1)
    rw [List.getElem_take]
    rcases Nat.lt_or_ge i (q - 1) with c | c
    · have := List.pairwise_iff_getElem.1 hs i (q - 1) (by omega) (by omega) c
      omega
    · have : i = q - 1 := by omega
      subst this; exact h1

section
variable (b n c g : Nat) (cap : List Value) (k : Int → Int) (p : Int → Prop) [he : Enters Tryz.prog g]
set_option maxHeartbeats 2000000 in
theorem insertion_int (X S Z : List Int) (w : World) (hp : ∀ x ∈ S, p x) (hl : n ≤ 1000000) (hD : SD 3 w b n c (X ++ S ++ Z)) (hc : CmpE Tryz.prog g cap k b w p) (i1 i2 : Int) (h1 : i1 = X.length) (h2 : i2 = X.length + S.length) :
    Calls Tryz.prog 141 [.slice (some ⟨b, 0, none⟩) n c, .int .i64 i1, .int .i64 i2, .func (.func g) #[] cap.toArray].toArray w fun e w' => (∃ v, e = .returned v) ∧ Only b w w' ∧ SD 3 w' b n c (X ++ ssort k S ++ Z) := by
  have hn : n = X.length + S.length + Z.length := by have := hD.1; simp at this; omega
  subst h1 h2
  refine Calls.ofW (by simp) ?_
  (refine jjB (jjC (jI (eI rfl) (jY rfl rfl (by omega) (jJ (eI rfl) (jz ?_))))); refine jjD ?_)
  refine W.loopG (12 :: 13 :: 14 :: 17 :: 9 :: 18 :: 19 :: 20 :: 21 :: 22 :: 23 :: 24 :: 25 :: 26 :: 27 :: 28 :: 29 :: 30 :: 31 :: 32 :: 33 :: 34 :: 37 :: 38 :: 39 :: 40 :: 41 :: 42 :: 43 :: 44 :: 45 :: 46 :: 47 :: 48 :: 49 :: 50 :: 51 :: 52 :: 35 :: 36 :: 15 :: 16 :: 8 :: []) (fun g s' w' => ∃ m : Nat, s' 8 = .int .i64 ((X.length + m : Nat) : Int) ∧ g = S.length + 1 - m ∧ 1 ≤ m ∧ m ≤ S.length + 1 ∧ Only b w w' ∧ SD 3 w' b n c (X ++ ssort k (S.take m) ++ S.drop m ++ Z)) S.length ⟨1, (congrArg (Value.int .i64) (by omega)), by omega, Nat.le_refl _, by omega, .ofExt (.refl w), ?_⟩ ?_
  · cases S with
    | nil => simpa [ssort] using hD
    | cons x S => simpa [ssort, insF] using hD
  rintro _ d w1 ⟨m, h8, rfl, hm1, hm2, hO, hD1⟩
  refine W.fix h8 ?_
  clear h8
  repeat' (first|((first|apply jI|apply jJ); exact eI rfl)|(refine jW (jX rfl rfl ?_))|refine jz ?_|(refine jjA ?_; (first|refine jjB ?_|refine jjC ?_|refine jjD ?_|refine jjE ?_|refine jjG ?_))|(refine jjA ?_; (refine jjN rfl ?_ ?_ <;> intro _))|refine jA rfl ⟨⟨_, rfl⟩, ?_⟩)
  · have hm : m < S.length := by omega
    have hT : (ssort k (S.take m)).length = m := by rw [ssort_len]; simp; omega
    have e1 : ∀ T : List Int, T.length = m → X ++ T ++ S.drop m ++ Z = insL X T (S.drop (m + 1) ++ Z) S[m] m := by
      intro T hT
      rw [insL, List.take_of_length_le (by omega : T.length ≤ m), List.drop_of_length_le (by omega : T.length ≤ m), List.drop_eq_getElem_cons hm]; simp only [List.append_assoc, List.cons_append, List.nil_append]
    rw [e1 _ hT] at hD1
    clear e1
    have hTp : ∀ y ∈ ssort k (S.take m), p y := fun y hy => hp y (List.mem_of_mem_take (ssort_mem.1 hy))
    have hxp : p S[m] := hp _ (List.getElem_mem hm)
    generalize hTe : ssort k (S.take m) = T at hD1 hT hTp
    generalize hxe : S[m] = x at hD1 hxp
    refine W.loopG (18 :: 19 :: 20 :: 21 :: 22 :: 23 :: 24 :: 25 :: 26 :: 27 :: 28 :: 29 :: 30 :: 31 :: 32 :: 33 :: 34 :: 37 :: 38 :: 39 :: 40 :: 41 :: 42 :: 43 :: 44 :: 45 :: 46 :: 47 :: 48 :: 49 :: 50 :: 51 :: 52 :: 35 :: 36 :: 9 :: []) (fun g s' w' => ∃ q : Nat, s' 9 = .int .i64 ((X.length + q : Nat) : Int) ∧ g = q + 1 ∧ q ≤ m ∧ (∀ y ∈ T.drop q, k x < k y) ∧ Only b w1 w' ∧ SD 3 w' b n c (insL X T (S.drop (m + 1) ++ Z) x q)) (m + 1) ⟨m, rfl, rfl, Nat.le_refl _, by rw [List.drop_of_length_le (by omega)]; simp, .ofExt (.refl w1), hD1⟩ ?_
    rintro _ d2 w2 ⟨q, h9, rfl, hqm, hdr, hO2, hD2⟩
    refine W.fix h9 ?_
    clear h9
    have hfin : ∀ w5, Ext w2 w5 → (∀ y, q ≠ 0 → T[q - 1]? = some y → k y ≤ k x) → SD 3 w5 b n c (X ++ ssort k (S.take (m + 1)) ++ S.drop (m + 1) ++ Z) := by
      intro w5 h5 hlast
      subst hTe hxe
      rw [insL_sorted hm hqm hdr hlast]
      have := hD2.ext h5
      rw [insL] at this
      simp only [List.append_assoc, List.cons_append, List.nil_append] at this ⊢
      exact this
    rcases q with _ | q
    · (refine jjB (jjB ?_))
      refine W.draw (fun w' => Ext w2 w') ?_
      intro w3 hS3
      refine jjV [0, 1, 2, 3, 4, 5, 6, 7, 8, 9, 10, 11, 12, 13, 14, 15, 16] (by decide +kernel) hS3.ext ?_
      (((refine jjT rfl (fun _ _ => jI (eI rfl) (jz ⟨rfl, rfl⟩)) (jjT rfl (fun _ _ => jI (eI rfl) (jz ⟨rfl, rfl⟩)) (jjT rfl (fun _ _ => jje rfl rfl (by omega) (jz ⟨rfl, rfl⟩)) (jjT rfl (fun _ _ => jI (eB rfl) (jz ⟨rfl, rfl⟩)) (jjT rfl (fun _ _ => jU rfl rfl rfl rfl (jz ⟨rfl, rfl⟩)) (jjT rfl (fun _ _ => jU rfl rfl rfl rfl (jz ⟨rfl, rfl⟩)) ?_))))); refine jjT rfl (fun _ _ => jU rfl rfl rfl rfl (jz ⟨rfl, rfl⟩)) (jjT rfl (fun _ _ => jU rfl rfl rfl rfl (jz ⟨rfl, rfl⟩)) (jjT rfl (fun _ _ => jU rfl rfl rfl rfl (jz ⟨rfl, rfl⟩)) (jjT rfl (fun _ _ => jU rfl rfl rfl rfl (jz ⟨rfl, rfl⟩)) (jjT rfl (fun _ _ => jU rfl rfl rfl rfl (jz ⟨rfl, rfl⟩)) (jjT rfl (fun _ _ => jU rfl rfl rfl rfl (jz ⟨rfl, rfl⟩)) ?_))))); refine jjT rfl (fun _ _ => jU rfl rfl rfl rfl (jz ⟨rfl, rfl⟩)) (jjT rfl (fun _ _ => jU rfl rfl rfl rfl (jz ⟨rfl, rfl⟩)) (jjT rfl (fun _ _ => jU rfl rfl rfl rfl (jz ⟨rfl, rfl⟩)) (jjT rfl (fun _ _ => jU rfl rfl rfl rfl (jz ⟨rfl, rfl⟩)) (jjT rfl (fun _ _ => jL rfl (eB rfl) (jz ⟨rfl, rfl⟩)) (jjU ?_))))))))
      refine jjX (by decide +kernel) hS3.ext ?_
      (refine jjK rfl (jjE (jjC (jI (eI rfl) (jY rfl rfl (by omega) (jJ (eI rfl) ?_))))); refine jz ?_)
      exact ⟨rfl, by (((iterate 21 refine Same.upd rfl ?_); refine Same.ovN' rfl ?_; (iterate 6 refine Same.upd rfl ?_); exact Same.ovN)), S.length + 1 - (m + 1), by omega, m + 1, congrArg (Value.int .i64) (by omega), rfl, by omega, by omega, hO.trans (hO2.trans (.ofExt hS3.ext)), hfin _ hS3.ext (by intro y h0; exact absurd rfl h0)⟩
    · obtain ⟨y, hTy, hy, hx, hs⟩ := insL_step (X := X) (R := S.drop (m + 1) ++ Z) (x := x) (q := q) (T := T) (by omega)
      have hx2 := hD2.get hx
      have hy2 := hD2.get hy
      have hq1 : ((X.length + (q + 1) : Nat) : Int) - 1 = ((X.length + q : Nat) : Int) := by omega
      (refine jjB (jjB ?_))
      refine W.draw (fun w' => Ext w2 w') ?_
      intro w3 hS3
      refine jjV [0, 1, 2, 3, 4, 5, 6, 7, 8, 9, 10, 11, 12, 13] (by decide +kernel) hS3.ext ?_
      (((apply jjT; exact rfl; rintro w' hq; have g1 := hq.cell hx2; have g2 := hq.cell hy2; refine jI (eI rfl) (jz ?_); exact ⟨rfl, rfl⟩; apply jjT; exact rfl; rintro w' hq; have g1 := hq.cell hx2; have g2 := hq.cell hy2; refine jI (eI rfl) (jz ?_); exact ⟨rfl, rfl⟩; apply jjT; exact rfl; rintro w' hq; have g1 := hq.cell hx2; have g2 := hq.cell hy2; refine jjd rfl rfl (by omega) (jz ?_); exact ⟨rfl, rfl⟩; apply jjT; exact rfl; rintro w' hq; have g1 := hq.cell hx2; have g2 := hq.cell hy2; refine jI (eB rfl) (jz ?_); exact ⟨rfl, rfl⟩; apply jjT; exact rfl; rintro w' hq; have g1 := hq.cell hx2; have g2 := hq.cell hy2; refine jT rfl rfl rfl (jI (eF rfl) (jz ?_)); exact ⟨rfl, rfl⟩; apply jjT; exact rfl; rintro w' hq; have g1 := hq.cell hx2; have g2 := hq.cell hy2; refine jT rfl rfl rfl (jI (eS rfl) (jz ?_)); exact ⟨rfl, rfl⟩; apply jjT; exact rfl; rintro w' hq; have g1 := hq.cell hx2; have g2 := hq.cell hy2; refine jT rfl rfl rfl (jI (eI rfl) (jz ?_)); exact ⟨rfl, rfl⟩; apply jjT; exact rfl; rintro w' hq; have g1 := hq.cell hx2; have g2 := hq.cell hy2; refine jT rfl rfl rfl (jG rfl rfl rfl (by omega) (jz ?_)); exact ⟨rfl, rfl⟩; apply jjT; exact rfl; rintro w' hq; have g1 := hq.cell hx2; have g2 := hq.cell hy2; refine jT rfl rfl rfl (jR (by assumption) rfl rfl (jz ?_)); exact ⟨rfl, rfl⟩; apply jjT; exact rfl; rintro w' hq; have g1 := hq.cell hx2; have g2 := hq.cell hy2; refine jT rfl rfl rfl (jI (eS rfl) (jz ?_)); exact ⟨rfl, rfl⟩; apply jjT; exact rfl; rintro w' hq; have g1 := hq.cell hx2; have g2 := hq.cell hy2; refine jT rfl rfl rfl (jI (eI rfl) (jz ?_)); exact ⟨rfl, rfl⟩; apply jjT; exact rfl; rintro w' hq; have g1 := hq.cell hx2; have g2 := hq.cell hy2; refine jT rfl rfl rfl (jZ rfl rfl (by omega) (jz ?_)); exact ⟨rfl, rfl⟩; apply jjT; exact rfl; rintro w' hq; have g1 := hq.cell hx2; have g2 := hq.cell hy2; refine jT rfl rfl rfl (jG rfl rfl (by assumption) (by omega) (jz ?_)); exact ⟨rfl, rfl⟩; apply jjT; exact rfl; rintro w' hq; have g1 := hq.cell hx2; have g2 := hq.cell hy2; refine jT rfl rfl rfl (jR (by assumption) rfl rfl (jz ?_)); exact ⟨rfl, rfl⟩; refine jjU ?_)))
      apply jjW 14 (by decide +kernel) rfl hS3.ext
      refine jT rfl rfl rfl ?_
      refine jjQ ((hc.only (hO.trans (hO2.trans (.ofExt hS3.ext)))).h w3 (.ofExt (.refl w3)) x y hxp (hTp y (List.mem_of_getElem? hTy))) rfl rfl ?_
      rintro _ w4 hS4 rfl
      refine jz ?_
      have hE4 := hS3.ext.trans hS4.ext
      refine jjV [15, 16] (by decide +kernel) hE4 ?_
      (((refine jjT rfl (fun _ _ => jT rfl rfl rfl (jX rfl rfl (jz ⟨rfl, rfl⟩))) (jjT rfl (fun _ _ => jK rfl (eB rfl) (jz ⟨rfl, rfl⟩)) (jjU ?_)))))
      refine jjX (by decide +kernel) hE4 ?_
      have hlt1 : X.length + (q + 1) < n := by omega
      have hlt2 : X.length + q < n := by omega
      have hlast : y ∈ T.drop q := by
        rw [List.drop_eq_getElem_cons (by omega)]
        have : T[q]'(by omega) = y := by rw [List.getElem?_eq_getElem (by omega)] at hTy; exact Option.some.inj hTy
        rw [this]; exact List.mem_cons_self
      have hdq : T.drop q = y :: T.drop (q + 1) := by
        rw [List.drop_eq_getElem_cons (by omega)]
        congr 1
        rw [List.getElem?_eq_getElem (by omega)] at hTy; exact Option.some.inj hTy
      repeat' (first|((first|apply jI|apply jJ); exact eI rfl)|(refine jW (jY rfl rfl (by omega) ?_))|refine jz ?_|(refine jjA ?_; (first|refine jjB ?_|refine jjC ?_|refine jjD ?_|refine jjE ?_|refine jjG ?_))|(refine jjA ?_; (refine jjN rfl ?_ ?_ <;> intro _)))
      · have hlt : k x < k y := by have := ‹(if k x < k y then (-1 : Int) else if k y < k x then 1 else 0) < 0›; split at this <;> first | assumption | (split at this <;> omega)
        clear hfin
        refine W.draw (fun w' => Only b w2 w') ?_
        intro w5 hS5
        have hO2' : Only b w2 w5 := .ofExt (hE4.trans hS5.ext)
        have hD2 : SD 3 w5 b n c _ := hD2.ext (hE4.trans hS5.ext)
        have hx2 := hD2.get hx
        have hy2 := hD2.get hy
        have hO0 := hO
        have hO01 := hO2
        have hO2 := hO2'
        refine jjV [0, 1, 2, 3, 4, 5, 6, 7, 8, 10, 11, 12] (by decide +kernel) hO2 ?_
        ((repeat' (first|(apply jjT; exact rfl)|rintro w' hq|(apply jI; (first|exact eI rfl|exact eS rfl))|(refine jW (jZ rfl rfl (by omega) ?_))|(refine jE ?_; (first|refine jG rfl rfl rfl (by omega) ?_|refine jG rfl rfl (by assumption) (by omega) ?_))|refine jz ?_|exact ⟨rfl, rfl⟩|refine jjU ?_)))
        refine jjl 9 13 (by decide +kernel) rfl rfl hO2 ?b1 ?b2
        case b1 =>
          refine jR hy2 rfl rfl ?_
          refine jz ?_
          apply jjW 13 (by decide +kernel) rfl hO2
          refine jR hx2 rfl rfl ?_
          refine jz ?_
          (refine jjV [14] (by decide +kernel) hO2 ?_; ((repeat' (first|(apply jjT; exact rfl)|rintro w' hq|(refine jE (jG rfl rfl rfl (by omega) ?_))|refine jz ?_|exact ⟨rfl, rfl⟩|refine jjU ?_))); apply jjW 15 (by decide +kernel) rfl hO2; refine OpsD.store (i := X.length + (q + 1)) hD2 hlt1 rfl (eI rfl) ?_; intro w3 hO3 hD3; refine jz ?_; refine jjV [16] (by decide +kernel) (hO2.trans hO3) ?_; ((repeat' (first|(apply jjT; exact rfl)|rintro w' hq|(refine jE (jG rfl rfl (by assumption) (by omega) ?_))|refine jz ?_|exact ⟨rfl, rfl⟩|refine jjU ?_))); apply jjW 17 (by decide +kernel) rfl (hO2.trans hO3); refine OpsD.store (i := X.length + q) hD3 hlt2 rfl (eI rfl) ?_; intro w4 hO4 hD4; refine jz ?_; rw [hs] at hD4; refine jjX (by decide +kernel) (hO2.trans (hO3.trans hO4)) ?_)
          repeat' (first|((first|apply jI|apply jJ); exact eI rfl)|(refine jW (jZ rfl rfl (by omega) ?_))|refine jz ?_|(refine jjA (jjC ?_)))
          refine ⟨rfl, by (repeat' (first|exact Same.ovN|refine Same.upd rfl ?_)), _, ?_, q, congrArg (Value.int .i64) (by omega), rfl, by omega, ?_, hO01.trans (hO2.trans (hO3.trans hO4)), hD4⟩
          · omega
          · rw [hdq]; intro z hz; rcases List.mem_cons.1 hz with rfl | hz; exact hlt; exact hdr z hz
        case b2 =>
          refine jR hx2 rfl rfl ?_
          refine jz ?_
          apply jjW 9 (by decide +kernel) rfl hO2
          refine jR hy2 rfl rfl ?_
          refine jz ?_
          (refine jjV [14] (by decide +kernel) hO2 ?_; ((repeat' (first|(apply jjT; exact rfl)|rintro w' hq|(refine jE (jG rfl rfl rfl (by omega) ?_))|refine jz ?_|exact ⟨rfl, rfl⟩|refine jjU ?_))); apply jjW 15 (by decide +kernel) rfl hO2; refine OpsD.store (i := X.length + (q + 1)) hD2 hlt1 rfl (eI rfl) ?_; intro w3 hO3 hD3; refine jz ?_; refine jjV [16] (by decide +kernel) (hO2.trans hO3) ?_; ((repeat' (first|(apply jjT; exact rfl)|rintro w' hq|(refine jE (jG rfl rfl (by assumption) (by omega) ?_))|refine jz ?_|exact ⟨rfl, rfl⟩|refine jjU ?_))); apply jjW 17 (by decide +kernel) rfl (hO2.trans hO3); refine OpsD.store (i := X.length + q) hD3 hlt2 rfl (eI rfl) ?_; intro w4 hO4 hD4; refine jz ?_; rw [hs] at hD4; refine jjX (by decide +kernel) (hO2.trans (hO3.trans hO4)) ?_)
          repeat' (first|((first|apply jI|apply jJ); exact eI rfl)|(refine jW (jZ rfl rfl (by omega) ?_))|refine jz ?_|(refine jjA (jjC ?_)))
          refine ⟨rfl, by (repeat' (first|exact Same.ovN|refine Same.upd rfl ?_)), _, ?_, q, congrArg (Value.int .i64) (by omega), rfl, by omega, ?_, hO01.trans (hO2.trans (hO3.trans hO4)), hD4⟩
          · omega
          · rw [hdq]; intro z hz; rcases List.mem_cons.1 hz with rfl | hz; exact hlt; exact hdr z hz
      · have hge : k y ≤ k x := by
          have := ‹¬ ((if k x < k y then (-1 : Int) else if k y < k x then 1 else 0) < 0)›
          rcases Int.lt_or_le (k x) (k y) with h | h
          · simp [h] at this
          · exact h
        exact ⟨rfl, by (((iterate 21 refine Same.upd rfl ?_); refine Same.ovN' rfl ?_; (iterate 6 refine Same.upd rfl ?_); exact Same.ovN)), S.length + 1 - (m + 1), by omega, m + 1, congrArg (Value.int .i64) (by omega), rfl, by omega, by omega, hO.trans (hO2.trans (.ofExt hE4)), hfin _ hE4 (by intro z _ hz; rw [Nat.add_sub_cancel, hTy] at hz; cases hz; exact hge)⟩
  · have hm : S.length ≤ m := by omega
    rw [List.take_of_length_le hm, List.drop_of_length_le hm, List.append_nil] at hD1
    exact ⟨hO, hD1⟩
end

theorem cmp_neg {a b : Int} (h : (if a < b then (-1 : Int) else if b < a then 1 else 0) < 0) : a < b := by
  by_cases c : a < b
  · exact c
  · rw [if_neg c] at h; split at h <;> omega
theorem cmp_nn {a b : Int} (h : ¬ (if a < b then (-1 : Int) else if b < a then 1 else 0) < 0) : b ≤ a := by
  rcases Int.lt_or_le a b with c | c
  · simp [c] at h
  · exact c
theorem insL_up {X T R : List Int} {x : Int} {q : Nat} (hq : q < T.length) : ∃ y, (insL X T R x q)[X.length + q]? = some x ∧ (insL X T R x q)[X.length + (q + 1)]? = some y ∧ ((insL X T R x q).set (X.length + q) y).set (X.length + (q + 1)) x = insL X T R x (q + 1) := by
  have e1 : insL X T R x (q + 1) = (X ++ T.take q) ++ T[q] :: x :: (T.drop (q + 1) ++ R) := by
    rw [insL, List.take_succ_eq_append_getElem hq]; simp only [List.append_assoc, List.cons_append, List.nil_append]
  have e2 : insL X T R x q = (X ++ T.take q) ++ x :: T[q] :: (T.drop (q + 1) ++ R) := by
    rw [insL, List.drop_eq_getElem_cons hq]; simp only [List.append_assoc, List.cons_append]
  have l1 : X.length + q = (X ++ T.take q).length := by simp; omega
  obtain ⟨h1, h2, _, h4⟩ := adj (L := X ++ T.take q) (R := T.drop (q + 1) ++ R) (u := x) (v := T[q]) l1 (i2 := X.length + (q + 1)) (by omega)
  refine ⟨T[q], ?_, ?_, ?_⟩
  · rw [e2]; exact h1
  · rw [e2]; exact h2
  · rw [e2, h4, e1]
theorem srt_get {k : Int → Int} {l : List Int} (h : Srt k l) {i j : Nat} {x y : Int} (hx : l[i]? = some x) (hy : l[j]? = some y) (hij : i ≤ j) : k x ≤ k y := by
  obtain ⟨hi, rfl⟩ := List.getElem?_eq_some_iff.1 hx
  obtain ⟨hj, rfl⟩ := List.getElem?_eq_some_iff.1 hy
  rcases Nat.lt_or_ge i j with c | c
  · exact List.pairwise_iff_getElem.1 h i j hi hj c
  · have : i = j := by omega
    subst this; exact Int.le_refl _
theorem mem_take_get {l : List Int} {p : Nat} {y : Int} (h : y ∈ l.take p) : ∃ i, i < p ∧ l[i]? = some y := by
  obtain ⟨i, hi, rfl⟩ := List.mem_iff_getElem.1 h
  simp only [List.length_take] at hi
  exact ⟨i, by omega, by rw [List.getElem_take]; exact List.getElem?_eq_getElem (by omega)⟩
theorem mem_drop_get {l : List Int} {p : Nat} {y : Int} (h : y ∈ l.drop p) : ∃ i, p ≤ i ∧ l[i]? = some y := by
  obtain ⟨i, hi, rfl⟩ := List.mem_iff_getElem.1 h
  simp only [List.length_drop] at hi
  exact ⟨p + i, by omega, by rw [List.getElem_drop]; exact List.getElem?_eq_getElem (by omega)⟩

section
variable (b n c g : Nat) (cap : List Value) (k : Int → Int) (p : Int → Prop) [he : Enters Tryz.prog g]
set_option maxHeartbeats 4000000 in
theorem symA_int (X V Z : List Int) (x : Int) (w : World) (hpx : p x) (hp : ∀ y ∈ V, p y) (hV : 0 < V.length) (hsV : Srt k V) (hl : n ≤ 1000000) (hD : SD 3 w b n c (X ++ [x] ++ V ++ Z)) (hc : CmpE Tryz.prog g cap k b w p) (i1 i2 i3 : Int) (h1 : i1 = X.length) (h2 : i2 = X.length + 1) (h3 : i3 = X.length + 1 + V.length) :
    Calls Tryz.prog 142 [.slice (some ⟨b, 0, none⟩) n c, .int .i64 i1, .int .i64 i2, .int .i64 i3, .func (.func g) #[] cap.toArray].toArray w fun e w' => (∃ v, e = .returned v) ∧ Only b w w' ∧ SD 3 w' b n c (X ++ ssort k ([x] ++ V) ++ Z) := by
  have hn : n = X.length + 1 + V.length + Z.length := by have := hD.1; simp at this; omega
  have e0 : X ++ [x] ++ V ++ Z = insL X V Z x 0 := by simp [insL]
  rw [e0] at hD
  have hx0 : (insL X V Z x 0)[X.length]? = some x := by simp [insL]
  have hget : ∀ q y, V[q]? = some y → (insL X V Z x 0)[X.length + 1 + q]? = some y := by
    intro q y hy
    have hq := (List.getElem?_eq_some_iff.1 hy).1
    rw [insL, List.take_zero, List.append_nil, List.drop_zero, List.getElem?_append_right (by omega)]
    rw [show X.length + 1 + q - X.length = q + 1 from by omega, List.getElem?_cons_succ, List.getElem?_append_left hq, hy]
  refine Calls.ofW (by simp) ?_
  subst h1 h2 h3
  (refine jjB (jjB (jjC (jI (eI rfl) (jI (eI rfl) (jZ rfl rfl (by omega) ?_))))); refine jjh rfl rfl (by omega) (jz (jjJ rfl (jjB (jjC (jI (eI rfl) ?_))))); refine jJ (eI rfl) (jz (jjB (jjC (jI (eI rfl) (jJ (eI rfl) ?_))))); refine jz (jjB (jjD ?_)))
  refine W.loop (31 :: 32 :: 33 :: 34 :: 35 :: 36 :: 37 :: 38 :: 39 :: 12 :: 40 :: 41 :: 42 :: 43 :: 44 :: 45 :: 46 :: 47 :: 48 :: 49 :: 50 :: 51 :: 52 :: 10 :: 53 :: 11 :: []) (fun gg s' w' => ∃ p r : Nat, s' 10 = .int .i64 ((X.length + 1 + p : Nat) : Int) ∧ s' 11 = .int .i64 ((X.length + 1 + r : Nat) : Int) ∧ gg = r - p ∧ p ≤ r ∧ r ≤ V.length ∧ (∀ y, p ≠ 0 → V[p - 1]? = some y → k y < k x) ∧ (∀ y, V[r]? = some y → k x ≤ k y)) V.length ⟨0, V.length, congrArg (Value.int .i64) (by omega), congrArg (Value.int .i64) (by omega), by omega, Nat.zero_le _, Nat.le_refl _, by intro y h; exact absurd rfl h, by intro y h; simp at h⟩ ?_
  rintro _ d w1 hS1 ⟨p0, r, h10, h11, rfl, hpr, hrV, hlo, hhi⟩
  refine W.fix h10 (W.fix (d := 11) h11 ?_)
  clear h10 h11
  repeat' (first|((first|apply jI|apply jJ); exact eI rfl)|(refine jW ?_; (first|refine jX rfl rfl ?_|refine jY rfl rfl (by omega) ?_))|refine jz ?_|(refine jjA ?_; (first|refine jjB ?_|refine jjC ?_|refine jjD ?_|refine jjE ?_|refine jjG ?_))|(refine jjA ?_; (refine jjN rfl ?_ ?_ <;> intro _)))
  · refine Ops.convI rfl rfl (wrap64 (by omega) (by omega)) ?_
    refine Ops.half (a := 2 * X.length + 2 + p0 + r) rfl (by omega) rfl ?_
    refine Ops.convI rfl rfl (wrapi (by omega) (by omega)) ?_
    obtain ⟨q, hq⟩ : ∃ q, (2 * X.length + 2 + p0 + r) / 2 = X.length + 1 + q := ⟨(2 * X.length + 2 + p0 + r) / 2 - (X.length + 1), by omega⟩
    have hq1 : p0 ≤ q := by omega
    have hq2 : q < r := by omega
    refine Ops.fix (d := 39) (v := .int .i64 ((X.length + 1 + q : Nat) : Int)) (congrArg (Value.int .i64) (congrArg Nat.cast hq)) ?_
    clear hq
    have hqV : q < V.length := by omega
    have hg := List.getElem?_eq_getElem hqV
    have hD1 : SD 3 w1 b n c _ := hD.ext hS1.ext
    have hx2 := hD1.get hx0
    have hy2 := hD1.get (hget q _ hg)
    generalize hye : V[q] = y at hg hy2
    have hpy : p y := hp _ (List.mem_of_getElem? hg)
    (refine jJ (eI rfl) (jz (jjB ?_)))
    refine W.draw (fun w' => Ext w1 w') ?_
    intro w3 hS3
    refine jjV [0, 1, 2, 3, 4, 5, 6, 7, 8] (by decide +kernel) hS3.ext ?_
    (((apply jjT; exact rfl; rintro w' hq; have g1 := hq.cell hx2; have g2 := hq.cell hy2; refine jI (eF rfl) (jz ?_); exact ⟨rfl, rfl⟩; apply jjT; exact rfl; rintro w' hq; have g1 := hq.cell hx2; have g2 := hq.cell hy2; refine jI (eS rfl) (jz ?_); exact ⟨rfl, rfl⟩; apply jjT; exact rfl; rintro w' hq; have g1 := hq.cell hx2; have g2 := hq.cell hy2; refine jI (eI rfl) (jz ?_); exact ⟨rfl, rfl⟩; apply jjT; exact rfl; rintro w' hq; have g1 := hq.cell hx2; have g2 := hq.cell hy2; refine jG rfl rfl rfl (by omega) (jz ?_); exact ⟨rfl, rfl⟩; apply jjT; exact rfl; rintro w' hq; have g1 := hq.cell hx2; have g2 := hq.cell hy2; refine jR (by assumption) rfl rfl (jz ?_); exact ⟨rfl, rfl⟩; apply jjT; exact rfl; rintro w' hq; have g1 := hq.cell hx2; have g2 := hq.cell hy2; refine jI (eS rfl) (jz ?_); exact ⟨rfl, rfl⟩; apply jjT; exact rfl; rintro w' hq; have g1 := hq.cell hx2; have g2 := hq.cell hy2; refine jI (eI rfl) (jz ?_); exact ⟨rfl, rfl⟩; apply jjT; exact rfl; rintro w' hq; have g1 := hq.cell hx2; have g2 := hq.cell hy2; refine jG rfl rfl rfl (by omega) (jz ?_); exact ⟨rfl, rfl⟩; apply jjT; exact rfl; rintro w' hq; have g1 := hq.cell hx2; have g2 := hq.cell hy2; refine jR (by assumption) rfl rfl (jz ?_); exact ⟨rfl, rfl⟩; refine jjU ?_)))
    apply jjW 9 (by decide +kernel) rfl hS3.ext
    refine jjQ ((hc.only (.ofExt (hS1.ext.trans hS3.ext))).h w3 (.ofExt (.refl w3)) y x hpy hpx) rfl rfl ?_
    rintro _ w4 hS4 rfl
    refine jz ?_
    have hE4 := hS3.ext.trans hS4.ext
    refine jjV [10] (by decide +kernel) hE4 ?_
    (((refine jjT rfl (fun _ _ => jX rfl rfl (jz ⟨rfl, rfl⟩)) (jjU ?_))))
    refine jjX (by decide +kernel) hE4 ?_
    repeat' (first|((first|apply jI|apply jJ); exact eI rfl)|(refine jW (jY rfl rfl (by omega) ?_))|refine jz ?_|(refine jjA (jjC ?_))|(refine jjA ?_; (refine jjN rfl ?_ ?_ <;> intro _)))
    · have := cmp_neg ‹_›
      refine ⟨rfl, by (((iterate 27 refine Same.upd rfl ?_); exact Same.ovN)), _, ?_, inferInstance, q + 1, r, congrArg (Value.int .i64) (by omega), rfl, rfl, by omega, hrV, ?_, hhi⟩
      · omega
      · intro z _ hz; rw [Nat.add_sub_cancel, hg] at hz; cases hz; assumption
    · have := cmp_nn ‹_›
      refine ⟨rfl, by (((iterate 26 refine Same.upd rfl ?_); exact Same.ovN)), _, ?_, inferInstance, p0, q, rfl, rfl, rfl, by omega, by omega, hlo, ?_⟩
      · omega
      · intro z hz; rw [hg] at hz; cases hz; assumption
  · have hpe : r = p0 := by omega
    subst hpe
    have hD1 : SD 3 w1 b n c _ := hD.ext hS1.ext
    refine W.keep0 [(0, _), (10, _), (13, .int .i64 ((X.length + 0 : Nat) : Int))] ⟨eS rfl, eI rfl, congrArg (Value.int .i64) (by omega), trivial⟩ fun s0 => ?_
    clear hD hx0 hget e0
    refine W.loopG (55 :: 56 :: 57 :: 58 :: 61 :: 62 :: 63 :: 64 :: 65 :: 66 :: 67 :: 68 :: 69 :: 70 :: 71 :: 72 :: 73 :: 74 :: 75 :: 76 :: 59 :: 60 :: 13 :: []) (fun gg s' w' => ∃ t : Nat, s' 13 = .int .i64 ((X.length + t : Nat) : Int) ∧ gg = r - t ∧ t ≤ r ∧ Only b w1 w' ∧ SD 3 w' b n c (insL X V Z x t)) r ⟨0, rfl, rfl, Nat.zero_le _, .ofExt (.refl w1), hD1⟩ ?_
    rintro _ d2 w2 ⟨t, h13, rfl, htr, hO2, hD2⟩
    refine W.fix h13 ?_
    clear h13
    repeat' (first|(apply jI; exact eI rfl)|(refine jW ?_; (first|refine jX rfl rfl ?_|refine jZ rfl rfl (by omega) ?_))|refine jz ?_|(refine jjA ?_; (first|refine jjB ?_|refine jjC ?_|refine jjD ?_|refine jjE ?_|refine jjF ?_|refine jjG ?_))|(refine jjA ?_; (refine jjN rfl ?_ ?_ <;> intro _))|refine jA rfl ⟨⟨_, rfl⟩, ?_⟩)
    · have htr' : t < r := by omega
      obtain ⟨y, hx, hy, hs⟩ := insL_up (X := X) (T := V) (R := Z) (x := x) (q := t) (by omega)
      have hlt1 : X.length + t < n := by omega
      have hlt2 : X.length + (t + 1) < n := by omega
      refine W.draw (fun w' => Only b w2 w') ?_
      intro w5 hS5
      have hO02 := hO2
      have hO2 : Only b w2 w5 := .ofExt hS5.ext
      have hD2 : SD 3 w5 b n c _ := hD2.ext hS5.ext
      have hx2 := hD2.get hx
      have hy2 := hD2.get hy
      (refine jjV [0, 1, 2, 3, 4, 5, 6, 7, 8, 10, 11, 12] (by decide +kernel) hO2 ?_; (((refine jjT rfl (fun _ _ => jI (eS rfl) (jz ⟨rfl, rfl⟩)) (jjT rfl (fun _ _ => jI (eI rfl) (jz ⟨rfl, rfl⟩)) (jjT rfl (fun _ _ => jI (eS rfl) (jz ⟨rfl, rfl⟩)) (jjT rfl (fun _ _ => jI (eI rfl) (jz ⟨rfl, rfl⟩)) (jjT rfl (fun _ _ => jY rfl rfl (by omega) (jz ⟨rfl, rfl⟩)) (jjT rfl (fun _ _ => jI (eS rfl) (jz ⟨rfl, rfl⟩)) ?_))))); refine jjT rfl (fun _ _ => jI (eI rfl) (jz ⟨rfl, rfl⟩)) (jjT rfl (fun _ _ => jY rfl rfl (by omega) (jz ⟨rfl, rfl⟩)) ?_); apply jjT; exact rfl; rintro w' hq; refine jG rfl rfl rfl (by omega) (jz ?_); exact ⟨rfl, rfl⟩; refine jjT rfl (fun _ _ => jI (eS rfl) (jz ⟨rfl, rfl⟩)) (jjT rfl (fun _ _ => jI (eI rfl) (jz ⟨rfl, rfl⟩)) ?_); apply jjT; exact rfl; rintro w' hq; refine jG rfl rfl rfl (by omega) (jz ?_); exact ⟨rfl, rfl⟩; refine jjU ?_))); refine jjl 9 13 (by decide +kernel) rfl rfl hO2 ?b1 ?b2; (case b1 => (refine jR hy2 rfl rfl ?_; refine jz ?_; apply jjW 13 (by decide +kernel) rfl hO2; refine jR hx2 rfl rfl ?_; refine jz ?_; (refine jjV [14] (by decide +kernel) hO2 ?_; (((apply jjT; exact rfl; rintro w' hq; refine jG rfl rfl rfl (by omega) (jz ?_); exact ⟨rfl, rfl⟩; refine jjU ?_))); apply jjW 15 (by decide +kernel) rfl hO2; refine OpsD.store (i := X.length + t) hD2 hlt1 rfl (eI rfl) ?_; intro w3 hO3 hD3; refine jz ?_; refine jjV [16] (by decide +kernel) (hO2.trans hO3) ?_; (((apply jjT; exact rfl; rintro w' hq; refine jG rfl rfl rfl (by omega) (jz ?_); exact ⟨rfl, rfl⟩; refine jjU ?_))); apply jjW 17 (by decide +kernel) rfl (hO2.trans hO3); refine OpsD.store (i := X.length + (t + 1)) hD3 hlt2 rfl (eI rfl) ?_; intro w4 hO4 hD4; refine jz ?_; rw [hs] at hD4; refine jjX (by decide +kernel) (hO2.trans (hO3.trans hO4)) ?_); ((refine jjC (jI (eI rfl) (jY rfl rfl (by omega) (jJ (eI rfl) (jz ?_)))))); (exact ⟨rfl, by (repeat' (first|exact Same.ovN|refine Same.upd rfl ?_)), r - (t + 1), by omega, t + 1, congrArg (Value.int .i64) (by omega), rfl, by omega, hO02.trans (hO2.trans (hO3.trans hO4)), hD4⟩))); (case b2 => (refine jR hx2 rfl rfl ?_; refine jz ?_; apply jjW 9 (by decide +kernel) rfl hO2; refine jR hy2 rfl rfl ?_; refine jz ?_; (refine jjV [14] (by decide +kernel) hO2 ?_; ((repeat' (first|(apply jjT; exact rfl)|rintro w' hq|(refine jE (jG rfl rfl rfl (by omega) ?_))|refine jz ?_|exact ⟨rfl, rfl⟩|refine jjU ?_))); apply jjW 15 (by decide +kernel) rfl hO2; refine OpsD.store (i := X.length + t) hD2 hlt1 rfl (eI rfl) ?_; intro w3 hO3 hD3; refine jz ?_; refine jjV [16] (by decide +kernel) (hO2.trans hO3) ?_; ((repeat' (first|(apply jjT; exact rfl)|rintro w' hq|(refine jE (jG rfl rfl rfl (by omega) ?_))|refine jz ?_|exact ⟨rfl, rfl⟩|refine jjU ?_))); apply jjW 17 (by decide +kernel) rfl (hO2.trans hO3); refine OpsD.store (i := X.length + (t + 1)) hD3 hlt2 rfl (eI rfl) ?_; intro w4 hO4 hD4; refine jz ?_; rw [hs] at hD4; refine jjX (by decide +kernel) (hO2.trans (hO3.trans hO4)) ?_); (repeat' (first|((first|apply jI|apply jJ); exact eI rfl)|(refine jW (jY rfl rfl (by omega) ?_))|refine jz ?_|(refine jjA (jjC ?_)))); (exact ⟨rfl, by (repeat' (first|exact Same.ovN|refine Same.upd rfl ?_)), r - (t + 1), by omega, t + 1, congrArg (Value.int .i64) (by omega), rfl, by omega, hO02.trans (hO2.trans (hO3.trans hO4)), hD4⟩))))
    · have hte : t = r := by omega
      subst hte
      refine ⟨(Only.ofExt hS1.ext).trans hO2, ?_⟩
      have htd := List.take_append_drop t V
      have := ssort_front (k := k) (a := V.take t) (b := V.drop t) (x := x) (by rw [htd]; exact hsV) ?_ ?_
      · rw [htd] at this
        rw [this]
        rw [insL] at hD2
        simp only [List.append_assoc, List.cons_append, List.nil_append] at hD2 ⊢
        exact hD2
      · intro y hy
        obtain ⟨i, hi, hg⟩ := mem_take_get hy
        have hl := List.getElem?_eq_getElem (l := V) (i := t - 1) (by omega)
        have h1 := hlo _ (by omega) hl
        have h2 := srt_get hsV hg hl (by omega)
        omega
      · intro y hy
        obtain ⟨i, hi, hg⟩ := mem_drop_get hy
        have hiV := (List.getElem?_eq_some_iff.1 hg).1
        have hl := List.getElem?_eq_getElem (l := V) (i := t) (by omega)
        have h1 := hhi _ hl
        have h2 := srt_get hsV hl hg hi
        omega

set_option maxHeartbeats 4000000 in
theorem symB_int (X U Z : List Int) (x : Int) (w : World) (hpx : p x) (hp : ∀ y ∈ U, p y) (hU : 1 < U.length) (hsU : Srt k U) (hl : n ≤ 1000000) (hD : SD 3 w b n c (X ++ U ++ [x] ++ Z)) (hc : CmpE Tryz.prog g cap k b w p) (i1 i2 i3 : Int) (h1 : i1 = X.length) (h2 : i2 = X.length + U.length) (h3 : i3 = X.length + U.length + 1) :
    Calls Tryz.prog 142 [.slice (some ⟨b, 0, none⟩) n c, .int .i64 i1, .int .i64 i2, .int .i64 i3, .func (.func g) #[] cap.toArray].toArray w fun e w' => (∃ v, e = .returned v) ∧ Only b w w' ∧ SD 3 w' b n c (X ++ ssort k (U ++ [x]) ++ Z) := by
  have hn : n = X.length + U.length + 1 + Z.length := by have := hD.1; simp at this; omega
  have e0 : X ++ U ++ [x] ++ Z = insL X U Z x U.length := by rw [insL_end]; simp
  rw [e0] at hD
  have hx0 : (insL X U Z x U.length)[X.length + U.length]? = some x := by rw [insL_end]; exact get_mid (by simp)
  have hget : ∀ q y, U[q]? = some y → (insL X U Z x U.length)[X.length + q]? = some y := by
    intro q y hy
    have hq := (List.getElem?_eq_some_iff.1 hy).1
    rw [insL_end, List.getElem?_append_left (by simp; omega), List.getElem?_append_right (by omega), Nat.add_sub_cancel_left, hy]
  refine Calls.ofW (by simp) ?_
  subst h1 h2 h3
  (refine jjB (jjB (jjC (jI (eI rfl) (jI (eI rfl) (jZ rfl rfl (by omega) ?_))))); refine jji rfl rfl (by omega) (jz (jjK rfl (jjG (jjB (jjB ?_))))); refine jjC (jI (eI rfl) (jI (eI rfl) (jZ rfl rfl (by omega) (jjh rfl rfl (by omega) (jz ?_))))); refine jjJ rfl (jjB (jjC (jI (eI rfl) (jJ (eI rfl) (jz ?_))))); refine jjB (jjC (jI (eI rfl) (jJ (eI rfl) (jz (jjB ?_))))); refine jjD ?_)
  refine W.loop (83 :: 84 :: 85 :: 86 :: 87 :: 88 :: 89 :: 90 :: 91 :: 16 :: 92 :: 93 :: 94 :: 95 :: 96 :: 97 :: 98 :: 99 :: 100 :: 101 :: 102 :: 103 :: 104 :: 105 :: 14 :: 106 :: 15 :: []) (fun gg s' w' => ∃ p r : Nat, s' 14 = .int .i64 ((X.length + p : Nat) : Int) ∧ s' 15 = .int .i64 ((X.length + r : Nat) : Int) ∧ gg = r - p ∧ p ≤ r ∧ r ≤ U.length ∧ (∀ y, p ≠ 0 → U[p - 1]? = some y → k y ≤ k x) ∧ (∀ y, U[r]? = some y → k x < k y)) U.length ⟨0, U.length, congrArg (Value.int .i64) (by omega), congrArg (Value.int .i64) (by omega), by omega, Nat.zero_le _, Nat.le_refl _, by intro y h; exact absurd rfl h, by intro y h; simp at h⟩ ?_
  rintro _ d w1 hS1 ⟨p0, r, h14, h15, rfl, hpr, hrV, hlo, hhi⟩
  refine W.fix h14 (W.fix (d := 15) h15 ?_)
  clear h14 h15
  have hcm : ((X.length : Int) + U.length) = ((X.length + U.length : Nat) : Int) := by omega
  repeat' (first|((first|apply jI|apply jJ); exact eI rfl)|(refine jW ?_; (first|refine jX rfl rfl ?_|refine jY rfl rfl (by omega) ?_))|refine jz ?_|(refine jjA ?_; (first|refine jjB ?_|refine jjC ?_|refine jjD ?_|refine jjE ?_|refine jjG ?_))|(refine jjA ?_; (refine jjN rfl ?_ ?_ <;> intro _)))
  · refine Ops.convI rfl rfl (wrap64 (by omega) (by omega)) ?_
    refine Ops.half (a := 2 * X.length + p0 + r) rfl (by omega) rfl ?_
    refine Ops.convI rfl rfl (wrapi (by omega) (by omega)) ?_
    obtain ⟨q, hq⟩ : ∃ q, (2 * X.length + p0 + r) / 2 = X.length + q := ⟨(2 * X.length + p0 + r) / 2 - X.length, by omega⟩
    have hq1 : p0 ≤ q := by omega
    have hq2 : q < r := by omega
    refine Ops.fix (d := 91) (v := .int .i64 ((X.length + q : Nat) : Int)) (congrArg (Value.int .i64) (congrArg Nat.cast hq)) ?_
    clear hq
    have hqU : q < U.length := by omega
    have hg := List.getElem?_eq_getElem hqU
    have hD1 : SD 3 w1 b n c _ := hD.ext hS1.ext
    have hx2 := hD1.get hx0
    have hy2 := hD1.get (hget q _ hg)
    generalize hye : U[q] = y at hg hy2
    have hpy : p y := hp _ (List.mem_of_getElem? hg)
    (refine jJ (eI rfl) (jz (jjB ?_)))
    refine W.draw (fun w' => Ext w1 w') ?_
    intro w3 hS3
    refine jjV [0, 1, 2, 3, 4, 5, 6, 7, 8] (by decide +kernel) hS3.ext ?_
    (((apply jjT; exact rfl; rintro w' hq; have g1 := hq.cell hx2; have g2 := hq.cell hy2; refine jI (eF rfl) (jz ?_); exact ⟨rfl, rfl⟩; apply jjT; exact rfl; rintro w' hq; have g1 := hq.cell hx2; have g2 := hq.cell hy2; refine jI (eS rfl) (jz ?_); exact ⟨rfl, rfl⟩; apply jjT; exact rfl; rintro w' hq; have g1 := hq.cell hx2; have g2 := hq.cell hy2; refine jI (eI rfl) (jz ?_); exact ⟨rfl, rfl⟩; apply jjT; exact rfl; rintro w' hq; have g1 := hq.cell hx2; have g2 := hq.cell hy2; refine jG rfl rfl rfl (by omega) (jz ?_); exact ⟨rfl, rfl⟩; apply jjT; exact rfl; rintro w' hq; have g1 := hq.cell hx2; have g2 := hq.cell hy2; refine jR (by assumption) rfl rfl (jz ?_); exact ⟨rfl, rfl⟩; apply jjT; exact rfl; rintro w' hq; have g1 := hq.cell hx2; have g2 := hq.cell hy2; refine jI (eS rfl) (jz ?_); exact ⟨rfl, rfl⟩; apply jjT; exact rfl; rintro w' hq; have g1 := hq.cell hx2; have g2 := hq.cell hy2; refine jI (eI rfl) (jz ?_); exact ⟨rfl, rfl⟩; apply jjT; exact rfl; rintro w' hq; have g1 := hq.cell hx2; have g2 := hq.cell hy2; refine jG rfl rfl rfl (by omega) (jz ?_); exact ⟨rfl, rfl⟩; apply jjT; exact rfl; rintro w' hq; have g1 := hq.cell hx2; have g2 := hq.cell hy2; refine jR (by assumption) rfl rfl (jz ?_); exact ⟨rfl, rfl⟩; refine jjU ?_)))
    apply jjW 9 (by decide +kernel) rfl hS3.ext
    refine jjQ ((hc.only (.ofExt (hS1.ext.trans hS3.ext))).h w3 (.ofExt (.refl w3)) x y hpx hpy) rfl rfl ?_
    rintro _ w4 hS4 rfl
    refine jz ?_
    have hE4 := hS3.ext.trans hS4.ext
    refine jjV [10, 11] (by decide +kernel) hE4 ?_
    (((refine jjT rfl (fun _ _ => jX rfl rfl (jz ⟨rfl, rfl⟩)) (jjT rfl (fun _ _ => jr rfl (jz ⟨rfl, rfl⟩)) (jjU ?_)))))
    refine jjX (by decide +kernel) hE4 ?_
    repeat' (first|((first|apply jI|apply jJ); exact eI rfl)|(refine jW (jY rfl rfl (by omega) ?_))|refine jz ?_|(refine jjA (jjC ?_))|(refine jjA ?_; (refine jjN rfl ?_ ?_ <;> intro _)))
    · have := cmp_nn ‹_›
      refine ⟨rfl, by (((iterate 28 refine Same.upd rfl ?_); exact Same.ovN)), _, ?_, inferInstance, q + 1, r, congrArg (Value.int .i64) (by omega), rfl, rfl, by omega, hrV, ?_, hhi⟩
      · omega
      · intro z _ hz; rw [Nat.add_sub_cancel, hg] at hz; cases hz; assumption
    · have := cmp_neg (Decidable.not_not.1 ‹_›)
      refine ⟨rfl, by (((iterate 27 refine Same.upd rfl ?_); exact Same.ovN)), _, ?_, inferInstance, p0, q, rfl, rfl, rfl, by omega, by omega, hlo, ?_⟩
      · omega
      · intro z hz; rw [hg] at hz; cases hz; assumption
  · have hpe : r = p0 := by omega
    subst hpe
    have hD1 : SD 3 w1 b n c _ := hD.ext hS1.ext
    refine W.keep0 [(0, _), (14, _), (17, .int .i64 ((X.length + U.length : Nat) : Int))] ⟨eS rfl, eI rfl, congrArg (Value.int .i64) (by omega), trivial⟩ fun s0 => ?_
    clear hD hx0 hget e0 hcm
    refine W.loopG (108 :: 109 :: 110 :: 113 :: 114 :: 115 :: 116 :: 117 :: 118 :: 119 :: 120 :: 121 :: 122 :: 123 :: 124 :: 125 :: 126 :: 127 :: 128 :: 111 :: 112 :: 17 :: []) (fun gg s' w' => ∃ t : Nat, s' 17 = .int .i64 ((X.length + t : Nat) : Int) ∧ gg = t + 1 ∧ r ≤ t ∧ t ≤ U.length ∧ Only b w1 w' ∧ SD 3 w' b n c (insL X U Z x t)) (U.length + 1) ⟨U.length, rfl, rfl, hrV, Nat.le_refl _, .ofExt (.refl w1), hD1⟩ ?_
    rintro _ d2 w2 ⟨t, h17, rfl, hrt, htU, hO2, hD2⟩
    refine W.fix h17 ?_
    clear h17
    repeat' (first|(apply jI; exact eI rfl)|(refine jW (je rfl rfl ?_))|refine jz ?_|(refine jjA ?_; (first|refine jjB ?_|refine jjC ?_|refine jjD ?_|refine jjE ?_|refine jjF ?_|refine jjG ?_))|(refine jjA ?_; (refine jjN rfl ?_ ?_ <;> intro _))|refine jA rfl ⟨⟨_, rfl⟩, ?_⟩)
    · obtain ⟨q, rfl⟩ : ∃ q, t = q + 1 := ⟨t - 1, by omega⟩
      have hrq : r ≤ q := by omega
      obtain ⟨y, _, hy, hx, hs⟩ := insL_step (X := X) (T := U) (R := Z) (x := x) (q := q) (by omega)
      have hlt1 : X.length + (q + 1) < n := by omega
      have hlt2 : X.length + q < n := by omega
      have hq1 : ((X.length + (q + 1) : Nat) : Int) - 1 = ((X.length + q : Nat) : Int) := by omega
      refine W.draw (fun w' => Only b w2 w') ?_
      intro w5 hS5
      have hO02 := hO2
      have hO2 : Only b w2 w5 := .ofExt hS5.ext
      have hD2 : SD 3 w5 b n c _ := hD2.ext hS5.ext
      have hx2 := hD2.get hx
      have hy2 := hD2.get hy
      (refine jjV [0, 1, 2, 3, 4, 5, 6, 7, 8, 10, 11, 12] (by decide +kernel) hO2 ?_; (((refine jjT rfl (fun _ _ => jI (eS rfl) (jz ⟨rfl, rfl⟩)) (jjT rfl (fun _ _ => jI (eI rfl) (jz ⟨rfl, rfl⟩)) (jjT rfl (fun _ _ => jI (eS rfl) (jz ⟨rfl, rfl⟩)) (jjT rfl (fun _ _ => jI (eI rfl) (jz ⟨rfl, rfl⟩)) (jjT rfl (fun _ _ => jZ rfl rfl (by omega) (jz ⟨rfl, rfl⟩)) (jjT rfl (fun _ _ => jI (eS rfl) (jz ⟨rfl, rfl⟩)) ?_))))); refine jjT rfl (fun _ _ => jI (eI rfl) (jz ⟨rfl, rfl⟩)) (jjT rfl (fun _ _ => jZ rfl rfl (by omega) (jz ⟨rfl, rfl⟩)) ?_); apply jjT; exact rfl; rintro w' hq; refine jG rfl rfl (by assumption) (by omega) (jz ?_); exact ⟨rfl, rfl⟩; refine jjT rfl (fun _ _ => jI (eS rfl) (jz ⟨rfl, rfl⟩)) (jjT rfl (fun _ _ => jI (eI rfl) (jz ⟨rfl, rfl⟩)) ?_); apply jjT; exact rfl; rintro w' hq; refine jG rfl rfl rfl (by omega) (jz ?_); exact ⟨rfl, rfl⟩; refine jjU ?_))); refine jjl 9 13 (by decide +kernel) rfl rfl hO2 ?b1 ?b2; (case b1 => (refine jR hy2 rfl rfl ?_; refine jz ?_; apply jjW 13 (by decide +kernel) rfl hO2; refine jR hx2 rfl rfl ?_; refine jz ?_; (refine jjV [14] (by decide +kernel) hO2 ?_; (((apply jjT; exact rfl; rintro w' hq; refine jG rfl rfl rfl (by omega) (jz ?_); exact ⟨rfl, rfl⟩; refine jjU ?_))); apply jjW 15 (by decide +kernel) rfl hO2; refine OpsD.store (i := X.length + (q + 1)) hD2 hlt1 rfl (eI rfl) ?_; intro w3 hO3 hD3; refine jz ?_; refine jjV [16] (by decide +kernel) (hO2.trans hO3) ?_; (((apply jjT; exact rfl; rintro w' hq; refine jG rfl rfl (by assumption) (by omega) (jz ?_); exact ⟨rfl, rfl⟩; refine jjU ?_))); apply jjW 17 (by decide +kernel) rfl (hO2.trans hO3); refine OpsD.store (i := X.length + q) hD3 hlt2 rfl (eI rfl) ?_; intro w4 hO4 hD4; refine jz ?_; rw [hs] at hD4; refine jjX (by decide +kernel) (hO2.trans (hO3.trans hO4)) ?_); ((refine jjC (jI (eI rfl) (jZ rfl rfl (by omega) (jJ (eI rfl) (jz ?_)))))); (exact ⟨rfl, by (repeat' (first|exact Same.ovN|refine Same.upd rfl ?_)), q + 1, by omega, q, congrArg (Value.int .i64) (by omega), rfl, hrq, by omega, hO02.trans (hO2.trans (hO3.trans hO4)), hD4⟩))); (case b2 => (refine jR hx2 rfl rfl ?_; refine jz ?_; apply jjW 9 (by decide +kernel) rfl hO2; refine jR hy2 rfl rfl ?_; refine jz ?_; (refine jjV [14] (by decide +kernel) hO2 ?_; ((repeat' (first|(apply jjT; exact rfl)|rintro w' hq|(refine jE (jG rfl rfl rfl (by omega) ?_))|refine jz ?_|exact ⟨rfl, rfl⟩|refine jjU ?_))); apply jjW 15 (by decide +kernel) rfl hO2; refine OpsD.store (i := X.length + (q + 1)) hD2 hlt1 rfl (eI rfl) ?_; intro w3 hO3 hD3; refine jz ?_; refine jjV [16] (by decide +kernel) (hO2.trans hO3) ?_; ((repeat' (first|(apply jjT; exact rfl)|rintro w' hq|(refine jE (jG rfl rfl (by assumption) (by omega) ?_))|refine jz ?_|exact ⟨rfl, rfl⟩|refine jjU ?_))); apply jjW 17 (by decide +kernel) rfl (hO2.trans hO3); refine OpsD.store (i := X.length + q) hD3 hlt2 rfl (eI rfl) ?_; intro w4 hO4 hD4; refine jz ?_; rw [hs] at hD4; refine jjX (by decide +kernel) (hO2.trans (hO3.trans hO4)) ?_); (repeat' (first|((first|apply jI|apply jJ); exact eI rfl)|(refine jW (jZ rfl rfl (by omega) ?_))|refine jz ?_|(refine jjA (jjC ?_)))); (exact ⟨rfl, by (repeat' (first|exact Same.ovN|refine Same.upd rfl ?_)), q + 1, by omega, q, congrArg (Value.int .i64) (by omega), rfl, hrq, by omega, hO02.trans (hO2.trans (hO3.trans hO4)), hD4⟩))))
    · have hte : t = r := by omega
      subst hte
      refine ⟨(Only.ofExt hS1.ext).trans hO2, ?_⟩
      have htd := List.take_append_drop t U
      have := ssort_snoc (k := k) (a := U.take t) (b := U.drop t) (x := x) (by rw [htd]; exact hsU) ?_ ?_
      · rw [htd] at this
        rw [this]
        rw [insL] at hD2
        simp only [List.append_assoc, List.cons_append, List.nil_append] at hD2 ⊢
        exact hD2
      · intro y hy
        obtain ⟨i, hi, hg⟩ := mem_drop_get hy
        have hiV := (List.getElem?_eq_some_iff.1 hg).1
        have hl := List.getElem?_eq_getElem (l := U) (i := t) (by omega)
        have h1 := hhi _ hl
        have h2 := srt_get hsU hl hg hi
        omega
      · intro y hy
        obtain ⟨i, hi, hg⟩ := mem_take_get hy
        have hl := List.getElem?_eq_getElem (l := U) (i := t - 1) (by omega)
        have h1 := hlo _ (by omega) hl
        have h2 := srt_get hsU hg hl (by omega)
        omega
end

section
variable (b n c g : Nat) (cap : List Value) (k : Int → Int) (p : Int → Prop) [he : Enters Tryz.prog g]
set_option maxHeartbeats 8000000 in
theorem symC_int (N : Nat) (ih : ∀ (X U V Z : List Int) (w : World) (i1 i2 i3 : Int), U.length + V.length < N → 0 < U.length → 0 < V.length → Srt k U → Srt k V → (∀ x ∈ U, p x) → (∀ x ∈ V, p x) → SD 3 w b n c (X ++ U ++ V ++ Z) → CmpE Tryz.prog g cap k b w p → i1 = X.length → i2 = X.length + U.length → i3 = X.length + U.length + V.length →
      Calls Tryz.prog 142 [.slice (some ⟨b, 0, none⟩) n c, .int .i64 i1, .int .i64 i2, .int .i64 i3, .func (.func g) #[] cap.toArray].toArray w fun e w' => (∃ v, e = .returned v) ∧ Only b w w' ∧ SD 3 w' b n c (X ++ ssort k (U ++ V) ++ Z))
    (X U V Z : List Int) (w : World) (hN : U.length + V.length = N) (hU : 1 < U.length) (hV : 1 < V.length) (hsU : Srt k U) (hsV : Srt k V) (hpU : ∀ x ∈ U, p x) (hpV : ∀ x ∈ V, p x) (hl : n ≤ 1000000) (hD : SD 3 w b n c (X ++ U ++ V ++ Z)) (hc : CmpE Tryz.prog g cap k b w p) (i1 i2 i3 : Int) (h1 : i1 = X.length) (h2 : i2 = X.length + U.length) (h3 : i3 = X.length + U.length + V.length) :
    Calls Tryz.prog 142 [.slice (some ⟨b, 0, none⟩) n c, .int .i64 i1, .int .i64 i2, .int .i64 i3, .func (.func g) #[] cap.toArray].toArray w fun e w' => (∃ v, e = .returned v) ∧ Only b w w' ∧ SD 3 w' b n c (X ++ ssort k (U ++ V) ++ Z) := by
  have hn : n = X.length + U.length + V.length + Z.length := by have := hD.1; simp at this; omega
  have hgU : ∀ q y, U[q]? = some y → (X ++ U ++ V ++ Z)[X.length + q]? = some y := by
    intro q y hy
    have hq := (List.getElem?_eq_some_iff.1 hy).1
    rw [List.append_assoc, List.append_assoc, List.getElem?_append_right (by omega), Nat.add_sub_cancel_left, List.getElem?_append_left hq, hy]
  have hgV : ∀ q y, V[q]? = some y → (X ++ U ++ V ++ Z)[X.length + U.length + q]? = some y := by
    intro q y hy
    have hq := (List.getElem?_eq_some_iff.1 hy).1
    rw [List.append_assoc, List.getElem?_append_right (by simp), List.length_append, Nat.add_sub_cancel_left, List.getElem?_append_left hq, hy]
  obtain ⟨h, hh⟩ : ∃ h, h = (U.length + V.length) / 2 := ⟨_, rfl⟩
  obtain ⟨s0, r0, hsr⟩ : ∃ s0 r0, (h < U.length ∧ s0 = h - V.length ∧ r0 = h) ∨ (U.length ≤ h ∧ s0 = 0 ∧ r0 = U.length) := by
    rcases Nat.lt_or_ge h U.length with e | e
    · exact ⟨_, _, .inl ⟨e, rfl, rfl⟩⟩
    · exact ⟨_, _, .inr ⟨e, rfl, rfl⟩⟩
  refine Calls.ofW (by simp) ?_
  subst h1 h2 h3
  (refine jjB (jjB (jjC (jI (eI rfl) (jI (eI rfl) (jZ rfl rfl (by omega) ?_))))); refine jji rfl rfl (by omega) (jz (jjK rfl (jjG (jjB (jjB ?_))))); refine jjC (jI (eI rfl) (jI (eI rfl) (jZ rfl rfl (by omega) (jji rfl rfl (by omega) (jz ?_))))); refine jjK rfl (jjG (jjB (jjC (jI (eI rfl) (jI (eI rfl) ?_))))); refine jY rfl rfl (by omega) ?_)
  refine Ops.convI rfl rfl (wrap64 (by omega) (by omega)) ?_
  refine Ops.half (a := 2 * X.length + U.length + V.length) rfl (by omega) rfl ?_
  refine Ops.convI rfl rfl (wrapi (by omega) (by omega)) ?_
  refine Ops.fix (d := 134) (v := .int .i64 ((X.length + h : Nat) : Int)) (congrArg (Value.int .i64) (by omega)) ?_
  (refine jJ (eI rfl) (jz (jjB (jjC (jI (eI rfl) (jI (eI rfl) ?_))))); refine jY rfl rfl (by omega) (jJ (eI rfl) (jz (jjB (jjC (jJ (eI rfl) ?_))))); refine jJ (eI rfl) (jz (jjB (jjB (jjC (jI (eI rfl) ?_))))); refine jI (eI rfl) (je rfl rfl (jz ?_)))
  refine jjA ?_
  refine W.cutL [(0, .slice (some ⟨b, 0, none⟩) n c), (1, .int .i64 ((X.length : Nat) : Int)), (2, .int .i64 ((X.length + U.length : Nat) : Int)), (3, .int .i64 ((X.length + U.length + V.length : Nat) : Int)), (4, .func (.func g) #[] cap.toArray), (18, .int .i64 ((X.length + h : Nat) : Int)), (19, .int .i64 ((2 * X.length + U.length + h : Nat) : Int)), (20, .int .i64 ((X.length + s0 : Nat) : Int)), (21, .int .i64 ((X.length + r0 : Nat) : Int))] (fun w' => w' = w) ?_ ?_
  · repeat' (first|((first|apply jI|apply jJ); exact eI rfl)|(refine jW (jZ rfl rfl (by omega) ?_))|refine jz ?_|(refine jjA ?_; (first|refine jjB ?_|refine jjC ?_))|(refine jjA ?_; (refine jjN rfl ?_ ?_ <;> intro _)))
    · refine ⟨rfl, ⟨eS rfl, eI rfl, congrArg (Value.int .i64) (by omega), congrArg (Value.int .i64) (by omega), eF rfl, eI rfl, congrArg (Value.int .i64) (by omega), congrArg (Value.int .i64) (by omega), congrArg (Value.int .i64) (by omega), trivial⟩, rfl⟩
    · refine ⟨rfl, ⟨eS rfl, eI rfl, congrArg (Value.int .i64) (by omega), congrArg (Value.int .i64) (by omega), eF rfl, eI rfl, congrArg (Value.int .i64) (by omega), congrArg (Value.int .i64) (by omega), congrArg (Value.int .i64) (by omega), trivial⟩, rfl⟩
  rintro sl _ rfl
  (refine jjB (jjC (jI (eI rfl) (jZ rfl rfl (by omega) (jJ (eI rfl) (jz ?_))))); refine jjB (jjD ?_))
  refine W.keep0 [(0, .slice (some ⟨b, 0, none⟩) n c), (1, .int .i64 ((X.length : Nat) : Int)), (2, .int .i64 ((X.length + U.length : Nat) : Int)), (3, .int .i64 ((X.length + U.length + V.length : Nat) : Int)), (4, .func (.func g) #[] cap.toArray), (18, .int .i64 ((X.length + h : Nat) : Int)), (19, .int .i64 ((2 * X.length + U.length + h : Nat) : Int)), (20, .int .i64 ((X.length + s0 : Nat) : Int)), (21, .int .i64 ((X.length + r0 : Nat) : Int)), (22, .int .i64 ((2 * X.length + U.length + h - 1 : Nat) : Int))] ⟨eS rfl, eI rfl, eI rfl, eI rfl, eF rfl, eI rfl, eI rfl, eI rfl, eI rfl, congrArg (Value.int .i64) (by omega), trivial⟩ fun sm => ?_
  have hsr0 : s0 ≤ r0 ∧ r0 ≤ h ∧ r0 ≤ U.length ∧ (∀ q, s0 ≤ q → q < r0 → h - 1 - q < V.length) ∧ (s0 = 0 ∨ h - s0 = V.length) ∧ (r0 = U.length ∨ r0 = h) := by
    rcases hsr with ⟨a1, a2, a3⟩ | ⟨a1, a2, a3⟩
    · exact ⟨by omega, by omega, by omega, by intros; omega, by omega, .inr a3⟩
    · exact ⟨by omega, by omega, by omega, by intros; omega, .inl a2, .inl a3⟩
  obtain ⟨hs1, hs2, hs3, hs4, hs5, hs6⟩ := hsr0
  clear hsr
  refine W.loop (149 :: 150 :: 151 :: 152 :: 153 :: 154 :: 155 :: 156 :: 157 :: 23 :: 158 :: 159 :: 160 :: 161 :: 162 :: 163 :: 164 :: 165 :: 166 :: 167 :: 168 :: 169 :: 170 :: 171 :: 172 :: 173 :: 20 :: 174 :: 21 :: []) (fun gg s' w' => ∃ q1 q2 : Nat, s' 20 = .int .i64 ((X.length + q1 : Nat) : Int) ∧ s' 21 = .int .i64 ((X.length + q2 : Nat) : Int) ∧ gg = q2 - q1 ∧ s0 ≤ q1 ∧ q1 ≤ q2 ∧ q2 ≤ r0 ∧ (∀ y z, s0 < q1 → U[q1 - 1]? = some y → V[h - q1]? = some z → k y ≤ k z) ∧ (∀ y z, q2 < r0 → U[q2]? = some y → V[h - 1 - q2]? = some z → k z < k y)) (r0 - s0) ⟨s0, r0, rfl, rfl, rfl, Nat.le_refl _, hs1, Nat.le_refl _, by intros; omega, by intros; omega⟩ ?_
  rintro _ d w1 hS1 ⟨q1, q2, h20, h21, rfl, hq01, hq12, hq2r, hlo, hhi⟩
  refine W.fix h20 (W.fix (d := 21) h21 ?_)
  clear h20 h21
  have hD1 : SD 3 w1 b n c _ := hD.ext hS1.ext
  (refine jjB (jjB (jjC (jI (eI rfl) (jI (eI rfl) (jX rfl rfl ?_))))); refine jz ?_)
  refine jjA ?_
  refine jjN rfl ?_ ?_ <;> intro _
  · (refine jjG (jjD (jjB (jjC (jI (eI rfl) (jI (eI rfl) ?_))))); refine jY rfl rfl (by omega) ?_)
    refine Ops.convI rfl rfl (wrap64 (by omega) (by omega)) ?_
    refine Ops.half (a := 2 * X.length + q1 + q2) rfl (by omega) rfl ?_
    refine Ops.convI rfl rfl (wrapi (by omega) (by omega)) ?_
    obtain ⟨q, hq⟩ : ∃ q, (2 * X.length + q1 + q2) / 2 = X.length + q := ⟨(2 * X.length + q1 + q2) / 2 - X.length, by omega⟩
    have hq1 : q1 ≤ q := by omega
    have hq2 : q < q2 := by omega
    refine Ops.fix (d := 157) (v := .int .i64 ((X.length + q : Nat) : Int)) (congrArg (Value.int .i64) (congrArg Nat.cast hq)) ?_
    clear hq
    have hqU : q < U.length := by omega
    have hqV : h - 1 - q < V.length := hs4 q (by omega) (by omega)
    have hgu := List.getElem?_eq_getElem hqU
    have hgv := List.getElem?_eq_getElem hqV
    have hx2 := hD1.get (hgU q _ hgu)
    have hy2 := hD1.get (hgV _ _ hgv)
    generalize hye : U[q] = y at hgu hx2
    generalize hze : V[h - 1 - q] = z at hgv hy2
    have hpy : p y := hpU _ (List.mem_of_getElem? hgu)
    have hpz : p z := hpV _ (List.mem_of_getElem? hgv)
    clear hye hze
    have hix : ((2 * X.length + U.length + h - 1 : Nat) : Int) - ((X.length + q : Nat) : Int) = ((X.length + U.length + (h - 1 - q) : Nat) : Int) := by omega
    (refine jJ (eI rfl) (jz (jjB ?_)))
    refine W.draw (fun w' => Ext w1 w') ?_
    intro w3 hS3
    refine jjV [0, 1, 2, 3, 4, 5, 6, 7, 8, 9, 10] (by decide +kernel) hS3.ext ?_
    (((apply jjT; exact rfl; rintro w' hq; have g1 := hq.cell hx2; have g2 := hq.cell hy2; refine jI (eF rfl) (jz ?_); exact ⟨rfl, rfl⟩; apply jjT; exact rfl; rintro w' hq; have g1 := hq.cell hx2; have g2 := hq.cell hy2; refine jI (eS rfl) (jz ?_); exact ⟨rfl, rfl⟩; apply jjT; exact rfl; rintro w' hq; have g1 := hq.cell hx2; have g2 := hq.cell hy2; refine jI (eI rfl) (jz ?_); exact ⟨rfl, rfl⟩; apply jjT; exact rfl; rintro w' hq; have g1 := hq.cell hx2; have g2 := hq.cell hy2; refine jI (eI rfl) (jz ?_); exact ⟨rfl, rfl⟩; apply jjT; exact rfl; rintro w' hq; have g1 := hq.cell hx2; have g2 := hq.cell hy2; refine jZ rfl rfl (by omega) (jz ?_); exact ⟨rfl, rfl⟩; apply jjT; exact rfl; rintro w' hq; have g1 := hq.cell hx2; have g2 := hq.cell hy2; refine jG rfl rfl (by assumption) (by omega) (jz ?_); exact ⟨rfl, rfl⟩; apply jjT; exact rfl; rintro w' hq; have g1 := hq.cell hx2; have g2 := hq.cell hy2; refine jR (by assumption) rfl rfl (jz ?_); exact ⟨rfl, rfl⟩; apply jjT; exact rfl; rintro w' hq; have g1 := hq.cell hx2; have g2 := hq.cell hy2; refine jI (eS rfl) (jz ?_); exact ⟨rfl, rfl⟩; apply jjT; exact rfl; rintro w' hq; have g1 := hq.cell hx2; have g2 := hq.cell hy2; refine jI (eI rfl) (jz ?_); exact ⟨rfl, rfl⟩; apply jjT; exact rfl; rintro w' hq; have g1 := hq.cell hx2; have g2 := hq.cell hy2; refine jG rfl rfl rfl (by omega) (jz ?_); exact ⟨rfl, rfl⟩; apply jjT; exact rfl; rintro w' hq; have g1 := hq.cell hx2; have g2 := hq.cell hy2; refine jR (by assumption) rfl rfl (jz ?_); exact ⟨rfl, rfl⟩; refine jjU ?_)))
    apply jjW 11 (by decide +kernel) rfl hS3.ext
    refine jjQ ((hc.only (.ofExt (hS1.ext.trans hS3.ext))).h w3 (.ofExt (.refl w3)) z y hpz hpy) rfl rfl ?_
    rintro _ w4 hS4 rfl
    refine jz ?_
    have hE4 := hS3.ext.trans hS4.ext
    refine jjV [12, 13] (by decide +kernel) hE4 ?_
    (((refine jjT rfl (fun _ _ => jX rfl rfl (jz ⟨rfl, rfl⟩)) (jjT rfl (fun _ _ => jr rfl (jz ⟨rfl, rfl⟩)) (jjU ?_)))))
    refine jjX (by decide +kernel) hE4 ?_
    repeat' (first|((first|apply jI|apply jJ); exact eI rfl)|(refine jW (jY rfl rfl (by omega) ?_))|refine jz ?_|(refine jjA (jjC ?_))|(refine jjA ?_; (refine jjN rfl ?_ ?_ <;> intro _)))
    · have := cmp_nn ‹_›
      refine ⟨rfl, by (((iterate 30 refine Same.upd rfl ?_); exact Same.ovN)), _, ?_, inferInstance, q + 1, q2, congrArg (Value.int .i64) (by omega), rfl, rfl, by omega, by omega, hq2r, ?_, hhi⟩
      · omega
      · intro y' z' _ hy' hz'
        rw [Nat.add_sub_cancel, hgu] at hy'
        rw [show h - (q + 1) = h - 1 - q from by omega, hgv] at hz'
        cases hy'; cases hz'; assumption
    · have := cmp_neg (Decidable.not_not.1 ‹_›)
      refine ⟨rfl, by (((iterate 29 refine Same.upd rfl ?_); exact Same.ovN)), _, ?_, inferInstance, q1, q, rfl, rfl, rfl, hq01, by omega, by omega, hlo, ?_⟩
      · omega
      · intro y' z' _ hy' hz'
        rw [hgu] at hy'; rw [hgv] at hz'; cases hy'; cases hz'; assumption
  · have hqe : q2 = q1 := by omega
    subst hqe
    refine jjA ?_
    refine jjE ?_
    refine jjA ?_
    refine jjB ?_
    refine jjC ?_
    (refine jI (eI rfl) (jI (eI rfl) (jZ rfl rfl (by omega) (jJ (eI rfl) ?_))))
    refine jz ?_
    refine jjA ?_
    refine jjB ?_
    obtain ⟨hd, hhd⟩ : ∃ hd, hd = h - q2 := ⟨_, rfl⟩
    have lhd : hd ≤ V.length := by
      rcases hs5 with e | e
      · subst e
        rcases Nat.lt_or_ge q2 r0 with c1 | c1
        · have := hs4 q2 hq01 c1; omega
        · omega
      · omega
    refine W.cutL [(0, .slice (some ⟨b, 0, none⟩) n c), (1, .int .i64 ((X.length : Nat) : Int)), (3, .int .i64 ((X.length + U.length + V.length : Nat) : Int)), (4, .func (.func g) #[] cap.toArray), (18, .int .i64 ((X.length + h : Nat) : Int)), (20, .int .i64 ((X.length + q2 : Nat) : Int)), (24, .int .i64 ((X.length + U.length + hd : Nat) : Int))] (fun w' => Only b w1 w' ∧ SD 3 w' b n c (X ++ (U.take q2 ++ V.take hd) ++ (U.drop q2 ++ V.drop hd) ++ Z)) ?_ ?_
    · have hall : Only b w1 w1 := .ofExt (.refl w1)
      rcases Nat.lt_or_ge q2 U.length with ca | ca
      · rcases Nat.eq_zero_or_pos hd with cb | cb
        · (refine jjB (jjC (jI (eI rfl) (jI (eI rfl) (jjZ rfl rfl (by omega) (jI (eB rfl) ?_))))); refine jT rfl rfl rfl (jI (eI rfl) (jT rfl rfl rfl (jI (eI rfl) (jT rfl rfl rfl (jja rfl rfl (by omega) ?_))))); refine jK rfl (eB rfl) (jz (jjK rfl (jjG ?_))))
          refine ⟨rfl, ⟨eS rfl, eI rfl, eI rfl, eF rfl, eI rfl, eI rfl, congrArg (Value.int .i64) (by omega), trivial⟩, hall, ?_⟩
          subst cb
          rw [List.take_zero, List.append_nil, List.drop_zero, ← List.append_assoc (X ++ U.take q2), List.append_assoc X, List.take_append_drop]
          exact hD1
        · have hrot := rotate_int b n c (.func (.func g) #[] cap.toArray) (X ++ U.take q2) (U.drop q2) (V.take hd) (V.drop hd ++ Z) w1 (by simp; omega) (by simp; omega) hl (by
            have e : X ++ U.take q2 ++ U.drop q2 ++ V.take hd ++ (V.drop hd ++ Z) = X ++ U ++ V ++ Z := by
              rw [List.append_assoc X, List.take_append_drop, ← List.append_assoc (X ++ U ++ V.take hd), List.append_assoc (X ++ U), List.take_append_drop]
            rw [e]; exact hD1) ((X.length + q2 : Nat) : Int) ((X.length + U.length : Nat) : Int) ((2 * X.length + U.length + h : Nat) - (X.length + q2 : Nat) : Int) (by simp; omega) (by simp; omega) (by simp; omega)
          (refine jjB (jjC (jI (eI rfl) (jI (eI rfl) (jjZ rfl rfl (by omega) (jI (eB rfl) ?_))))); refine jT rfl rfl rfl (jI (eI rfl) (jT rfl rfl rfl (jI (eI rfl) (jT rfl rfl rfl (jjZ rfl rfl (by omega) ?_))))); refine jK rfl (eB rfl) (jz (jjJ rfl (jjC (jI (eS rfl) (jI (eI rfl) ?_))))); refine jI (eI rfl) (jI (eI rfl) (jI (eF rfl) ?_)))
          refine Ops.callR rfl (Enters.h (P := Tryz.prog) (g := 154)) rfl hrot ?_
          rintro _ w2 ⟨⟨v, rfl⟩, hO2, hD2⟩
          refine ⟨_, rfl, ?_⟩
          (refine jz ?_)
          refine ⟨rfl, ⟨eS rfl, eI rfl, eI rfl, eF rfl, eI rfl, eI rfl, congrArg (Value.int .i64) (by omega), trivial⟩, hO2, ?_⟩
          simp only [List.append_assoc] at hD2 ⊢
          exact hD2
      · (refine jjB (jjC (jI (eI rfl) (jI (eI rfl) (jja rfl rfl (by omega) (jI (eB rfl) ?_))))); refine jU rfl rfl rfl rfl (jU rfl rfl rfl rfl (jU rfl rfl rfl rfl (jL rfl (eB rfl) (jz (jjK rfl ?_))))); refine jjG ?_)
        refine ⟨rfl, ⟨eS rfl, eI rfl, eI rfl, eF rfl, eI rfl, eI rfl, congrArg (Value.int .i64) (by omega), trivial⟩, hall, ?_⟩
        rw [List.drop_of_length_le ca, List.nil_append, List.take_of_length_le ca, List.append_assoc X, List.append_assoc U, List.take_append_drop, ← List.append_assoc X]
        exact hD1
    rintro sl2 w2 ⟨hO2, hD2⟩
    have hU12 : ∀ x ∈ U.take q2, p x := fun x hx => hpU x (List.mem_of_mem_take hx)
    have hU22 : ∀ x ∈ U.drop q2, p x := fun x hx => hpU x (List.mem_of_mem_drop hx)
    have hV12 : ∀ x ∈ V.take hd, p x := fun x hx => hpV x (List.mem_of_mem_take hx)
    have hV22 : ∀ x ∈ V.drop hd, p x := fun x hx => hpV x (List.mem_of_mem_drop hx)
    have sU1 : Srt k (U.take q2) := List.Pairwise.sublist (List.take_sublist _ _) hsU
    have sU2 : Srt k (U.drop q2) := List.Pairwise.sublist (List.drop_sublist _ _) hsU
    have sV1 : Srt k (V.take hd) := List.Pairwise.sublist (List.take_sublist _ _) hsV
    have sV2 : Srt k (V.drop hd) := List.Pairwise.sublist (List.drop_sublist _ _) hsV
    have lU1 : (U.take q2).length = q2 := by simp; omega
    have lV1 : (V.take hd).length = hd := by simp; omega
    have lU2 : (U.drop q2).length = U.length - q2 := by simp
    have lV2 : (V.drop hd).length = V.length - hd := by simp
    have hsym : ssort k (U ++ V) = ssort k (U.take q2 ++ V.take hd) ++ ssort k (U.drop q2 ++ V.drop hd) := by
      have := ssort_sym (k := k) (U1 := U.take q2) (U2 := U.drop q2) (V1 := V.take hd) (V2 := V.drop hd) (by rw [List.take_append_drop]; exact hsU) (by rw [List.take_append_drop]; exact hsV) ?_ ?_
      · rw [List.take_append_drop, List.take_append_drop] at this; exact this
      · intro u hu v hv
        obtain ⟨iu, hiu, hgu⟩ := mem_drop_get hu
        obtain ⟨iv, hiv, hgv⟩ := mem_take_get hv
        have b1 := (List.getElem?_eq_some_iff.1 hgu).1
        have b2 := (List.getElem?_eq_some_iff.1 hgv).1
        have hlt : q2 < r0 := by omega
        have g1 := List.getElem?_eq_getElem (l := U) (i := q2) (by omega)
        have g2 := List.getElem?_eq_getElem (l := V) (i := h - 1 - q2) (hs4 q2 hq01 hlt)
        have h1 := hhi _ _ hlt g1 g2
        have h2 := srt_get hsU g1 hgu hiu
        have h3 := srt_get hsV hgv g2 (by omega)
        omega
      · intro u hu v hv
        obtain ⟨iu, hiu, hgu⟩ := mem_take_get hu
        obtain ⟨iv, hiv, hgv⟩ := mem_drop_get hv
        have b1 := (List.getElem?_eq_some_iff.1 hgu).1
        have b2 := (List.getElem?_eq_some_iff.1 hgv).1
        have hlt : s0 < q2 := by
          rcases Nat.lt_or_ge s0 q2 with c1 | c1
          · exact c1
          · rcases hs5 with e | e <;> omega
        have g1 := List.getElem?_eq_getElem (l := U) (i := q2 - 1) (by omega)
        have g2 := List.getElem?_eq_getElem (l := V) (i := h - q2) (by omega)
        have h1 := hlo _ _ hlt g1 g2
        have h2 := srt_get hsU hgu g1 (by omega)
        have h3 := srt_get hsV g2 hgv (by omega)
        omega
    refine jjA ?_
    refine jjB ?_
    refine W.cutL [(0, .slice (some ⟨b, 0, none⟩) n c), (3, .int .i64 ((X.length + U.length + V.length : Nat) : Int)), (4, .func (.func g) #[] cap.toArray), (18, .int .i64 ((X.length + h : Nat) : Int)), (24, .int .i64 ((X.length + U.length + hd : Nat) : Int))] (fun w' => Only b w1 w' ∧ SD 3 w' b n c (X ++ ssort k (U.take q2 ++ V.take hd) ++ (U.drop q2 ++ V.drop hd) ++ Z)) ?_ ?_
    · rcases Nat.eq_zero_or_pos q2 with ca | ca
      · (refine jjB (jjC (jI (eI rfl) (jI (eI rfl) (jja rfl rfl (by omega) (jI (eB rfl) ?_))))); refine jU rfl rfl rfl rfl (jU rfl rfl rfl rfl (jU rfl rfl rfl rfl (jL rfl (eB rfl) (jz (jjK rfl ?_))))); refine jjG ?_)
        refine ⟨rfl, ⟨eS rfl, eI rfl, eF rfl, eI rfl, eI rfl, trivial⟩, hO2, ?_⟩
        have e1 : U.take q2 = [] := by rw [ca]; rfl
        rw [e1, List.nil_append] at hD2 ⊢
        rw [ssort_of_srt sV1]; exact hD2
      · rcases Nat.lt_or_ge q2 h with cb | cb
        · have hcall := ih X (U.take q2) (V.take hd) (U.drop q2 ++ V.drop hd ++ Z) w2 ((X.length : Nat) : Int) ((X.length + q2 : Nat) : Int) ((X.length + h : Nat) : Int) (by omega) (by omega) (by omega) sU1 sV1 hU12 hV12 (by simp only [List.append_assoc] at hD2 ⊢; exact hD2) (hc.only ((Only.ofExt hS1.ext).trans hO2)) (by omega) (by omega) (by omega)
          (refine jjB (jjC (jI (eI rfl) (jI (eI rfl) (jjZ rfl rfl (by omega) (jI (eB rfl) ?_))))); refine jT rfl rfl rfl (jI (eI rfl) (jT rfl rfl rfl (jI (eI rfl) (jT rfl rfl rfl (jjZ rfl rfl (by omega) ?_))))); refine jK rfl (eB rfl) (jz (jjJ rfl (jjC (jI (eS rfl) (jI (eI rfl) ?_))))); refine jI (eI rfl) (jI (eI rfl) (jI (eF rfl) ?_)))
          refine Ops.callR rfl (Enters.h (P := Tryz.prog) (g := 142)) rfl hcall ?_
          rintro _ w3 ⟨⟨v, rfl⟩, hO3, hD3⟩
          refine ⟨_, rfl, ?_⟩
          (refine jz ?_)
          refine ⟨rfl, ⟨eS rfl, eI rfl, eF rfl, eI rfl, eI rfl, trivial⟩, hO2.trans hO3, ?_⟩
          simp only [List.append_assoc] at hD3 ⊢
          exact hD3
        · (refine jjB (jjC (jI (eI rfl) (jI (eI rfl) (jjZ rfl rfl (by omega) (jI (eB rfl) ?_))))); refine jT rfl rfl rfl (jI (eI rfl) (jT rfl rfl rfl (jI (eI rfl) (jT rfl rfl rfl (jja rfl rfl (by omega) ?_))))); refine jK rfl (eB rfl) (jz (jjK rfl (jjG ?_))))
          refine ⟨rfl, ⟨eS rfl, eI rfl, eF rfl, eI rfl, eI rfl, trivial⟩, hO2, ?_⟩
          have e1 : V.take hd = [] := by rw [show hd = 0 from by omega]; rfl
          rw [e1, List.append_nil] at hD2 ⊢
          rw [ssort_of_srt sU1]; exact hD2
    clear hD2 hO2
    rintro sl3 w3 ⟨hO3, hD3⟩
    have hOw := (Only.ofExt hS1.ext).trans hO3
    rw [hsym]
    rcases Nat.lt_or_ge q2 U.length with ca | ca
    · rcases Nat.lt_or_ge hd V.length with cb | cb
      · have hcall := ih (X ++ ssort k (U.take q2 ++ V.take hd)) (U.drop q2) (V.drop hd) Z w3 ((X.length + h : Nat) : Int) ((X.length + U.length + hd : Nat) : Int) ((X.length + U.length + V.length : Nat) : Int) (by omega) (by omega) (by omega) sU2 sV2 hU22 hV22 (by simp only [List.append_assoc] at hD3 ⊢; exact hD3) (hc.only hOw) (by rw [List.length_append, ssort_len, List.length_append]; omega) (by rw [List.length_append, ssort_len, List.length_append]; omega) (by rw [List.length_append, ssort_len, List.length_append]; omega)
        (refine jjB (jjC (jI (eI rfl) (jI (eI rfl) (jjZ rfl rfl (by omega) (jI (eB rfl) ?_))))); refine jT rfl rfl rfl (jI (eI rfl) (jT rfl rfl rfl (jI (eI rfl) (jT rfl rfl rfl (jjZ rfl rfl (by omega) ?_))))); refine jK rfl (eB rfl) (jz (jjJ rfl (jjC (jI (eS rfl) (jI (eI rfl) ?_))))); refine jI (eI rfl) (jI (eI rfl) (jI (eF rfl) ?_)))
        refine Ops.callR rfl (Enters.h (P := Tryz.prog) (g := 142)) rfl hcall ?_
        rintro _ w4 ⟨⟨v, rfl⟩, hO4, hD4⟩
        refine ⟨_, rfl, ?_⟩
        (refine jz ?_; refine jA rfl ⟨⟨_, rfl⟩, ?_⟩)
        refine ⟨hOw.trans hO4, ?_⟩
        simp only [List.append_assoc] at hD4 ⊢
        exact hD4
      · (refine jjB (jjC (jI (eI rfl) (jI (eI rfl) (jjZ rfl rfl (by omega) (jI (eB rfl) ?_))))); refine jT rfl rfl rfl (jI (eI rfl) (jT rfl rfl rfl (jI (eI rfl) (jT rfl rfl rfl (jja rfl rfl (by omega) ?_))))); refine jK rfl (eB rfl) (jz (jjK rfl (jjG ?_))); refine jA rfl ⟨⟨_, rfl⟩, ?_⟩)
        refine ⟨hOw, ?_⟩
        have e1 : V.drop hd = [] := List.drop_of_length_le cb
        rw [e1, List.append_nil] at hD3 ⊢
        rw [ssort_of_srt sU2, ← List.append_assoc]; exact hD3
    · (refine jjB (jjC (jI (eI rfl) (jI (eI rfl) (jja rfl rfl (by omega) (jI (eB rfl) ?_))))); refine jU rfl rfl rfl rfl (jU rfl rfl rfl rfl (jU rfl rfl rfl rfl (jL rfl (eB rfl) (jz (jjK rfl ?_))))); refine jjG ?_; refine jA rfl ⟨⟨_, rfl⟩, ?_⟩)
      refine ⟨hOw, ?_⟩
      have e1 : U.drop q2 = [] := List.drop_of_length_le ca
      rw [e1, List.nil_append] at hD3 ⊢
      rw [ssort_of_srt sV2, ← List.append_assoc]; exact hD3

theorem symMerge_int (hl : n ≤ 1000000) : ∀ (N : Nat) (X U V Z : List Int) (w : World) (i1 i2 i3 : Int), U.length + V.length < N → 0 < U.length → 0 < V.length → Srt k U → Srt k V → (∀ x ∈ U, p x) → (∀ x ∈ V, p x) → SD 3 w b n c (X ++ U ++ V ++ Z) → CmpE Tryz.prog g cap k b w p → i1 = X.length → i2 = X.length + U.length → i3 = X.length + U.length + V.length →
      Calls Tryz.prog 142 [.slice (some ⟨b, 0, none⟩) n c, .int .i64 i1, .int .i64 i2, .int .i64 i3, .func (.func g) #[] cap.toArray].toArray w fun e w' => (∃ v, e = .returned v) ∧ Only b w w' ∧ SD 3 w' b n c (X ++ ssort k (U ++ V) ++ Z)
  | 0, _, _, _, _, _, _, _, _, hN, _, _, _, _, _, _, _, _, _, _, _ => absurd hN (Nat.not_lt_zero _)
  | N + 1, X, U, V, Z, w, i1, i2, i3, hN, hU, hV, sU, sV, pU, pV, hD, hc, h1, h2, h3 => by
    rcases Nat.lt_or_ge 1 U.length with cU | cU
    · rcases Nat.lt_or_ge 1 V.length with cV | cV
      · exact symC_int b n c g cap k p (U.length + V.length) (fun X' U' V' Z' w' a1 a2 a3 hlt => symMerge_int hl N X' U' V' Z' w' a1 a2 a3 (by omega)) X U V Z w rfl cU cV sU sV pU pV hl hD hc i1 i2 i3 h1 h2 h3
      · match V, hV, cV with
        | [x], _, _ => exact symB_int b n c g cap k p X U Z x w (pV x List.mem_cons_self) pU cU sU hl hD hc i1 i2 i3 h1 h2 (by rw [h3]; rfl)
    · match U, hU, cU with
      | [x], _, _ => exact symA_int b n c g cap k p X V Z x w (pU x List.mem_cons_self) pV hV sV hl hD hc i1 i2 i3 h1 (by rw [h2]; rfl) (by rw [h3]; rfl)
end

def BlkS (k : Int → Int) (s : Nat) (l : List Int) : Prop := ∀ t, Srt k ((l.drop (t * s)).take s)
theorem BlkS.head {k : Int → Int} {s : Nat} {l : List Int} (h : BlkS k s l) : Srt k (l.take s) := by have := h 0; rwa [Nat.zero_mul, List.drop_zero] at this
theorem BlkS.drop {k : Int → Int} {s : Nat} {l : List Int} (h : BlkS k s l) : BlkS k s (l.drop s) := fun t => by
  have := h (t + 1)
  rw [List.drop_drop]
  rwa [Nat.add_mul, Nat.one_mul, Nat.add_comm] at this
theorem BlkS.one {k : Int → Int} {s : Nat} {l : List Int} (h : Srt k l) (hl : l.length ≤ s) : BlkS k s l := fun t => by
  cases t with
  | zero => rw [Nat.zero_mul, List.drop_zero, List.take_of_length_le hl]; exact h
  | succ t => rw [List.drop_of_length_le (by rw [Nat.add_mul]; omega)]; simp [Srt]
theorem BlkS.app {k : Int → Int} {s m : Nat} {D R : List Int} (h : BlkS k s D) (hm : D.length = m * s) (hR : BlkS k s R) : BlkS k s (D ++ R) := fun t => by
  rcases Nat.lt_or_ge t m with c | c
  · have h1 : (t + 1) * s ≤ m * s := Nat.mul_le_mul_right s c
    rw [Nat.add_mul] at h1
    rw [List.drop_append_of_le_length (by omega), List.take_append_of_le_length (by simp; omega)]
    exact h t
  · have h1 : m * s ≤ t * s := Nat.mul_le_mul_right s c
    rw [List.drop_append, List.drop_of_length_le (by omega), List.nil_append, hm, ← Nat.sub_mul]
    exact hR (t - m)
theorem srt_nil (k : Int → Int) : Srt k [] := by simp [Srt]

section
variable (b n c g : Nat) (cap : List Value) (k : Int → Int) (p : Int → Prop) [he : Enters Tryz.prog g]
set_option maxHeartbeats 8000000 in
theorem stable_int (l : List Int) (w : World) (hl : n ≤ 1000000) (hp : ∀ x ∈ l, p x) (hD : SD 3 w b n c l) (hc : CmpE Tryz.prog g cap k b w p) (hn0 : (n : Int) = l.length) :
    Calls Tryz.prog 114 [.slice (some ⟨b, 0, none⟩) n c, .int .i64 n, .func (.func g) #[] cap.toArray].toArray w fun e w' => (∃ v, e = .returned v) ∧ Only b w w' ∧ SD 3 w' b n c (ssort k l) := by
  refine Calls.ofW (by simp) ?_
  (refine jjB (jjC (jJ (eI rfl) (jz (jjB (jjC ?_))))); refine jI (eI rfl) (jJ (eI rfl) (jJ (eI rfl) (jz (jjB (jjD ?_))))))
  refine W.keep0 [(0, _), (1, _), (2, .func (.func g) #[] cap.toArray), (6, .int .i64 ((20 : Nat) : Int)), (7, .int .i64 ((0 : Nat) : Int)), (8, .int .i64 ((0 + 20 : Nat) : Int))] ⟨eS rfl, eI rfl, eF rfl, eI rfl, eI rfl, eI rfl, trivial⟩ fun sm => ?_
  refine W.loopG (11 :: 12 :: 13 :: 14 :: 15 :: 16 :: 17 :: 18 :: 19 :: 7 :: 20 :: 21 :: 22 :: 8 :: []) (fun gg s' w' => ∃ D R : List Int, s' 7 = .int .i64 ((D.length : Nat) : Int) ∧ s' 8 = .int .i64 ((D.length + 20 : Nat) : Int) ∧ gg = R.length ∧ (∃ m, D.length = m * 20) ∧ BlkS k 20 D ∧ Filt k l (D ++ R) ∧ Only b w w' ∧ SD 3 w' b n c (D ++ R)) l.length ⟨[], l, rfl, rfl, rfl, ⟨0, rfl⟩, .one (srt_nil k) (by simp), .refl _ _, .ofExt (.refl w), hD⟩ ?_
  rintro _ d w1 ⟨D, R, h7, h8, rfl, ⟨m, hm⟩, hB, hF, hO, hD1⟩
  refine W.fix h7 (W.fix (d := 8) h8 ?_)
  clear h7 h8
  have hn1 : n = D.length + R.length := by have := hD1.1; simp at this; omega
  have hpR : ∀ x ∈ R, p x := fun x hx => hp x (hF.symm.mem (List.mem_append_right _ hx))
  (refine jjB (jjB (jjC (jI (eI rfl) (jI (eI rfl) (jd rfl rfl ?_))))); refine jz ?_)
  refine jjA ?_
  refine jjN rfl ?_ ?_ <;> intro _
  · (refine jjG (jjD (jjB (jjC (jI (eS rfl) (jI (eI rfl) ?_))))); refine jI (eI rfl) (jI (eF rfl) ?_))
    have hins := insertion_int b n c g cap k p D (R.take 20) (R.drop 20) w1 (fun x hx => hpR x (List.mem_of_mem_take hx)) hl (by rw [List.append_assoc, List.take_append_drop]; exact hD1) (hc.only hO) ((D.length : Nat) : Int) ((D.length + 20 : Nat) : Int) rfl (by rw [List.length_take]; omega)
    refine Ops.callR rfl (Enters.h (P := Tryz.prog) (g := 141)) rfl hins ?_
    rintro _ w2 ⟨⟨v, rfl⟩, hO2, hD2⟩
    refine ⟨_, rfl, ?_⟩
    (refine jz (jjB (jjC (jI (eI rfl) (jJ (eI rfl) (jz ?_))))); refine jjC (jI (eI rfl) (jI (eI rfl) (jY rfl rfl (by omega) (jJ (eI rfl) (jz ?_))))))
    have hsl : (ssort k (R.take 20)).length = 20 := by rw [ssort_len, List.length_take]; omega
    refine ⟨rfl, by (((iterate 16 refine Same.upd rfl ?_); exact Same.ovN)), (R.drop 20).length, by rw [List.length_drop]; omega, D ++ ssort k (R.take 20), R.drop 20, congrArg (Value.int .i64) (by rw [List.length_append, hsl]), congrArg (Value.int .i64) (by rw [List.length_append, hsl]; omega), rfl, ⟨m + 1, by rw [List.length_append, hsl, hm]; omega⟩, hB.app hm (.one (ssort_srt _ _) (by omega)), ?_, hO.trans hO2, hD2⟩
    refine hF.trans ?_
    rw [List.append_assoc]
    refine Filt.app (.refl _ _) ?_
    have := (ssort_filt k (R.take 20)).app (Filt.refl k (R.drop 20))
    rwa [List.take_append_drop] at this
  · refine jjA ?_
    refine jjE ?_
    (refine jjB (jjC (jI (eS rfl) (jI (eI rfl) (jI (eI rfl) (jI (eF rfl) ?_))))))
    have hins := insertion_int b n c g cap k p D R [] w1 hpR hl (by rw [List.append_nil]; exact hD1) (hc.only hO) ((D.length : Nat) : Int) (n : Int) rfl (by omega)
    refine Ops.callR rfl (Enters.h (P := Tryz.prog) (g := 141)) rfl hins ?_
    rintro _ w2 ⟨⟨v, rfl⟩, hO2, hD2⟩
    refine ⟨_, rfl, ?_⟩
    rw [List.append_nil] at hD2
    have hF2 : Filt k l (D ++ ssort k R) := hF.trans ((Filt.refl k D).app (ssort_filt k R))
    have hB2 : BlkS k 20 (D ++ ssort k R) := hB.app hm (.one (ssort_srt _ _) (by rw [ssort_len]; omega))
    have hOw := hO.trans hO2
    generalize D ++ ssort k R = l2 at hD2 hF2 hB2
    clear hins hD1 hD hpR hn1 hF hB hm hO hO2
    (refine jz (jjD ?_))
    refine W.keep0 [(0, .slice (some ⟨b, 0, none⟩) n c), (1, .int .i64 n), (2, .func (.func g) #[] cap.toArray), (6, .int .i64 ((20 : Nat) : Int))] ⟨eS rfl, eI rfl, eF rfl, eI rfl, trivial⟩ fun sm => ?_
    refine W.loopG (28 :: 29 :: 30 :: 31 :: 32 :: 7 :: 8 :: 33 :: 34 :: 35 :: 36 :: 37 :: 38 :: 39 :: 40 :: 41 :: 42 :: 43 :: 44 :: 45 :: 46 :: 47 :: 48 :: 49 :: 50 :: 51 :: 9 :: 52 :: 53 :: 54 :: 55 :: 56 :: 57 :: 58 :: 59 :: 60 :: 61 :: 62 :: 6 :: []) (fun gg s' w' => ∃ (s : Nat) (l2 : List Int), s' 6 = .int .i64 ((s : Nat) : Int) ∧ gg = n - s ∧ 0 < s ∧ s ≤ 2 * n + 20 ∧ BlkS k s l2 ∧ Filt k l l2 ∧ Only b w w' ∧ SD 3 w' b n c l2) (n - 20) ⟨20, l2, rfl, rfl, by omega, by omega, hB2, hF2, hOw, hD2⟩ ?_
    clear hD2 hF2 hB2 hOw
    rintro _ d w3 ⟨s, l3, h6, rfl, hs0, hs1, hB3, hF3, hO3, hD3⟩
    refine W.fix h6 ?_
    clear h6
    (refine jjB (jjB (jjC (jI (eI rfl) (jI (eI rfl) (jX rfl rfl ?_))))); refine jz ?_)
    refine jjA ?_
    refine jjN rfl ?_ ?_ <;> intro _
    · (refine jjG (jjD (jjB (jjC (jI (eI rfl) ?_)))))
      refine jW ?_
      refine Ops.mul rfl rfl (by omega) ?_
      (refine jJ (eI rfl) (jJ (eI rfl) (jz (jjB (jjD ?_)))))
      refine W.keep [(0, .slice (some ⟨b, 0, none⟩) n c), (1, .int .i64 n), (2, .func (.func g) #[] cap.toArray), (6, .int .i64 ((s : Nat) : Int)), (7, .int .i64 ((0 : Nat) : Int)), (8, .int .i64 ((0 + 2 * s : Nat) : Int))] (D := (28 :: 29 :: 30 :: 31 :: 32 :: 7 :: 8 :: 33 :: 34 :: 35 :: 36 :: 37 :: 38 :: 39 :: 40 :: 41 :: 42 :: 43 :: 44 :: 45 :: 46 :: 47 :: 48 :: 49 :: 50 :: 51 :: 9 :: 52 :: 53 :: 54 :: 55 :: 56 :: 57 :: 58 :: 59 :: 60 :: 61 :: 62 :: 6 :: [])) (sO := upds sm _) (by (((iterate 8 refine Same.upd rfl ?_); exact Same.ovN))) ⟨eS rfl, eI rfl, eF rfl, eI rfl, eI rfl, congrArg (Value.int .i64) (by omega), trivial⟩ fun sk hsk => ?_
      refine W.loopG (33 :: 34 :: 35 :: 36 :: 37 :: 38 :: 39 :: 40 :: 41 :: 42 :: 43 :: 44 :: 7 :: 45 :: 46 :: 47 :: 48 :: 8 :: []) (fun gg s' w' => ∃ D R : List Int, s' 7 = .int .i64 ((D.length : Nat) : Int) ∧ s' 8 = .int .i64 ((D.length + 2 * s : Nat) : Int) ∧ gg = R.length ∧ (∃ m, D.length = m * (2 * s)) ∧ BlkS k (2 * s) D ∧ BlkS k s R ∧ Filt k l (D ++ R) ∧ Only b w w' ∧ SD 3 w' b n c (D ++ R)) l3.length ⟨[], l3, rfl, rfl, rfl, ⟨0, by simp⟩, .one (srt_nil k) (by simp), hB3, hF3, hO3, hD3⟩ ?_
      clear hB3 hF3 hO3 hD3
      rintro _ d w1 ⟨D, R, h7, h8, rfl, ⟨m, hm⟩, hBD, hBR, hF, hO, hD1⟩
      refine W.fix h7 (W.fix (d := 8) h8 ?_)
      clear h7 h8
      have hn1 : n = D.length + R.length := by have := hD1.1; simp at this; omega
      have hpR : ∀ x ∈ R, p x := fun x hx => hp x (hF.symm.mem (List.mem_append_right _ hx))
      (refine jjB (jjB (jjC (jI (eI rfl) (jI (eI rfl) (jd rfl rfl ?_))))); refine jz ?_)
      refine jjA ?_
      refine jjN rfl ?_ ?_ <;> intro _
      · have hUs : ((R.drop s).take s).length = s := by rw [List.length_take, List.length_drop]; omega
        have hU : (R.take s).length = s := by rw [List.length_take]; omega
        have hm2 := symMerge_int b n c g cap k p hl (2 * s + 1) D (R.take s) ((R.drop s).take s) ((R.drop s).drop s) w1 ((D.length : Nat) : Int) ((D.length : Nat) + (s : Nat) : Int) ((D.length + 2 * s : Nat) : Int) (by omega) (by omega) (by omega) hBR.head hBR.drop.head (fun x hx => hpR x (List.mem_of_mem_take hx)) (fun x hx => hpR x (List.mem_of_mem_drop (List.mem_of_mem_take hx))) (by
          rw [List.append_assoc _ ((R.drop s).take s), List.take_append_drop, List.append_assoc, List.take_append_drop]; exact hD1) (hc.only hO) rfl (by omega) (by omega)
        (refine jjG (jjD (jjB (jjC (jI (eS rfl) (jI (eI rfl) ?_))))); refine jI (eI rfl) (jI (eI rfl) (jY rfl rfl (by omega) (jI (eI rfl) (jI (eF rfl) ?_)))))
        refine Ops.callR rfl (Enters.h (P := Tryz.prog) (g := 142)) rfl hm2 ?_
        rintro _ w2 ⟨⟨v, rfl⟩, hO2, hD2⟩
        refine ⟨_, rfl, ?_⟩
        (refine jz (jjB (jjC (jI (eI rfl) (jJ (eI rfl) (jz ?_))))); refine jjC (jI (eI rfl) (jI (eI rfl) ?_)))
        refine jW ?_
        refine Ops.mul rfl rfl (by omega) ?_
        (refine jY rfl rfl (by omega) (jJ (eI rfl) (jz ?_)))
        have hsl : (ssort k (R.take s ++ (R.drop s).take s)).length = 2 * s := by rw [ssort_len, List.length_append]; omega
        refine ⟨rfl, by (((iterate 20 refine Same.upd rfl ?_); exact Same.ovN)), ((R.drop s).drop s).length, by rw [List.length_drop, List.length_drop]; omega, D ++ ssort k (R.take s ++ (R.drop s).take s), (R.drop s).drop s, congrArg (Value.int .i64) (by rw [List.length_append, hsl]), congrArg (Value.int .i64) (by rw [List.length_append, hsl]; omega), rfl, ⟨m + 1, by rw [List.length_append, hsl, hm, Nat.add_mul]; omega⟩, hBD.app hm (.one (ssort_srt _ _) (by omega)), hBR.drop.drop, ?_, hO.trans hO2, hD2⟩
        refine hF.trans ?_
        rw [List.append_assoc]
        refine Filt.app (.refl _ _) ?_
        have := (ssort_filt k (R.take s ++ (R.drop s).take s)).app (Filt.refl k ((R.drop s).drop s))
        rwa [List.append_assoc, List.take_append_drop, List.take_append_drop] at this
      · refine jjA ?_
        refine jjE ?_
        rcases Nat.lt_or_ge s R.length with c1 | c1
        · have hU : (R.take s).length = s := by rw [List.length_take]; omega
          have hV : (R.drop s).length = R.length - s := by rw [List.length_drop]
          have hsV : Srt k (R.drop s) := by have := hBR.drop.head; rwa [List.take_of_length_le (by omega)] at this
          have hm2 := symMerge_int b n c g cap k p hl (2 * s + 1) D (R.take s) (R.drop s) [] w1 ((D.length : Nat) : Int) ((D.length : Nat) + (s : Nat) : Int) (n : Int) (by omega) (by omega) (by omega) hBR.head hsV (fun x hx => hpR x (List.mem_of_mem_take hx)) (fun x hx => hpR x (List.mem_of_mem_drop hx)) (by
            rw [List.append_nil, List.append_assoc, List.take_append_drop]; exact hD1) (hc.only hO) rfl (by omega) (by omega)
          rw [List.append_nil, List.take_append_drop] at hm2
          (refine jjB (jjB (jjC (jI (eI rfl) (jI (eI rfl) (jY rfl rfl (by omega) ?_))))); refine jJ (eI rfl) (jz (jjB (jjC (jI (eI rfl) (jI (eI rfl) ?_))))); refine jjZ rfl rfl (by omega) (jz (jjJ rfl (jjC (jI (eS rfl) (jI (eI rfl) ?_))))); refine jI (eI rfl) (jI (eI rfl) (jI (eF rfl) ?_)))
          refine Ops.callR rfl (Enters.h (P := Tryz.prog) (g := 142)) rfl hm2 ?_
          rintro _ w2 ⟨⟨v, rfl⟩, hO2, hD2⟩
          refine ⟨_, rfl, ?_⟩
          (refine jz (jjC (jI (eI rfl) ?_)))
          refine jW ?_
          refine Ops.mul rfl rfl (by omega) ?_
          (refine jJ (eI rfl) (jz ?_))
          refine ⟨rfl, by (((iterate 21 refine Same.upd rfl ?_); refine Same.ovN' rfl ?_; assumption)), n - 2 * s, by omega, 2 * s, D ++ ssort k R, congrArg (Value.int .i64) (by omega), rfl, by omega, by omega, hBD.app hm (.one (ssort_srt _ _) (by rw [ssort_len]; omega)), hF.trans ((Filt.refl k D).app (ssort_filt k R)), hO.trans hO2, hD2⟩
        · have hsR : Srt k R := by have := hBR.head; rwa [List.take_of_length_le (by omega)] at this
          (refine jjB (jjB (jjC (jI (eI rfl) (jI (eI rfl) (jY rfl rfl (by omega) ?_))))); refine jJ (eI rfl) (jz (jjB (jjC (jI (eI rfl) (jI (eI rfl) ?_))))); refine jja rfl rfl (by omega) (jz (jjK rfl (jjG (jjC (jI (eI rfl) ?_))))))
          refine jW ?_
          refine Ops.mul rfl rfl (by omega) ?_
          (refine jJ (eI rfl) (jz ?_))
          refine ⟨rfl, by (((iterate 15 refine Same.upd rfl ?_); refine Same.ovN' rfl ?_; assumption)), n - 2 * s, by omega, 2 * s, D ++ R, congrArg (Value.int .i64) (by omega), rfl, by omega, by omega, hBD.app hm (.one hsR (by omega)), hF, hO, hD1⟩
    · refine jjA ?_
      refine jjE ?_
      (refine jA rfl ⟨⟨_, rfl⟩, ?_⟩)
      refine ⟨hO3, ?_⟩
      have hln := hD3.1
      have hs := hB3.head
      rw [List.take_of_length_le (by omega)] at hs
      rw [← ssort_eq hs hF3]
      exact hD3

theorem insertion_none (v fv : Value) (l c : Nat) (a : Option Addr) (w : World) (hv : v = .slice a l c) :
    Calls Tryz.prog 141 [v, .int .i64 0, .int .i64 0, fv].toArray w fun e w' => (∃ v, e = .returned v) ∧ Ext w w' := by
  subst hv
  refine Calls.ofW (by simp) ?_
  (refine jjB (jjC (jI (eI rfl) (jY rfl rfl (by omega) (jJ (eI rfl) (jz ?_))))); refine jjD ?_)
  refine W.loop (12 :: 13 :: 14 :: 17 :: 9 :: 18 :: 19 :: 20 :: 21 :: 22 :: 23 :: 24 :: 25 :: 26 :: 27 :: 28 :: 29 :: 30 :: 31 :: 32 :: 33 :: 34 :: 37 :: 38 :: 39 :: 40 :: 41 :: 42 :: 43 :: 44 :: 45 :: 46 :: 47 :: 48 :: 49 :: 50 :: 51 :: 52 :: 35 :: 36 :: 15 :: 16 :: 8 :: []) (fun gg s' w' => s' 8 = .int .i64 1) 0 rfl ?_
  rintro _ d w1 hS h8
  refine W.fix h8 ?_
  clear h8
  (refine jjB (jjB (jjC (jI (eI rfl) (jI (eI rfl) (jja rfl rfl (by omega) ?_))))); refine jz (jjK rfl (jjE ?_)); refine jA rfl ⟨⟨_, rfl⟩, ?_⟩)
  exact inferInstance
theorem SortStable_none (fv : Value) (l c : Nat) (a : Option Addr) (w : World) (hl0 : l = 0) :
    Calls Tryz.prog 74 [.slice a l c, fv].toArray w fun e w' => (∃ v, e = .returned v) ∧ Ext w w' := by
  subst hl0
  have h1 : Calls Tryz.prog 114 [.slice a 0 c, .int .i64 (0 : Nat), fv].toArray w fun e w' => (∃ v, e = .returned v) ∧ Ext w w' := by
    refine Calls.ofW (by simp) ?_
    (refine jjB (jjC (jJ (eI rfl) (jz (jjB (jjC ?_))))); refine jI (eI rfl) (jJ (eI rfl) (jJ (eI rfl) (jz (jjB (jjD ?_))))))
    refine W.loop (11 :: 12 :: 13 :: 14 :: 15 :: 16 :: 17 :: 18 :: 19 :: 7 :: 20 :: 21 :: 22 :: 8 :: []) (fun gg s' w' => s' 7 = .int .i64 0 ∧ s' 8 = .int .i64 20) 0 ⟨rfl, rfl⟩ ?_
    rintro _ d w1 hS ⟨h7, h8⟩
    refine W.fix h7 (W.fix (d := 8) h8 ?_)
    clear h7 h8
    (refine jjB (jjB (jjC (jI (eI rfl) (jI (eI rfl) (jjc rfl rfl (by omega) ?_))))); refine jz (jjK rfl (jjE (jjB (jjC (jI (eS rfl) ?_))))); refine jI (eI rfl) (jI (eI rfl) (jI rfl ?_)))
    refine Ops.callR rfl (Enters.h (P := Tryz.prog) (g := 141)) rfl (insertion_none _ fv 0 c a w1 rfl) ?_
    rintro _ w2 ⟨⟨v, rfl⟩, hE2⟩
    refine ⟨_, rfl, ?_⟩
    have := hE2.toStep
    (refine jz (jjD ?_))
    refine W.loop (28 :: 29 :: 30 :: 31 :: 32 :: 7 :: 8 :: 33 :: 34 :: 35 :: 36 :: 37 :: 38 :: 39 :: 40 :: 41 :: 42 :: 43 :: 44 :: 45 :: 46 :: 47 :: 48 :: 49 :: 50 :: 51 :: 9 :: 52 :: 53 :: 54 :: 55 :: 56 :: 57 :: 58 :: 59 :: 60 :: 61 :: 62 :: 6 :: []) (fun gg s' w' => s' 6 = .int .i64 20) 0 rfl ?_
    rintro _ d w1 hS h6
    refine W.fix h6 ?_
    clear h6
    (refine jjB (jjB (jjC (jI (eI rfl) (jI (eI rfl) (jja rfl rfl (by omega) ?_))))); refine jz (jjK rfl (jjE ?_)); refine jA rfl ⟨⟨_, rfl⟩, ?_⟩)
    exact inferInstance
  refine Calls.ofW (by simp) ?_
  (refine jjC (jI (eS rfl) (jI (eS rfl) (jh rfl (jI rfl ?_)))))
  refine Ops.callR rfl (Enters.h (P := Tryz.prog) (g := 114)) rfl h1 ?_
  rintro _ w2 ⟨⟨v, rfl⟩, hE2⟩
  refine ⟨_, rfl, ?_⟩
  (refine jz ?_; refine jA rfl ⟨⟨_, rfl⟩, ?_⟩)
  exact hE2
theorem SortStable_int (l : List Int) (w : World) (hl : n ≤ 1000000) (hp : ∀ x ∈ l, p x) (hD : SD 3 w b n c l) (hc : CmpE Tryz.prog g cap k b w p) :
    Calls Tryz.prog 74 [.slice (some ⟨b, 0, none⟩) n c, .func (.func g) #[] cap.toArray].toArray w fun e w' => (∃ v, e = .returned v) ∧ Only b w w' ∧ SD 3 w' b n c (ssort k l) := by
  refine Calls.ofW (by simp) ?_
  (refine jjC (jI (eS rfl) (jI (eS rfl) (jh rfl (jI (eF rfl) ?_)))))
  refine Ops.callR rfl (Enters.h (P := Tryz.prog) (g := 114)) rfl (stable_int b n c g cap k p l w hl hp hD hc (by have := hD.1; omega)) ?_
  rintro _ w2 ⟨⟨v, rfl⟩, hO2, hD2⟩
  refine ⟨_, rfl, ?_⟩
  (refine jz ?_; refine jA rfl ⟨⟨_, rfl⟩, ?_⟩)
  exact ⟨hO2, hD2⟩
end

def keyD (d : List Int) (x : Int) : Int := d.getD x.toNat 0
theorem keyD_nat {d : List Int} {i : Nat} (hi : i < d.length) : keyD d (i : Int) = d[i] := by simp [keyD, List.getD_eq_getElem?_getD, hi]

theorem cmp_order (bx : Nat) (a : Option Addr) (c : Nat) (d : List Int) (w : World) (i j : Nat) (hi : i < d.length) (hj : j < d.length) [hb : At w bx 0 [.slice a d.length c]] [hrow : RowI w (.slice a d.length c) false 1 (d.map intV)] :
    Ct Tryz.prog 75 [.int .i64 (i : Int), .int .i64 (j : Int), .pointer (some ⟨bx, 0, none⟩)] w fun v _ => v = .int .i64 (if keyD d (i : Int) < keyD d (j : Int) then -1 else if keyD d (j : Int) < keyD d (i : Int) then 1 else 0) := by
  rw [keyD_nat hi, keyD_nat hj]
  refine Ct.ofW (by simp) ?_
  (refine jjB (jjC (jJ (eI rfl) (jz (jjB ?_)))))
  refine W.draw (fun w' => Ext w w') ?_
  intro w1 hS1
  obtain ⟨p1, o1, rfl, hA1⟩ := hrow.h.place' (map_get hi)
  obtain ⟨p2, o2, e2, hA2⟩ := hrow.h.place' (map_get hj)
  cases e2
  rw [Nat.mul_one] at hA1 hA2
  refine jjV [0, 1, 2, 3, 4, 5, 6, 7] (by decide +kernel) hS1.ext ?_
  (((apply jjT; exact rfl; rintro w' hq; have := hq.toStep; refine jN rfl rfl rfl (jz ?_); exact ⟨rfl, rfl⟩; refine jjT rfl (fun _ _ => jI (eI rfl) (jz ⟨rfl, rfl⟩)) ?_; apply jjT; exact rfl; rintro w' hq; have := hq.toStep; refine jG rfl rfl rfl (by omega) (jz ?_); exact ⟨rfl, rfl⟩; apply jjT; exact rfl; rintro w' hq; have := hq.toStep; refine jQ rfl rfl (jz ?_); exact ⟨rfl, rfl⟩; apply jjT; exact rfl; rintro w' hq; have := hq.toStep; refine jN rfl rfl rfl (jz ?_); exact ⟨rfl, rfl⟩; refine jjT rfl (fun _ _ => jI (eI rfl) (jz ⟨rfl, rfl⟩)) ?_; apply jjT; exact rfl; rintro w' hq; have := hq.toStep; refine jG rfl rfl rfl (by omega) (jz ?_); exact ⟨rfl, rfl⟩; apply jjT; exact rfl; rintro w' hq; have := hq.toStep; refine jQ rfl rfl (jz ?_); exact ⟨rfl, rfl⟩; refine jjU ?_)))
  apply jjW 8 (by decide +kernel) rfl hS1.ext
  refine jjQ (Compare_int d[i] d[j] w1) rfl rfl ?_
  rintro _ w2 hS2 rfl
  refine jz ?_
  refine jjV [9] (by decide +kernel) (hS1.ext.trans hS2.ext) ?_
  (((refine jjT rfl (fun _ _ => jJ (eI rfl) (jz ⟨rfl, rfl⟩)) (jjU ?_))))
  refine jjX (by decide +kernel) (hS1.ext.trans hS2.ext) ?_
  have := hS1.ext.trans hS2.ext
  (refine jjF ?_; refine jB rfl rfl ⟨inferInstance, ?_⟩)
  exact rfl
theorem cmp_order_E (bx : Nat) (a : Option Addr) (c b : Nat) (d : List Int) (w : World) (hb : At w bx 0 [.slice a d.length c]) (hrow : RowV w false 1 (.slice a d.length c) (d.map intV)) (h1 : bx ≠ b) (h2 : (Value.slice a d.length c).ownBlock ≠ some b) :
    CmpE Tryz.prog 75 [.pointer (some ⟨bx, 0, none⟩)] (keyD d) b w (fun x => 0 ≤ x ∧ x < d.length) := ⟨fun w' hO x y hx hy => by
  obtain ⟨i, rfl⟩ : ∃ i : Nat, x = i := ⟨x.toNat, by omega⟩
  obtain ⟨j, rfl⟩ : ∃ j : Nat, y = j := ⟨y.toNat, by omega⟩
  have := hO.at_ hb h1
  have : RowI w' (.slice a d.length c) false 1 (d.map intV) := ⟨hO.row hrow h2⟩
  exact cmp_order bx a c d w' i j (by omega) (by omega)⟩

def ordF (d : List Int) : List Int := ssort (keyD d) (upN d.length)
theorem ordF_len (d : List Int) : (ordF d).length = d.length := by rw [ordF, ssort_len, upN_len]

structure OrdI (bx : Nat) (a : Option Addr) (c : Nat) (d : List Int) (w : World) : Prop where
  box : At w bx 0 [.slice a d.length c]
  row : RowV w false 1 (.slice a d.length c) (d.map intV)

set_option maxHeartbeats 1000000 in
theorem order1_rack (bx : Nat) (a : Option Addr) (c : Nat) (d : List Int) (hl : d.length ≤ 1000) : Iter Tryz.prog 73 [.pointer (some ⟨bx, 0, none⟩)] (ordF d) encI (OrdI bx a c d) := by
  intro l J Jx M w hJ hJx hF hM1 hM2 hY h0
  have hF0 := hF 0 w h0
  have := hF0.box
  refine Calls.ofW (by simp) ?_
  (refine jjB (jjC (jJ (eS rfl) (jz (jjB (jjB ?_))))); refine jjC (jN rfl rfl rfl (jh rfl (jI (eI rfl) (jz (jjD ?_))))))
  refine W.loop (10 :: 11 :: 4 :: 12 :: 13 :: 14 :: 15 :: 3 :: 16 :: 9 :: []) (fun g s' w' => ∃ (i : Nat) (v : Value), s' 9 = .int .i64 ((i : Nat) : Int) ∧ s' 3 = v ∧ g = d.length - i ∧ i ≤ d.length ∧ OwnL w' w.heap.size 3 false 1 v ((upN i).map intV)) d.length ⟨0, _, rfl, rfl, rfl, Nat.zero_le _, OwnL.nil _ _ _ _ _⟩ ?_
  rintro _ sd w1 hS1 ⟨i, v, h9, h3, rfl, hi, hO1⟩
  refine W.fix h9 (W.fix (d := 3) h3 ?_)
  clear h9 h3
  have z1 := hS1.size
  repeat' (first|((first|apply jI|apply jJ); (first|exact eI rfl|exact rfl))|(refine jW (jX rfl rfl ?_))|refine jv ?_|refine jz ?_|(refine jjA ?_; (first|refine jjB ?_|refine jjC ?_|refine jjD ?_|refine jjE ?_|refine jjG ?_))|(refine jjA ?_; (refine jjN rfl ?_ ?_ <;> intro _)))
  · (refine jjP (v := .int _ _) rfl (by exact rfl) (by exact rfl) (by exact rfl) (by exact rfl) ?_; intro b2 w_b2 hb_b2 hs_b2 hS_b2 hk_b2; have hR_b2 := RowV.one (agg := false) (k := 1) rfl hk_b2)
    have z2 := hS_b2.size
    refine Ops.appendL (hO1.ext hS_b2.ext) (by omega) hR_b2 rfl rfl rfl rfl (one_int _) ?_ ?_ ?_
    · simp only [List.length_map, upN_len, List.length_cons, List.length_nil]; omega
    · simp only [List.length_map, upN_len, List.length_cons, List.length_nil]; omega
    intro v2 w2 hA2 hO2 _ _
    have hE2 : Ext w w2 := hA2.ext inferInstance (Nat.le_refl _)
    (refine jJ rfl (jz (jjC (jY rfl rfl (by omega) (jI (eI rfl) (jz ?_))))))
    refine ⟨rfl, by (((iterate 12 refine Same.upd rfl ?_); exact Same.ovN)), d.length - (i + 1), by omega, hE2, i + 1, v2, congrArg (Value.int .i64) (by omega), rfl, rfl, by omega, ?_⟩
    rw [upN_succ, List.map_append]; exact hO2
  · have hie : i = d.length := by omega
    subst hie
    have hFj := hF 0 w1 (hJ _ _ _ h0 hS1.ext)
    obtain ⟨av, cv, ev⟩ := hO1.slice
    rw [List.length_map, upN_len] at ev
    subst ev
    have hsort : Calls Tryz.prog 74 [.slice av d.length cv, .func (.func 75) #[] [Value.pointer (some ⟨bx, 0, none⟩)].toArray].toArray w1 fun e w' => (∃ v, e = .returned v) ∧ Ext w w' ∧ OwnL w' w.heap.size 3 false 1 (.slice av d.length cv) ((ordF d).map intV) := by
      rcases Nat.eq_zero_or_pos d.length with h0 | h0
      · refine (SortStable_none _ d.length cv av w1 h0).mono fun e w' ⟨h1, h2⟩ => ⟨h1, hS1.ext.trans h2, ?_⟩
        have h3 : ordF d = upN d.length := by
          have h4 := ordF_len d
          have h5 := upN_len d.length
          rw [h0] at h4 h5
          rw [List.eq_nil_of_length_eq_zero h4, h0, List.eq_nil_of_length_eq_zero h5]
        rw [h3]; exact hO1.ext h2
      · obtain ⟨g, rfl, hg, hOg⟩ := hO1.self (by rw [List.length_map, upN_len]; exact h0)
        have hbx := hF0.box.lt
        have hne : (Value.slice a d.length c).ownBlock ≠ some g := fun e => by
          obtain ⟨b', o', rfl, hA⟩ := hF0.row.place' (map_get (j := 0) h0)
          have := hA.lt
          simp only [Value.ownBlock, Option.some.injEq] at e
          omega
        refine (SortStable_int g d.length cv 75 [Value.pointer (some ⟨bx, 0, none⟩)] (keyD d) _ (upN d.length) w1 (by omega) (fun x hx => upN_mem.1 hx) ⟨upN_len _, hOg⟩ (cmp_order_E bx a c g d w1 hFj.box hFj.row (by omega) hne)).mono ?_
        rintro e w' ⟨h1, h2, h3⟩
        exact ⟨h1, h2.ext hS1.ext hg, h3.2.mono hg⟩
    have hol := ordF_len d
    skip
    refine Ops.callR rfl (Enters.h (P := Tryz.prog) (g := 74)) rfl hsort ?_
    rintro _ w2 ⟨⟨v, rfl⟩, hE2, hO2⟩
    refine ⟨_, rfl, ?_⟩
    (refine jz (jjB (jjC (jI (eS rfl) (jh rfl (jI (eI rfl) ?_))))); refine jz (jjD ?_))
    refine W.keep0 [(0, .func (.yield l) #[] #[]), (20, .slice av d.length cv), (21, .int .i64 ((d.length : Nat) : Int)), (22, .int .i64 ((0 : Nat) : Int))] ⟨rfl, eS rfl, eI rfl, eI rfl, trivial⟩ fun s0 => ?_
    clear hsort
    refine W.loopG (23 :: 24 :: 25 :: 6 :: 26 :: 27 :: 28 :: 29 :: 30 :: 22 :: []) (fun gg s' w' => ∃ i : Nat, s' 22 = .int .i64 ((i : Nat) : Int) ∧ gg = d.length - i ∧ i ≤ d.length ∧ J i w' ∧ OwnL w' w.heap.size 3 false 1 (.slice av d.length cv) ((ordF d).map intV) ∧ ∀ g, (Value.slice av d.length cv).ownBlock = some g → ¬ M w' g) d.length ⟨0, rfl, rfl, Nat.zero_le _, hJ _ _ _ h0 hE2, hO2, fun g e h => by have := hM1 0 w g h0 (hM2 0 w w2 g h0 hE2 h); have := (hO2.block g e).1; omega⟩ ?_
    clear hO2 hE2 hO1
    rintro _ sd2 w3 ⟨i, h22, rfl, hi, hJ3, hO3, hM3⟩
    refine W.fix h22 ?_
    clear h22
    have : RowI w3 (.slice av d.length cv) false 1 ((ordF d).map intV) := ⟨hO3.row⟩
    repeat' (first|((first|apply jI|apply jJ); (first|exact eI rfl|exact eF rfl))|(refine jM (jQ rfl rfl ?_))|(refine jW (jX rfl rfl ?_))|(refine jE ?_; (refine jF rfl rfl rfl (map_get (by omega)) ?_; intro _ _ _))|refine jz ?_|(refine jjA ?_; (first|refine jjB ?_|refine jjC ?_|refine jjD ?_|refine jjE ?_|refine jjG ?_))|(refine jjA ?_; (refine jjN rfl ?_ ?_ <;> intro _))|refine jA rfl ⟨⟨_, rfl⟩, ?_⟩)
    · have hget := List.getElem?_eq_getElem (l := ordF d) (i := i) (by omega)
      refine Ops.yield (hY _ _ _ hget hJ3) rfl rfl ?_
      rintro e w9 (⟨rfl, hJ9, hFr⟩ | ⟨rfl, hJx9⟩)
      · refine ⟨_, rfl, ?_⟩
        (refine jp rfl (jz (jjK rfl (jjG (jjC (jY rfl rfl (by omega) ?_))))); refine jI (eI rfl) (jz ?_))
        refine ⟨rfl, by (((iterate 11 refine Same.upd rfl ?_); exact Same.ovN)), d.length - (i + 1), by omega, i + 1, congrArg (Value.int .i64) (by omega), rfl, by omega, hJ9, hO3.fr hFr hM3, fun g e h => (hFr.own _ h).elim (hM3 g e) (fun h => by have := (hO3.block g e).2; omega)⟩
      · refine ⟨_, rfl, ?_⟩
        (refine jq rfl (jz (jjJ rfl (jjF ?_))); refine jA rfl ⟨⟨_, rfl⟩, ?_⟩)
        exact .inr ⟨_, (List.getElem?_eq_some_iff.1 hget).1, hJx9⟩
    · have hie : i = (ordF d).length := by omega
      subst hie
      exact .inl hJ3

theorem order_rack (a : Option Addr) (c : Nat) (d : List Int) (w : World) : Ct Tryz.prog 34 [.slice a d.length c] w fun v w' => ∃ b, w.heap.size ≤ b ∧ At w' b 0 [.slice a d.length c] ∧ v = .func (.func 73) #[] [Value.pointer (some ⟨b, 0, none⟩)].toArray := by
  refine Ct.ofW (by simp) ?_
  (refine jjB (jjC ?_))
  (refine jy rfl ?_; intro b1 w_b1 hb_b1 hs_b1 hS_b1 hk_b1; have hA_b1 := At.ofBlock hk_b1)
  (refine jJ rfl (jz (jjB (jjC (jv (jJ (eF rfl) ?_))))); refine jz (jjF ?_); refine jB rfl rfl ⟨inferInstance, ?_⟩)
  exact ⟨b1, by omega, hA_b1, rfl⟩

abbrev OpS := Int × List (Int × Int) × List Int
def opS (st : OpS) (i : Int) : OpS := (i, (if i < st.1 then st.2.1 ++ [(st.1, i)] else st.2.1), st.2.2.set i.toNat (if i < st.1 then st.2.1 ++ [(st.1, i)] else st.2.1).length)
def opF (n : Nat) (L : List Int) : OpS := L.foldl opS (-1, [], List.replicate n 0)
theorem opF_snoc (n : Nat) (L : List Int) (i : Int) : opF n (L ++ [i]) = opS (opF n L) i := by simp [opF]
theorem opF_len (n : Nat) (L : List Int) : (opF n L).2.2.length = n ∧ (opF n L).2.1.length ≤ L.length := by
  suffices h : ∀ (M : List Int) (st : OpS), (M.foldl opS st).2.2.length = st.2.2.length ∧ (M.foldl opS st).2.1.length ≤ st.2.1.length + M.length by
    have := h L (-1, [], List.replicate n 0)
    simp only [List.length_replicate, List.length_nil] at this
    exact ⟨this.1, by simpa [opF] using this.2⟩
  intro M
  induction M with
  | nil => intro st; simp
  | cons x M ih =>
    intro st
    have := ih (opS st x)
    simp only [List.foldl_cons, List.length_cons]
    refine ⟨by rw [this.1]; simp [opS], Nat.le_trans this.2 ?_⟩
    simp only [opS]
    split
    · simp; omega
    · omega
def opE (d : List Int) (boxes : Int) : Int := if deckB d then (if inB 2 20 boxes then 0 else 61) else 60

def OpenR (a : Option Addr) (c : Nat) (d : List Int) (boxes : Int) (B : Nat) (v : Value) (w' : World) : Prop :=
  (opE d boxes ≠ 0 ∧ v = .tuple #[.pointer none, .int .i64 (opE d boxes)]) ∨
  (opE d boxes = 0 ∧ ∃ bb bn ae ce, v = .tuple #[.pointer (some ⟨bb, 0, none⟩), .int .i64 0] ∧ B ≤ bb ∧ B ≤ bn ∧
    At w' bb 0 [.slice (some ⟨bn, 0, none⟩) d.length d.length, .slice ae (opF d.length (ordF d)).2.1.length ce, .slice a d.length c, .int .i64 boxes] ∧
    RowV w' false 1 (.slice (some ⟨bn, 0, none⟩) d.length d.length) ((opF d.length (ordF d)).2.2.map intV) ∧ RowV w' true 2 (.slice ae (opF d.length (ordF d)).2.1.length ce) ((opF d.length (ordF d)).2.1.map encII))

set_option maxHeartbeats 4000000 in
theorem open_rack (a : Option Addr) (c : Nat) (d : List Int) (boxes : Int) (w : World) (hl : d.length ≤ 1000000) [hrow : RowI w (.slice a d.length c) false 1 (d.map intV)] :
    Ct Tryz.prog 33 [.slice a d.length c, .int .i64 boxes] w fun v w' => OpenR a c d boxes w.heap.size v w' := by
  refine Ct.ofWM (by simp) ?_
  (refine jjB (jjC (jJ (eN rfl) (jJ (eI rfl) (jz (jjB ?_))))); refine jjB (jjC (jI (eS rfl) ?_)))
  refine jjQ (Check_rack a c d _ hl) rfl rfl ?_
  rintro _ w2 hS2 rfl
  cases hdk : deckB d
  · (refine jJ (eI rfl) (jz (jjB (jjC (jI (eI rfl) (jc rfl rfl ?_))))); refine jz (jjJ rfl (jjB (jjC (jI (eI rfl) (jJ (eN rfl) ?_))))); refine jJ (eI rfl) (jz (jjF ?_)))
    refine fin2M rfl rfl rfl inferInstance fun w' g => ⟨Ext.ofGrow inferInstance g (Nat.le_refl _), .inl ⟨by simp [opE, hdk], ?_⟩⟩
    simp only [opE, hdk]; exact rfl
  · (refine jJ (eI rfl) (jz (jjB (jjC (jI (eI rfl) (jc rfl rfl ?_))))); refine jz (jjK rfl (jjG (jjB (jjB (jjC ?_))))); refine jI (eI rfl) ?_)
    (refine jjP (v := .int _ _) rfl (by exact rfl) (by exact rfl) (by exact rfl) (by exact rfl) ?_; intro b3 w_b3 hb_b3 hs_b3 hS_b3 hk_b3; have hR_b3 := RowV.one (agg := false) (k := 1) rfl hk_b3)
    ((skip); refine jjQ (in_rack 2 20 _ [boxes] _ hR_b3) rfl rfl ?_)
    rintro _ w3 hS3 rfl
    have z03 := (inferInstance : Ext w w3).size
    have z33 := hS3.size
    rw [all_one]
    cases hbx : inB 2 20 boxes
    · (refine jq rfl (jz (jjJ rfl (jjB (jjC (jJ (eN rfl) ?_))))); refine jJ (eI rfl) (jz (jjF ?_)))
      refine fin2M rfl rfl rfl inferInstance fun w' g => ⟨Ext.ofGrow inferInstance g (Nat.le_refl _), .inl ⟨by simp [opE, hdk, hbx], ?_⟩⟩
      simp only [opE, hdk, hbx]; exact rfl
    have he : opE d boxes = 0 := by simp [opE, hdk, hbx]
    have hd60 := deckB_len hdk
    (refine jp rfl (jz (jjK rfl (jjG (jjB (jjC ?_))))); refine jI (eS rfl) (jI (eI rfl) ?_))
    (refine jjS (cells := [.slice none 0 0, .slice none 0 0, .slice a d.length c, .int .i64 boxes]) ?_ ?_; exact rfl)
    (refine jy rfl ?_; intro bb w_bb hb_bb hs_bb hS_bb hk_bb; have hA_bb := At.ofBlock hk_bb)
    have hB_bb : Bk w_bb bb [.slice none 0 0, .slice none 0 0, .slice a d.length c, .int .i64 boxes] 152 := ⟨hk_bb⟩
    (apply jjR rfl; (intro _; first|exact eI rfl|exact eB rfl|exact eP rfl|exact eS rfl|exact eT rfl|exact eA rfl|exact eU rfl|exact eF rfl|exact eM rfl|exact eN rfl|exact rfl); exact rfl; exact rfl; exact rfl; exact rfl; intro b7 w_b7 hb_b7 hs_b7 hS_b7 hk_b7; have hA_b7 := Bk.of hk_b7)
    have z7 := hS_b7.size
    (refine jz (jjB ?_))
    refine W.draw (fun w' => Only bb w_b7 w') ?_
    intro w5 hS5
    have hO5 : Only bb w_b7 w5 := .ofExt hS5.ext
    refine jjV [0, 1, 2] (by decide +kernel) hO5 ?_
    (((apply jjT; exact rfl; rintro w' hq; have := hq.at_ (hA_b7.toAt) (show b7 ≠ bb by omega); refine jN rfl rfl rfl (jz ?_); exact ⟨rfl, rfl⟩; apply jjT; exact rfl; rintro w' hq; have := hq.at_ (hA_b7.toAt) (show b7 ≠ bb by omega); refine jI (eS rfl) (jz ?_); exact ⟨rfl, rfl⟩; apply jjT; exact rfl; rintro w' hq; have := hq.at_ (hA_b7.toAt) (show b7 ≠ bb by omega); refine jh rfl (jz ?_); exact ⟨rfl, rfl⟩; refine jjU ?_)))
    apply jjW 3 (by decide +kernel) rfl hO5
    refine Ops.makeS (m := d.length) rfl rfl rfl rfl (by omega) (by omega) ?_
    intro bn w6 hbn hs6 hS6 hB6
    refine jz ?_
    have z5 := hS5.size
    have hO6 : Only bb w_b7 w6 := hO5.trans (.ofExt hS6.ext)
    refine jjV [4, 5, 6] (by decide +kernel) hO6 ?_
    (((apply jjT; exact rfl; rintro w' hq; refine jw rfl (jz ?_); exact ⟨rfl, rfl⟩; apply jjT; exact rfl; rintro w' hq; refine jm (jn rfl (jz ?_)); exact ⟨rfl, rfl⟩; apply jjT; exact rfl; rintro w' hq; refine jm (jn rfl (jz ?_)); exact ⟨rfl, rfl⟩; refine jjU ?_)))
    apply jjW 7 (by decide +kernel) rfl hO6
    have hBb6 : Bk w6 bb [.slice none 0 0, .slice none 0 0, .slice a d.length c, .int .i64 boxes] 152 := (hB_bb.ext hS_b7.ext).ext (hS5.ext.trans hS6.ext)
    refine Ops.store rfl (eS rfl) rfl rfl rfl ?_
    intro w7 hp7
    refine jz ?_
    refine jjX (by decide +kernel) (hO6.trans (.ofPut hp7)) ?_
    have hE6 : Ext w w6 := inferInstance
    have z6 := hE6.size
    have hE7 : Ext w w7 := hp7.ext hE6 (by omega)
    have hS7 := hE7.toStep
    have z7' := hp7.size
    have hBb7 : Bk w7 bb [.slice (some ⟨bn, 0, none⟩) d.length d.length, .slice none 0 0, .slice a d.length c, .int .i64 boxes] 152 := ⟨hp7.new⟩
    have hB77 : Bk w7 b7 [.pointer (some ⟨bb, 0, none⟩)] _ := hp7.bk ((hA_b7.ext hS5.ext).ext hS6.ext) (show b7 ≠ bb by omega)
    have hBn7 : Bk w7 bn _ _ := hp7.bk hB6 (show bn ≠ bb by omega)
    have hrep : List.replicate d.length (Value.int .i64 0) = (List.replicate d.length (0 : Int)).map intV := by simp
    rw [hrep] at hBn7
    clear hp7 hBb6 hO6 hB6 hE6 hO5
    (refine jjB (jjC ?_))
    (apply jjR rfl; (intro _; first|exact eI rfl|exact eB rfl|exact eP rfl|exact eS rfl|exact eT rfl|exact eA rfl|exact eU rfl|exact eF rfl|exact eM rfl|exact eN rfl|exact rfl); exact rfl; exact rfl; exact rfl; exact rfl; intro b8 w_b8 hb_b8 hs_b8 hS_b8 hk_b8; have hA_b8 := Bk.of hk_b8)
    have z8 := hS_b8.size
    (refine jz (jjB (jjB (jjC (jI (eS rfl) ?_)))))
    ((skip); refine jjQ (order_rack a c d _) rfl rfl ?_)
    rintro _ w9 hS9 ⟨bx, hbx9, hAx, rfl⟩
    (refine jz (jjD ?_))
    have hE9 : Ext w w9 := inferInstance
    have hE79 : Ext w7 w9 := hS_b8.ext.trans hS9.ext
    have z9 := hS9.size
    have hax := hAx.lt
    have hol := ordF_len d
    refine W.rangeM w.heap.size (ordF d) encI (order1_rack bx a c d (by omega)) rfl (fun _ => rfl) trivial inferInstance hE9.size
      (fun i V => Ext w V ∧ w9.heap.size ≤ V.heap.size ∧ At V b7 0 [.pointer (some ⟨bb, 0, none⟩)] ∧ Bk V b8 [.int .i64 (opF d.length ((ordF d).take i)).1] 3 ∧ At V bx 0 [.slice a d.length c] ∧ Bk V bn ((opF d.length ((ordF d).take i)).2.2.map intV) 3 ∧ ∃ ev, Bk V bb [.slice (some ⟨bn, 0, none⟩) d.length d.length, ev, .slice a d.length c, .int .i64 boxes] 152 ∧ OwnL V w9.heap.size 141 true 2 ev ((opF d.length ((ordF d).take i)).2.1.map encII))
      (fun _ _ _ => False) ?hJ (fun _ _ _ _ h _ => h) ?hF ?h0 (MO w9.heap.size bb 1) ?hW1 ?hW2 ?hW3 (fun x s' _ => s' 7 = .pointer (some ⟨b7, 0, none⟩) ∧ s' 8 = .pointer (some ⟨b8, 0, none⟩) ∧ s' 9 = .int .i64 x) (fun _ _ _ _ h _ => h) ?hassign ?hbody ?hdone (fun _ _ _ _ _ _ _ h => h.elim)
    case hJ =>
      rintro i V V' ⟨q1, q2, q3, q4, q5, q6, ev, q7, q8⟩ g
      exact ⟨q1.ofGrow g hE9.size, Nat.le_trans q2 g.size, q3.grow g, q4.grow g, q5.grow g, q6.grow g, ev, q7.grow g, q8.grow g⟩
    case hF =>
      rintro i V ⟨q1, q2, q3, q4, q5, _⟩
      exact ⟨q5, hrow.h.ext q1⟩
    case h0 =>
      exact ⟨hE9, Nat.le_refl _, (Bk.toAt (h := hB77)).ext hE79, inferInstance, hAx, hBn7.ext hE79, _, hBb7.ext hE79, OwnL.nil _ _ _ _ _⟩
    case hW1 => exact fun i V k ⟨q1, q2, q3, q4, q5, q6, ev, q7, q8⟩ h => MO.lt q2 (q7.cellO rfl) (fun g e => (q8.block g e).2) h
    case hW2 => exact fun i V V' k ⟨q1, q2, q3, q4, q5, q6, ev, q7, q8⟩ g h => MO.back (q7.cellO rfl) g h
    case hW3 => exact fun V V' k g h => .inl (MO.grow (by omega) g h)
    case hassign =>
      intro l i x V hx hJ hl hr
      (refine jjC (jJ (eI rfl) (jz ?_)))
      exact ⟨rfl, Tr.refl _, Fr.refl _ _, hJ, rfl, rfl, rfl⟩
    case hbody =>
      rintro l i x s' V hx ⟨q1, q2, q3, q4, q5, q6, ev, q7, q8⟩ ⟨ha7, ha8, ha9⟩ hl hr
      have hxm := List.mem_of_getElem? hx
      rw [ordF, ssort_mem, upN_mem] at hxm
      obtain ⟨xi, rfl⟩ : ∃ xi : Nat, x = xi := ⟨x.toNat, by omega⟩
      have hlt := (List.getElem?_eq_some_iff.1 hx).1
      have hlen := opF_len d.length ((ordF d).take i)
      rw [List.length_take] at hlen
      refine W.fix (d := 7) ha7 (W.fix (d := 8) ha8 (W.fix (d := 9) ha9 ?_))
      have hxn : xi < d.length := by omega
      obtain ⟨st, hst⟩ : ∃ st, st = opF d.length ((ordF d).take i) := ⟨_, rfl⟩
      have hst1 : opF d.length ((ordF d).take (i + 1)) = opS st (xi : Int) := by rw [take_snoc_get hx, opF_snoc, hst]
      rw [hst1]
      rw [← hst] at q4 q6 q8 hlen
      clear hst hst1 ha7 ha8 ha9 hx
      have hb7 := q3.lt
      have hbb := q7.lt
      have hb8 := q4.lt
      have hbn' := q6.lt
      refine jjA ?_
      refine jjD ?_
      refine jjA ?_
      refine jjB ?_
      refine W.cutL [(7, .pointer (some ⟨b7, 0, none⟩)), (8, .pointer (some ⟨b8, 0, none⟩)), (9, .int .i64 (xi : Int))] (fun V1 => ∃ ev1, Bk V1 bb [.slice (some ⟨bn, 0, none⟩) d.length d.length, ev1, .slice a d.length c, .int .i64 boxes] 152 ∧ OwnL V1 w9.heap.size 141 true 2 ev1 ((opS st (xi : Int)).2.1.map encII) ∧ Tr V V1 ∧ Ext w V1 ∧ (∀ k ob, V.heap[k]? = some ob → w9.heap.size ≤ k → ev.ownBlock ≠ some k → V1.heap[k]? = some ob) ∧ (ev1.ownBlock = ev.ownBlock ∨ ∃ g, ev1.ownBlock = some g ∧ V.heap.size ≤ g) ∧ At V1 b7 0 [.pointer (some ⟨bb, 0, none⟩)] ∧ Bk V1 b8 [.int .i64 st.1] 3 ∧ At V1 bx 0 [.slice a d.length c] ∧ Bk V1 bn (st.2.2.map intV) 3) ?_ ?_
      · repeat' (first|(apply jI; exact eI rfl)|(refine jM (jN rfl rfl rfl ?_))|(refine jW (jX rfl rfl ?_))|refine jz ?_|(refine jjA ?_; (first|refine jjB ?_|refine jjC ?_|refine jjG ?_))|(refine jjA ?_; (refine jjN rfl ?_ ?_ <;> intro _)))
        · have hlt' : (xi : Int) < st.1 := ‹_›
          refine W.draw (fun V' => At V' b7 0 [.pointer (some ⟨bb, 0, none⟩)] ∧ At V' b8 0 [.int .i64 st.1]) ?_
          intro V1 hS1
          have s1 : At V1 b7 0 [.pointer (some ⟨bb, 0, none⟩)] ∧ At V1 b8 0 [.int .i64 st.1] := ⟨q3.ext hS1.ext, (Bk.toAt (h := q4)).ext hS1.ext⟩
          refine jjV [0, 1, 2, 3, 4, 6, 7] (by decide +kernel) s1 ?_
          (((apply jjT; exact rfl; rintro w' ⟨hq1, hq2⟩; refine jN rfl rfl rfl (jz ?_); exact ⟨rfl, rfl⟩; apply jjT; exact rfl; rintro w' ⟨hq1, hq2⟩; refine jN rfl rfl rfl (jz ?_); exact ⟨rfl, rfl⟩; apply jjT; exact rfl; rintro w' ⟨hq1, hq2⟩; refine jw rfl (jz ?_); exact ⟨rfl, rfl⟩; apply jjT; exact rfl; rintro w' ⟨hq1, hq2⟩; refine jm (jn rfl (jz ?_)); exact ⟨rfl, rfl⟩; apply jjT; exact rfl; rintro w' ⟨hq1, hq2⟩; refine jm (jn rfl (jz ?_)); exact ⟨rfl, rfl⟩; apply jjT; exact rfl; rintro w' ⟨hq1, hq2⟩; refine jN rfl rfl rfl (jz ?_); exact ⟨rfl, rfl⟩; refine jjT rfl (fun _ _ => jI (eI rfl) (jz ⟨rfl, rfl⟩)) (jjU ?_))))
          refine jjV [8] (by decide +kernel) s1 ?_
          apply jjT
          · exact rfl
          · intro wq _
            (refine jjS (cells := [.int .i64 st.1, .int .i64 (xi : Int)]) ?_ ?_; exact rfl)
            refine jz ?_
            exact ⟨rfl, rfl⟩
          refine jjU ?_
          have q71 : Bk V1 bb _ _ := q7.ext hS1.ext
          have hcev := q71.cellO (o := 1) rfl
          have zV1 := hS1.size
          obtain ⟨ae, ce, rfl⟩ := q8.slice
          have hne : ∀ k, k < w9.heap.size → (Value.slice ae (st.2.1.map encII).length ce).ownBlock ≠ some k := fun k hk e => by have := (q8.block k e).1; omega
          refine jjl 5 9 (by decide +kernel) rfl rfl s1 ?b1 ?b2
          case b1 =>
            refine jR hcev rfl rfl ?_
            refine jz ?_
            apply jjW 9 (by decide +kernel) rfl s1
            (refine jjP (v := .agg _) rfl (by exact rfl) (by exact rfl) (by exact rfl) (by exact rfl) ?_; intro b45 w_b45 hb_b45 hs_b45 hS_b45 hk_b45; have hR_b45 := RowV.one (agg := true) (k := 2) rfl hk_b45)
            refine jz ?_
            have s2 : At w_b45 b7 0 [.pointer (some ⟨bb, 0, none⟩)] ∧ At w_b45 b8 0 [.int .i64 st.1] := ⟨s1.1.ext hS_b45.ext, s1.2.ext hS_b45.ext⟩
            have z45 := hS_b45.size
            have hEV : Ext V w_b45 := hS1.ext.trans hS_b45.ext
            apply jjW 10 (by decide +kernel) rfl s2
            refine Ops.appendL (q8.ext hEV) (by omega) hR_b45 rfl rfl rfl rfl rfl ?_ ?_ ?_
            · simp only [List.length_map, List.length_cons, List.length_nil]; omega
            · simp only [List.length_map, List.length_cons, List.length_nil]; omega
            intro v46 V3 hA3 hO3 _ hw3
            obtain ⟨a3, c3, rfl⟩ := hO3.slice
            refine jz ?_
            have s3 : At V3 b7 0 [.pointer (some ⟨bb, 0, none⟩)] ∧ At V3 b8 0 [.int .i64 st.1] := ⟨hA3.at_ s2.1 (hne b7 (by omega)), hA3.at_ s2.2 (hne b8 (by omega))⟩
            refine jjV [11, 12, 13] (by decide +kernel) s3 ?_
            (((apply jjT; exact rfl; rintro w' ⟨hq1, hq2⟩; refine jw rfl (jz ?_); exact ⟨rfl, rfl⟩; apply jjT; exact rfl; rintro w' ⟨hq1, hq2⟩; refine jm (jn rfl (jz ?_)); exact ⟨rfl, rfl⟩; apply jjT; exact rfl; rintro w' ⟨hq1, hq2⟩; refine jm (jn rfl (jz ?_)); exact ⟨rfl, rfl⟩; refine jjU ?_)))
            apply jjW 14 (by decide +kernel) rfl s3
            have B3 : Bk V3 bb _ _ := hA3.bk (q7.ext hEV) (hne bb (by omega))
            have zA := hA3.g.size
            refine Ops.store rfl (eS rfl) rfl rfl rfl ?_
            intro V4 hp4
            refine jz ?_
            have s4 : At V4 b7 0 [.pointer (some ⟨bb, 0, none⟩)] ∧ At V4 b8 0 [.int .i64 st.1] := ⟨hp4.at_ s3.1 (by omega), hp4.at_ s3.2 (by omega)⟩
            refine jjX (by decide +kernel) s4 ?_
            have e1 : (opS st (xi : Int)).2.1 = st.2.1 ++ [(st.1, (xi : Int))] := by simp only [opS]; rw [if_pos hlt']
            rw [e1, List.map_append]
            have hB4 : Bk V4 bb _ _ := ⟨hp4.new⟩
            refine ⟨rfl, ⟨eP rfl, eP rfl, eI rfl, trivial⟩, _, hB4, hO3.put hp4 ?_, (hEV.tr.trans hA3.tr).trans (hp4.tr ⟨_, B3.h, rfl⟩), hp4.ext (hA3.ext (q1.trans hEV) (by omega)) (by omega), fun k ob h1 hk hn => (hp4.other k (by omega)).trans (hA3.other (hEV.block' h1) hn), ?_, s4.1, hp4.bk (hA3.bk (q4.ext hEV) (hne b8 (by omega))) (by omega), hp4.at_ (hA3.at_ (q5.ext hEV) (hne bx (by omega))) (by omega), hp4.bk (hA3.bk (q6.ext hEV) (hne bn (by omega))) (by omega)⟩
            · intro e
              rcases hw3 with h | h
              · rw [h] at e; exact hne bb (by omega) e
              · rw [h] at e; cases e; omega
            · rcases hw3 with h | h
              · exact .inl h
              · exact .inr ⟨_, h, by have := hEV.size; omega⟩
          case b2 =>
            (refine jjP (v := .agg _) rfl (by exact rfl) (by exact rfl) (by exact rfl) (by exact rfl) ?_; intro b45 w_b45 hb_b45 hs_b45 hS_b45 hk_b45; have hR_b45 := RowV.one (agg := true) (k := 2) rfl hk_b45)
            refine jz ?_
            have s2 : At w_b45 b7 0 [.pointer (some ⟨bb, 0, none⟩)] ∧ At w_b45 b8 0 [.int .i64 st.1] := ⟨s1.1.ext hS_b45.ext, s1.2.ext hS_b45.ext⟩
            apply jjW 5 (by decide +kernel) rfl s2
            refine jR ((q71.ext hS_b45.ext).cellO (o := 1) rfl) rfl rfl ?_
            refine jz ?_
            have z45 := hS_b45.size
            have hEV : Ext V w_b45 := hS1.ext.trans hS_b45.ext
            apply jjW 10 (by decide +kernel) rfl s2
            refine Ops.appendL (q8.ext hEV) (by omega) hR_b45 rfl rfl rfl rfl rfl ?_ ?_ ?_
            · simp only [List.length_map, List.length_cons, List.length_nil]; omega
            · simp only [List.length_map, List.length_cons, List.length_nil]; omega
            intro v46 V3 hA3 hO3 _ hw3
            obtain ⟨a3, c3, rfl⟩ := hO3.slice
            refine jz ?_
            have s3 : At V3 b7 0 [.pointer (some ⟨bb, 0, none⟩)] ∧ At V3 b8 0 [.int .i64 st.1] := ⟨hA3.at_ s2.1 (hne b7 (by omega)), hA3.at_ s2.2 (hne b8 (by omega))⟩
            refine jjV [11, 12, 13] (by decide +kernel) s3 ?_
            (((apply jjT; exact rfl; rintro w' ⟨hq1, hq2⟩; refine jw rfl (jz ?_); exact ⟨rfl, rfl⟩; apply jjT; exact rfl; rintro w' ⟨hq1, hq2⟩; refine jm (jn rfl (jz ?_)); exact ⟨rfl, rfl⟩; apply jjT; exact rfl; rintro w' ⟨hq1, hq2⟩; refine jm (jn rfl (jz ?_)); exact ⟨rfl, rfl⟩; refine jjU ?_)))
            apply jjW 14 (by decide +kernel) rfl s3
            have B3 : Bk V3 bb _ _ := hA3.bk (q7.ext hEV) (hne bb (by omega))
            have zA := hA3.g.size
            refine Ops.store rfl (eS rfl) rfl rfl rfl ?_
            intro V4 hp4
            refine jz ?_
            have s4 : At V4 b7 0 [.pointer (some ⟨bb, 0, none⟩)] ∧ At V4 b8 0 [.int .i64 st.1] := ⟨hp4.at_ s3.1 (by omega), hp4.at_ s3.2 (by omega)⟩
            refine jjX (by decide +kernel) s4 ?_
            have e1 : (opS st (xi : Int)).2.1 = st.2.1 ++ [(st.1, (xi : Int))] := by simp only [opS]; rw [if_pos hlt']
            rw [e1, List.map_append]
            have hB4 : Bk V4 bb _ _ := ⟨hp4.new⟩
            refine ⟨rfl, ⟨eP rfl, eP rfl, eI rfl, trivial⟩, _, hB4, hO3.put hp4 ?_, (hEV.tr.trans hA3.tr).trans (hp4.tr ⟨_, B3.h, rfl⟩), hp4.ext (hA3.ext (q1.trans hEV) (by omega)) (by omega), fun k ob h1 hk hn => (hp4.other k (by omega)).trans (hA3.other (hEV.block' h1) hn), ?_, s4.1, hp4.bk (hA3.bk (q4.ext hEV) (hne b8 (by omega))) (by omega), hp4.at_ (hA3.at_ (q5.ext hEV) (hne bx (by omega))) (by omega), hp4.bk (hA3.bk (q6.ext hEV) (hne bn (by omega))) (by omega)⟩
            · intro e
              rcases hw3 with h | h
              · rw [h] at e; exact hne bb (by omega) e
              · rw [h] at e; cases e; omega
            · rcases hw3 with h | h
              · exact .inl h
              · exact .inr ⟨_, h, by have := hEV.size; omega⟩
        · have e1 : (opS st (xi : Int)).2.1 = st.2.1 := by simp only [opS]; rw [if_neg ‹_›]
          rw [e1]
          exact ⟨rfl, ⟨eP rfl, eP rfl, eI rfl, trivial⟩, ev, q7, q8, Tr.refl _, q1, fun k ob h1 _ _ => h1, .inl rfl, q3, q4, q5, q6⟩
      rintro s1 V1 ⟨ev1, r1, r2, r3, r4, r5, r6, r7, r8, r9, r10⟩
      have hnl : st.2.2.length = d.length := hlen.1
      (refine jjB ?_)
      refine W.draw (fun V' => Only bn V1 V') ?_
      intro V2 hS2
      have hO2 : Only bn V1 V2 := .ofExt hS2.ext
      obtain ⟨ae1, ce1, rfl⟩ := r2.slice
      refine jjV [0, 1, 2, 3, 4, 5, 6, 7, 8, 9, 10, 11, 12] (by decide +kernel) hO2 ?_
      (((apply jjT; exact rfl; rintro w' hq; have g1 := hq.at_ r7 (show b7 ≠ bn by omega); have g2 := hq.bk r1 (show bb ≠ bn by omega); refine jN rfl rfl rfl (jz ?_); exact ⟨rfl, rfl⟩; apply jjT; exact rfl; rintro w' hq; have g1 := hq.at_ r7 (show b7 ≠ bn by omega); have g2 := hq.bk r1 (show bb ≠ bn by omega); refine jw rfl (jz ?_); exact ⟨rfl, rfl⟩; apply jjT; exact rfl; rintro w' hq; have g1 := hq.at_ r7 (show b7 ≠ bn by omega); have g2 := hq.bk r1 (show bb ≠ bn by omega); refine jm (jn rfl (jz ?_)); exact ⟨rfl, rfl⟩; apply jjT; exact rfl; rintro w' hq; have g1 := hq.at_ r7 (show b7 ≠ bn by omega); have g2 := hq.bk r1 (show bb ≠ bn by omega); refine jm (jn rfl (jz ?_)); exact ⟨rfl, rfl⟩; apply jjT; exact rfl; rintro w' hq; have g1 := hq.at_ r7 (show b7 ≠ bn by omega); have g2 := hq.bk r1 (show bb ≠ bn by omega); refine jN rfl rfl rfl (jz ?_); exact ⟨rfl, rfl⟩; apply jjT; exact rfl; rintro w' hq; have g1 := hq.at_ r7 (show b7 ≠ bn by omega); have g2 := hq.bk r1 (show bb ≠ bn by omega); refine jI (eI rfl) (jz ?_); exact ⟨rfl, rfl⟩; apply jjT; exact rfl; rintro w' hq; have g1 := hq.at_ r7 (show b7 ≠ bn by omega); have g2 := hq.bk r1 (show bb ≠ bn by omega); refine jN rfl rfl rfl (jz ?_); exact ⟨rfl, rfl⟩; apply jjT; exact rfl; rintro w' hq; have g1 := hq.at_ r7 (show b7 ≠ bn by omega); have g2 := hq.bk r1 (show bb ≠ bn by omega); refine jw rfl (jz ?_); exact ⟨rfl, rfl⟩; apply jjT; exact rfl; rintro w' hq; have g1 := hq.at_ r7 (show b7 ≠ bn by omega); have g2 := hq.bk r1 (show bb ≠ bn by omega); refine jm (jn rfl (jz ?_)); exact ⟨rfl, rfl⟩; apply jjT; exact rfl; rintro w' hq; have g1 := hq.at_ r7 (show b7 ≠ bn by omega); have g2 := hq.bk r1 (show bb ≠ bn by omega); refine jm (jn rfl (jz ?_)); exact ⟨rfl, rfl⟩; apply jjT; exact rfl; rintro w' hq; have g1 := hq.at_ r7 (show b7 ≠ bn by omega); have g2 := hq.bk r1 (show bb ≠ bn by omega); refine jN rfl rfl rfl (jz ?_); exact ⟨rfl, rfl⟩; apply jjT; exact rfl; rintro w' hq; have g1 := hq.at_ r7 (show b7 ≠ bn by omega); have g2 := hq.bk r1 (show bb ≠ bn by omega); refine jh rfl (jz ?_); exact ⟨rfl, rfl⟩; apply jjT; exact rfl; rintro w' hq; have g1 := hq.at_ r7 (show b7 ≠ bn by omega); have g2 := hq.bk r1 (show bb ≠ bn by omega); refine jG rfl rfl rfl (by omega) (jz ?_); exact ⟨rfl, rfl⟩; refine jjU ?_)))
      apply jjW 13 (by decide +kernel) rfl hO2
      have hB2 : Bk V2 bn _ _ := r10.ext hS2.ext
      refine Ops.storeC (b := bn) (j := xi) rfl (eI rfl) rfl rfl (by rw [List.length_map]; omega) ?_
      intro V3 hp3
      refine jz ?_
      refine jjX (by decide +kernel) (hO2.trans (.ofPut hp3)) ?_
      have hE12 := hS2.ext
      have z12 := hE12.size
      have z3 := hp3.size
      have hB3 : Bk V3 bn (((st.2.2.set xi ((opS st (xi : Int)).2.1.length : Int))).map intV) 3 := by
        refine Bk.setI (by omega) ?_
        have := hp3.new
        rw [List.length_map] at this
        exact ⟨this⟩
      have hB83 : Bk V3 b8 _ _ := hp3.bk (r8.ext hE12) (by omega)
      (refine jjC (jI (eI rfl) ?_))
      refine Ops.store rfl (eI rfl) rfl rfl rfl ?_
      intro V4 hp4
      (refine jz ?_)
      have hB4 : Bk V4 b8 [.int .i64 (xi : Int)] 3 := ⟨hp4.new⟩
      have z4 := hp4.size
      have zT := r3.size
      have r1' : Bk V4 bb _ _ := hp4.bk (hp3.bk (r1.ext hE12) (by omega)) (by omega)
      have hno : ∀ k, k < w9.heap.size → (Value.slice ae1 ((opS st (xi : Int)).2.1.map encII).length ce1).ownBlock ≠ some k := fun k hk e => by have := (r2.block k e).1; omega
      refine ⟨((r3.trans hE12.tr).trans (hp3.tr ⟨_, hB2.h, rfl⟩)).trans (hp4.tr ⟨_, hB83.h, rfl⟩), ?_, hp4.ext (hp3.ext (r4.trans hE12) (by omega)) (by omega), by omega, hp4.at_ (hp3.at_ (r7.ext hE12) (by omega)) (by omega), hB4, hp4.at_ (hp3.at_ (r9.ext hE12) (by omega)) (by omega), hp4.bk hB3 (by omega), _, r1', ((r2.ext hE12).put hp3 (hno bn (by omega))).put hp4 (hno b8 (by omega))⟩
      exact MO.fr (by omega) (q7.cellO rfl) (r1'.cellO rfl) (fun k ob h1 h2 h3 => (hp4.other k (by omega)).trans ((hp3.other k (by omega)).trans (hE12.block' (r5 k ob h1 h2 h3)))) r6
    case hdone =>
      rintro ds' V hmk htr ⟨q1, q2, q3, q4, q5, q6, ev, q7, q8⟩
      rw [List.take_length] at q6 q8
      obtain ⟨ae, ce, rfl⟩ := q8.slice
      rw [List.length_map] at q7 q8
      have hlen := opF_len d.length (ordF d)
      (refine jjB (jjC (jN rfl rfl rfl (jJ (eP rfl) (jJ (eI rfl) (jz ?_))))); refine jjF ?_)
      refine fin2M rfl rfl rfl hmk fun w' g => ⟨q1.ofGrow g (Nat.le_refl _), .inr ⟨he, bb, bn, ae, ce, rfl, by omega, by omega, (Bk.toAt (h := q7)).grow g, ?_, q8.row.grow g⟩⟩
      have := (Bk.row q6 (by intro y hy; obtain ⟨z, _, rfl⟩ := List.mem_map.1 hy; rfl) (by rw [List.length_map]; omega)).grow g
      rw [List.length_map, hlen.1] at this
      exact this

abbrev endF (d : List Int) : List (Int × Int) := (opF d.length (ordF d)).2.1
def PassR (b m p : Nat) : Prop := m < b ^ p ∧ ∀ q, q < p → b ^ q ≤ m
theorem PassR.uniq {b m p q : Nat} (h : PassR b m p) (g : PassR b m q) : p = q := by
  rcases Nat.lt_trichotomy p q with c | c | c
  · have := g.2 p c; have := h.1; omega
  · exact c
  · have := h.2 q c; have := g.1; omega
theorem pow_le_60 {b m p : Nat} (hb : b ≤ 20) (hm : m ≤ 60) (h : ∀ q, q < p → b ^ q ≤ m) : b ^ p ≤ 1200 := by
  cases p with
  | zero => simp
  | succ p =>
    have := h p (by omega)
    rw [Nat.pow_succ]
    exact Nat.mul_le_mul (show b ^ p ≤ 60 by omega) hb
theorem p_le_60 {b m p : Nat} (hb : 2 ≤ b) (hm : m ≤ 60) (h : ∀ q, q < p → b ^ q ≤ m) : p ≤ 60 := by
  cases p with
  | zero => omega
  | succ p =>
    have h1 := h p (by omega)
    have h2 : p < 2 ^ p := Nat.lt_two_pow_self
    have h3 : 2 ^ p ≤ b ^ p := Nat.pow_le_pow_left hb p
    omega

abbrev gd (l : List Int) (i : Nat) : Int := l.getD i 0
theorem gd_lt {l : List Int} {i : Nat} (h : i < l.length) : gd l i = l[i] := by simp [gd, List.getD_eq_getElem?_getD, h]
theorem ext_gd {a b : List Int} (hl : a.length = b.length) (h : ∀ i, i < a.length → gd a i = gd b i) : a = b := by
  apply List.ext_getElem hl
  intro i h1 h2
  have := h i h1
  rwa [gd_lt h1, gd_lt h2] at this


def mvF (l : List Int) (f t : Nat) : List Int := (l.eraseIdx f).take t ++ l.getD f 0 :: (l.eraseIdx f).drop t
theorem mvF_len {l : List Int} {f t : Nat} (h : f < l.length) (ht : t < l.length) : (mvF l f t).length = l.length := by
  rw [mvF, List.length_append, List.length_cons, List.length_take, List.length_drop, List.length_eraseIdx, if_pos h]; omega
def mvBad (n : Nat) (m : Int × Int) : Bool := !(inB 0 ((n : Int) - 1) m.1 && inB 0 ((n : Int) - 1) m.2)
theorem mvBad_no {n : Nat} {m : Int × Int} (h : mvBad n m = false) : ∃ f t : Nat, f < n ∧ t < n ∧ m = ((f : Int), (t : Int)) := by
  simp only [mvBad, inB, Bool.not_eq_false', Bool.and_eq_true, decide_eq_true_eq] at h
  obtain ⟨a, b⟩ := m
  simp only at h
  exact ⟨a.toNat, b.toNat, by omega, by omega, by rw [Int.toNat_of_nonneg h.1.1, Int.toNat_of_nonneg h.2.1]⟩
def mvS (l : List Int) (m : Int × Int) : List Int := mvF l m.1.toNat m.2.toNat
def movedF (n : Nat) (ms : List (Int × Int)) : List Int := ms.foldl mvS (upN n)
theorem movedF_snoc (n : Nat) (ms : List (Int × Int)) (m : Int × Int) : movedF n (ms ++ [m]) = mvS (movedF n ms) m := by simp [movedF]
theorem movedF_len {n : Nat} {ms : List (Int × Int)} (h : ∀ m ∈ ms, mvBad n m = false) : (movedF n ms).length = n := by
  suffices k : ∀ (ms : List (Int × Int)) (l : List Int), (∀ m ∈ ms, mvBad n m = false) → l.length = n → (ms.foldl mvS l).length = n from k ms _ h (upN_len n)
  intro ms
  induction ms with
  | nil => intro l _ hl; exact hl
  | cons m ms ih =>
    intro l h hl
    rw [List.foldl_cons]
    refine ih _ (fun x hx => h x (List.mem_cons_of_mem _ hx)) ?_
    obtain ⟨f, t, hf, ht, rfl⟩ := mvBad_no (h m List.mem_cons_self)
    exact (mvF_len (by omega) (by omega)).trans hl

abbrev MSt := List Int × List Int × List (Int × Int)
def pM (d S : List Int) (i : Nat) (k : Int) : Bool := decide (k ∈ S) && decide (gd d i < gd d k.toNat)
def toM (d S r : List Int) (i : Nat) : Nat := if idxV (pM d S i) r < 0 then r.length else (idxV (pM d S i) r).toNat
def mendS (d : List Int) (st : MSt) (i : Nat) : MSt :=
  if (i : Int) ∈ st.2.1 then st else
    (mvF st.1 (st.1.idxOf (i : Int)) (toM d st.2.1 (st.1.eraseIdx (st.1.idxOf (i : Int))) i), (i : Int) :: st.2.1, st.2.2 ++ [(((st.1.idxOf (i : Int) : Nat) : Int), ((toM d st.2.1 (st.1.eraseIdx (st.1.idxOf (i : Int))) i : Nat) : Int))])
def mendF (d K : List Int) (m : Nat) : MSt := (List.range m).foldl (mendS d) (upN d.length, K, [])
theorem mendF_succ (d K : List Int) (m : Nat) : mendF d K (m + 1) = mendS d (mendF d K m) m := by simp [mendF, List.range_succ]
theorem toM_le (d S r : List Int) (i : Nat) : toM d S r i ≤ r.length := by
  rw [toM]
  split
  · exact Nat.le_refl _
  · rename_i h
    unfold idxV at h ⊢
    cases hf : r.findIdx? (pM d S i) with
    | none => rw [hf] at h; simp at h
    | some k =>
      rw [List.findIdx?_eq_some_iff_getElem] at hf
      obtain ⟨hk, _⟩ := hf
      simp; omega
theorem idxOf_facts {l : List Int} {x : Int} (h : x ∈ l) : l.idxOf x < l.length ∧ l[l.idxOf x]? = some x ∧ ∀ j, j < l.idxOf x → l[j]? ≠ some x := by
  have h1 := List.idxOf_lt_length_of_mem h
  refine ⟨h1, ?_, fun j hj hx => ?_⟩
  · rw [List.getElem?_eq_getElem h1, List.getElem_idxOf]
  · have hjl : j < l.length := by omega
    rw [List.getElem?_eq_getElem hjl] at hx
    have := List.not_of_lt_findIdx (p := (· == x)) (xs := l) (i := j) hj
    simp only [beq_eq_false_iff_ne, ne_eq] at this
    exact this (Option.some.inj hx)
theorem upN_nodup (n : Nat) : (upN n).Nodup := by
  rw [upN]
  exact List.Pairwise.map _ (fun a b (h : a ≠ b) => by omega) List.nodup_range
theorem eraseIdx_perm {l : List Int} {f : Nat} {x : Int} (h : l[f]? = some x) : (x :: l.eraseIdx f).Perm l := by
  obtain ⟨hf, rfl⟩ := List.getElem?_eq_some_iff.1 h
  rw [List.eraseIdx_eq_take_drop_succ]
  have e : l = l.take f ++ l[f] :: l.drop (f + 1) := by rw [← List.drop_eq_getElem_cons hf, List.take_append_drop]
  conv => rhs; rw [e]
  exact List.perm_middle.symm
theorem mvF_perm {l : List Int} {f t : Nat} {x : Int} (h : l[f]? = some x) : (mvF l f t).Perm l := by
  have hx : l.getD f 0 = x := by simp [List.getD_eq_getElem?_getD, h]
  rw [mvF, hx]
  refine List.Perm.trans List.perm_middle ?_
  rw [List.take_append_drop]
  exact eraseIdx_perm h
theorem mendS_perm {d : List Int} {st : MSt} {i : Nat} (hi : i < d.length) (h : st.1.Perm (upN d.length)) : (mendS d st i).1.Perm (upN d.length) := by
  rw [mendS]
  split
  · exact h
  · have hm : (i : Int) ∈ st.1 := by rw [h.mem_iff, upN_mem]; omega
    exact (mvF_perm (idxOf_facts hm).2.1).trans h
theorem mendF_perm (d K : List Int) : ∀ m, m ≤ d.length → (mendF d K m).1.Perm (upN d.length) := by
  intro m
  induction m with
  | zero => intro _; exact List.Perm.refl _
  | succ m ih => intro h; rw [mendF_succ]; exact mendS_perm (by omega) (ih (by omega))
theorem mendF_out (d K : List Int) : ∀ m, (mendF d K m).2.2.length ≤ m := by
  intro m
  induction m with
  | zero => simp [mendF]
  | succ m ih =>
    rw [mendF_succ, mendS]
    split
    · omega
    · simp only [List.length_append, List.length_cons, List.length_nil]; omega

theorem perm_uniq {α : Type} {R : α → α → Prop} (hR : ∀ a b, R a b → R b a → False) : ∀ {l m : List α}, l.Perm m → l.Pairwise R → m.Pairwise R → l = m
  | [], m, hp, _, _ => (List.nil_perm.1 hp).symm
  | x :: l, [], hp, _, _ => absurd hp.length_eq (by simp)
  | x :: l, y :: m, hp, h1, h2 => by
    obtain ⟨a1, a2⟩ := List.pairwise_cons.1 h1
    obtain ⟨b1, b2⟩ := List.pairwise_cons.1 h2
    have e : x = y := Classical.byContradiction fun hne => by
      have hx : x ∈ m := by
        rcases List.mem_cons.1 (hp.mem_iff.1 (List.mem_cons_self (a := x))) with h | h
        · exact absurd h hne
        · exact h
      have hy : y ∈ l := by
        rcases List.mem_cons.1 (hp.mem_iff.2 (List.mem_cons_self (a := y))) with h | h
        · exact absurd h.symm hne
        · exact h
      exact hR x y (a1 y hy) (b1 x hx)
    subst e
    rw [perm_uniq hR (List.Perm.cons_inv hp) a2 b2]
theorem ssort_pair {k : Int → Int} {R : Int → Int → Prop} {l : List Int} (h : l.Pairwise R) : (ssort k l).Pairwise fun a b => k a < k b ∨ k a = k b ∧ R a b := by
  rw [List.pairwise_iff_forall_sublist]
  intro a b hab
  have h1 : k a ≤ k b := List.pairwise_iff_forall_sublist.1 (ssort_srt k l) hab
  by_cases e : k a = k b
  · right
    refine ⟨e, ?_⟩
    have h2 : List.Sublist ([a, b].filter (fun x => decide (k x = k b))) ((ssort k l).filter (fun x => decide (k x = k b))) := hab.filter _
    rw [← ssort_filt k l (k b)] at h2
    have h3 : [a, b].filter (fun x => decide (k x = k b)) = [a, b] := by simp [e]
    rw [h3] at h2
    exact List.pairwise_iff_forall_sublist.1 h (h2.trans List.filter_sublist)
  · left; omega
theorem filt_perm {k : Int → Int} {l r : List Int} (h : Filt k l r) : l.Perm r := by
  rw [List.perm_iff_count]
  intro x
  have := congrArg (List.count x) (h (k x))
  rwa [List.count_filter (by simp), List.count_filter (by simp)] at this
theorem ssort_perm (k : Int → Int) (l : List Int) : (ssort k l).Perm l := (filt_perm (ssort_filt k l)).symm
theorem upN_up (n : Nat) : (upN n).Pairwise (· < ·) := by
  induction n with
  | zero => exact List.Pairwise.nil
  | succ n ih =>
    rw [upN_succ, List.pairwise_append]
    refine ⟨ih, List.pairwise_singleton _ _, fun a ha b hb => ?_⟩
    have := (upN_mem.1 ha).2
    rw [List.mem_singleton] at hb
    omega
def bfD (d : List Int) (a b : Int) : Prop := keyD d a < keyD d b ∨ keyD d a = keyD d b ∧ a < b
theorem ordF_pair (d : List Int) : (ordF d).Pairwise (bfD d) := ssort_pair (upN_up d.length)
theorem ordF_perm (d : List Int) : (ordF d).Perm (upN d.length) := ssort_perm _ _
theorem ordF_in {d : List Int} {x : Int} : x ∈ ordF d ↔ 0 ≤ x ∧ x < d.length := (ordF_perm d).mem_iff.trans upN_mem
theorem gd_mem {l : List Int} {i : Nat} (h : i < l.length) : gd l i ∈ l := by rw [gd_lt h]; exact List.getElem_mem h
theorem mem_gd {l : List Int} {x : Int} (h : x ∈ l) : ∃ i, i < l.length ∧ gd l i = x := by
  obtain ⟨i, hi, e⟩ := List.getElem_of_mem h
  exact ⟨i, hi, by rw [gd_lt hi, e]⟩



structure BegR (d C : List Int) : Prop where
  len : C.length = d.length
  pos : ∀ i, i < d.length → 1 ≤ gd C i
  up : ∀ i k, i < k → k < d.length → gd d i ≤ gd d k → gd C k + 1 ≤ gd C i
  ex : ∀ i, i < d.length → gd C i = 1 ∨ ∃ k, i < k ∧ k < d.length ∧ gd d i ≤ gd d k ∧ gd C i = gd C k + 1
theorem BegR.uniq {d C C' : List Int} (h : BegR d C) (g : BegR d C') : C = C' := by
  refine ext_gd (h.len.trans g.len.symm) fun i hi => ?_
  rw [h.len] at hi
  obtain ⟨m, hm⟩ : ∃ m, m = d.length - i := ⟨_, rfl⟩
  induction m using Nat.strongRecOn generalizing i with
  | ind m ih =>
    have h1 : gd C i ≤ gd C' i := by
      rcases h.ex i hi with e | ⟨k, hk, hk2, hd, e⟩
      · have := g.pos i hi; omega
      · have := g.up i k hk hk2 hd
        have := ih (d.length - k) (by omega) k hk2 rfl; omega
    have h2 : gd C' i ≤ gd C i := by
      rcases g.ex i hi with e | ⟨k, hk, hk2, hd, e⟩
      · have := h.pos i hi; omega
      · have := h.up i k hk hk2 hd
        have := ih (d.length - k) (by omega) k hk2 rfl; omega
    omega
theorem BegR.le {d C : List Int} (h : BegR d C) : ∀ i, i < d.length → gd C i ≤ d.length - i := by
  intro i hi
  obtain ⟨m, hm⟩ : ∃ m, m = d.length - i := ⟨_, rfl⟩
  induction m using Nat.strongRecOn generalizing i with
  | ind m ih =>
    rcases h.ex i hi with e | ⟨k, hk, hk2, hd, e⟩
    · omega
    · have := ih (d.length - k) (by omega) k hk2 rfl; omega

abbrev upR (i n : Nat) : List Nat := List.range' i (n - i)
theorem upR_nil {i n : Nat} (h : n ≤ i) : upR i n = [] := by rw [upR, Nat.sub_eq_zero_of_le h]; rfl
theorem upR_mem {i n k : Nat} : k ∈ upR i n ↔ i ≤ k ∧ k < n := by rw [upR, List.mem_range'_1]; omega
def nxB (d C : List Int) (last : Option Nat) (left : Int) (k : Nat) : Bool := decide (gd C k = left) && (match last with | none => true | some j => decide (gd d j ≤ gd d k))
def nextK (d C : List Int) (i : Nat) : Option Nat := (upR (i + 1) d.length).find? (nxB d C (some i) (gd C i - 1))
theorem nextK_some {d C : List Int} {i k : Nat} (h : nextK d C i = some k) : i < k ∧ k < d.length ∧ gd C k = gd C i - 1 ∧ gd d i ≤ gd d k := by
  have h1 := upR_mem.1 (List.mem_of_find?_eq_some h)
  have h2 := List.find?_some h
  simp only [nxB, Bool.and_eq_true, decide_eq_true_eq] at h2
  exact ⟨by omega, h1.2, h2.1, h2.2⟩
def pathF (d C : List Int) : Nat → Nat → List Int
  | 0, _ => []
  | f + 1, i => (i : Int) :: (match nextK d C i with | none => [] | some k => pathF d C f k)
theorem pathF_stable (d C : List Int) : ∀ (m i f g : Nat), d.length - i = m → m ≤ f → m ≤ g → i < d.length → pathF d C f i = pathF d C g i := by
  intro m
  induction m using Nat.strongRecOn with
  | ind m ih =>
    intro i f g hm hf hg hi
    obtain ⟨f', rfl⟩ : ∃ f', f = f' + 1 := ⟨f - 1, by omega⟩
    obtain ⟨g', rfl⟩ : ∃ g', g = g' + 1 := ⟨g - 1, by omega⟩
    rw [pathF, pathF]
    cases hk : nextK d C i with
    | none => rfl
    | some k =>
      have := nextK_some hk
      simp only
      rw [ih (d.length - k) (by omega) k f' g' rfl (by omega) (by omega) this.2.1]
def pathK (d C : List Int) (i : Nat) : List Int := pathF d C d.length i
theorem pathK_eq {d C : List Int} {i : Nat} (hi : i < d.length) : pathK d C i = (i : Int) :: ((nextK d C i).map (pathK d C)).getD [] := by
  obtain ⟨n, hn⟩ : ∃ n, d.length = n + 1 := ⟨d.length - 1, by omega⟩
  rw [pathK, hn, pathF]
  cases hk : nextK d C i with
  | none => rfl
  | some k =>
    have := nextK_some hk
    simp only [Option.map_some, Option.getD_some]
    rw [pathK, pathF_stable d C (d.length - k) k n d.length rfl (by omega) (by omega) this.2.1]
theorem find_none {p : Nat → Bool} {i n : Nat} (h : (upR i n).find? p = none) : ∀ k, i ≤ k → k < n → p k = false := by
  intro k h1 h2
  rw [List.find?_eq_none] at h
  simpa using h k (upR_mem.2 ⟨h1, h2⟩)
theorem nextK_none {d C : List Int} (h : BegR d C) {i : Nat} (hi : i < d.length) (hn : nextK d C i = none) : gd C i = 1 := by
  rcases h.ex i hi with e | ⟨k, hk, hk2, hd, e⟩
  · exact e
  · have := find_none hn k (by omega) hk2
    simp only [nxB, Bool.and_eq_false_iff, decide_eq_false_iff_not] at this
    rcases this with this | this
    · omega
    · exact absurd hd this
theorem pathK_len {d C : List Int} (h : BegR d C) : ∀ i, i < d.length → ((pathK d C i).length : Int) = gd C i := by
  intro i hi
  obtain ⟨m, hm⟩ : ∃ m, m = d.length - i := ⟨_, rfl⟩
  induction m using Nat.strongRecOn generalizing i with
  | ind m ih =>
    rw [pathK_eq hi]
    cases hk : nextK d C i with
    | none => rw [nextK_none h hi hk]; rfl
    | some k =>
      have h1 := nextK_some hk
      have := ih (d.length - k) (by omega) k h1.2.1 rfl
      simp only [Option.map_some, Option.getD_some, List.length_cons]
      omega

def longB (a b : List Int) : Bool := decide (b.length < a.length) || (decide (a.length = b.length) && decide (lexC a b < 0))
def betS (b x : List Int) : List Int := if longB x b then x else b
def firstF : List (List Int) → List Int
  | [] => []
  | x :: xs => xs.foldl betS x
theorem longB_longer {a b : List Int} (h : b.length < a.length) : longB a b = true := by simp [longB, h]
theorem longB_shorter {a b : List Int} (h : a.length < b.length) : longB a b = false := by
  simp only [longB, Bool.or_eq_false_iff, decide_eq_false_iff_not, Bool.and_eq_false_iff]
  exact ⟨by omega, .inl (by omega)⟩
theorem longB_first {a b : List Int} {x y : Int} (h : a.length = b.length) (hxy : y < x) : longB (x :: a) (y :: b) = false := by
  simp only [longB, Bool.or_eq_false_iff, decide_eq_false_iff_not, Bool.and_eq_false_iff, List.length_cons]
  refine ⟨by omega, .inr ?_⟩
  rw [lexC, if_neg (by omega), if_pos hxy]; omega

section
variable {d C : List Int} (h : BegR d C)
include h
theorem fold_low {T : Nat} : ∀ (ks : List Nat) (b : List Int), (∀ k ∈ ks, k < d.length ∧ gd C k < T) → b.length < T → ((ks.map (pathK d C)).foldl betS b).length < T := by
  intro ks
  induction ks with
  | nil => intro b _ hb; exact hb
  | cons k ks ih =>
    intro b hk hb
    rw [List.map_cons, List.foldl_cons]
    refine ih _ (fun x hx => hk x (List.mem_cons_of_mem _ hx)) ?_
    have h1 := hk k List.mem_cons_self
    have := pathK_len h k h1.1
    rw [betS]
    split <;> omega
theorem fold_top {T : Nat} {m : Nat} (hm : m < d.length) (hT : gd C m = T) : ∀ (ks : List Nat), (∀ k ∈ ks, m < k ∧ k < d.length ∧ gd C k ≤ T) → (ks.map (pathK d C)).foldl betS (pathK d C m) = pathK d C m := by
  intro ks
  induction ks with
  | nil => intro _; rfl
  | cons k ks ih =>
    intro hk
    rw [List.map_cons, List.foldl_cons]
    have h1 := hk k List.mem_cons_self
    have e1 := pathK_len h k h1.2.1
    have e2 := pathK_len h m hm
    have hb : longB (pathK d C k) (pathK d C m) = false := by
      rcases Int.lt_or_eq_of_le h1.2.2 with h2 | h2
      · exact longB_shorter (by omega)
      · rw [pathK_eq h1.2.1] at e1 ⊢
        rw [pathK_eq hm] at e2 ⊢
        simp only [List.length_cons] at e1 e2
        exact longB_first (by omega) (by omega)
    rw [betS, hb]
    exact ih fun x hx => hk x (List.mem_cons_of_mem _ hx)
theorem first_find {T : Nat} (hT : 1 ≤ T) {i n : Nat} (hn : n ≤ d.length) {p : Nat → Bool} {m : Nat} (hle : ∀ k, i ≤ k → k < n → p k = true → gd C k ≤ T) (hf : (upR i n).find? (fun k => p k && decide (gd C k = T)) = some m) :
    firstF ([] :: ((upR i n).filter p).map (pathK d C)) = pathK d C m := by
  have hf' : ((upR i n).filter p).find? (fun k => decide (gd C k = T)) = some m := by
    rw [List.find?_filter, ← hf]
    congr 1
    funext k
    cases p k <;> simp
  rw [List.find?_eq_some_iff_append] at hf'
  obtain ⟨h1, us, vs, h2, h3⟩ := hf'
  rw [firstF, h2, List.map_append, List.foldl_append, List.map_cons, List.foldl_cons]
  have hmem : ∀ k, k ∈ us ++ m :: vs → i ≤ k ∧ k < n ∧ p k = true := fun k hk => by
    rw [← h2, List.mem_filter, upR_mem] at hk
    exact ⟨hk.1.1, hk.1.2, hk.2⟩
  have hsort : (us ++ m :: vs).Pairwise (· < ·) := by
    rw [← h2]
    exact (List.pairwise_lt_range' (s := i) (n := n - i)).filter _
  rw [List.pairwise_append, List.pairwise_cons] at hsort
  have hm := hmem m (by simp)
  simp only [decide_eq_true_eq] at h1
  have hlow := fold_low h (T := T) us [] (fun k hk => by
    have := hmem k (by simp [hk])
    have h4 := h3 k hk
    simp only [Bool.not_eq_true', decide_eq_false_iff_not] at h4
    have := hle k this.1 this.2.1 this.2.2
    exact ⟨by omega, by omega⟩) (by simp; omega)
  have e2 := pathK_len h m (by omega)
  rw [betS, longB_longer (by omega), if_pos rfl]
  exact fold_top h (by omega) h1 vs fun k hk => by
    have := hmem k (by simp [hk])
    have := hle k this.1 this.2.1 this.2.2
    exact ⟨hsort.2.1.1 k hk, by omega, this⟩
theorem pathK_first {i : Nat} (hi : i < d.length) : pathK d C i = (i : Int) :: firstF ([] :: ((upR (i + 1) d.length).filter fun k => decide (gd d i ≤ gd d k)).map (pathK d C)) := by
  rw [pathK_eq hi]
  congr 1
  cases hk : nextK d C i with
  | none =>
    have h1 := nextK_none h hi hk
    have : (upR (i + 1) d.length).filter (fun k => decide (gd d i ≤ gd d k)) = [] := by
      rw [List.filter_eq_nil_iff]
      intro k hk
      rw [upR_mem] at hk
      simp only [decide_eq_true_eq]
      intro hd
      have := h.up i k (by omega) hk.2 hd
      have := h.pos k hk.2
      omega
    rw [this]; rfl
  | some m =>
    have h1 := nextK_some hk
    have hp := h.pos m h1.2.1
    obtain ⟨T, hT⟩ : ∃ T : Nat, gd C i - 1 = (T : Int) := ⟨(gd C i - 1).toNat, by omega⟩
    refine (first_find h (T := T) (by omega) (Nat.le_refl _) (fun k h2 h3 h4 => ?_) ?_).symm
    · simp only [decide_eq_true_eq] at h4
      have := h.up i k (by omega) h3 h4
      omega
    · rw [← hk, nextK]
      congr 1
      funext k
      simp only [nxB, ← hT]
      rw [Bool.and_comm]
end
theorem firstF_snoc {l : List (List Int)} (h : l ≠ []) (y : List Int) : firstF (l ++ [y]) = betS (firstF l) y := by
  cases l with
  | nil => exact absurd rfl h
  | cons x l => simp [firstF]
theorem upR_snoc {i k : Nat} (h : i ≤ k) : upR i (k + 1) = upR i k ++ [k] := by
  rw [upR, upR, show k + 1 - i = (k - i) + 1 by omega, List.range'_concat]
  congr 2; omega
def keepK (d C : List Int) : List Int := firstF ([] :: (upR 0 d.length).map (pathK d C))
def maxC (C : List Int) : Int := C.foldl max 0
theorem maxC_ge (C : List Int) : 0 ≤ maxC C ∧ ∀ x ∈ C, x ≤ maxC C := by
  suffices h : ∀ (C : List Int) (m : Int), m ≤ C.foldl max m ∧ ∀ x ∈ C, x ≤ C.foldl max m from h C 0
  intro C
  induction C with
  | nil => intro m; simp
  | cons y C ih =>
    intro m
    have := ih (max m y)
    simp only [List.foldl_cons, List.mem_cons]
    refine ⟨by omega, fun x hx => ?_⟩
    rcases hx with rfl | hx
    · omega
    · exact this.2 x hx
theorem maxC_mem (C : List Int) : maxC C = 0 ∨ maxC C ∈ C := by
  suffices h : ∀ (C : List Int) (m : Int), C.foldl max m = m ∨ C.foldl max m ∈ C from h C 0
  intro C
  induction C with
  | nil => intro m; simp
  | cons y C ih =>
    intro m
    simp only [List.foldl_cons, List.mem_cons]
    rcases ih (max m y) with e | e
    · rw [e]
      rcases Int.le_total m y with h | h
      · rw [Int.max_eq_right h]; exact .inr (.inl rfl)
      · rw [Int.max_eq_left h]; exact .inl rfl
    · exact .inr (.inr e)
def restK (d C : List Int) (last : Option Nat) (left : Int) (i : Nat) : List Int := (((upR i d.length).find? (nxB d C last left)).map (pathK d C)).getD []
theorem restK_end (d C : List Int) (last : Option Nat) (left : Int) {i : Nat} (hi : d.length ≤ i) : restK d C last left i = [] := by rw [restK, upR_nil hi]; rfl
section
variable {d C : List Int} (h : BegR d C)
include h
theorem keepK_rest : keepK d C = restK d C none (maxC C) 0 := by
  have hmem : ∀ k, k < d.length → gd C k ∈ C := fun k hk => by rw [gd_lt (by rw [h.len]; exact hk)]; exact List.getElem_mem _
  rcases Nat.eq_zero_or_pos d.length with h0 | h0
  · rw [restK_end d C none _ (by omega), keepK, upR_nil (by omega)]; rfl
  · have h1 := h.pos 0 h0
    have h2 := (maxC_ge C).2 _ (hmem 0 h0)
    obtain ⟨T, hT⟩ : ∃ T : Nat, maxC C = (T : Int) := ⟨(maxC C).toNat, by omega⟩
    have hex : ∃ m, (upR 0 d.length).find? (nxB d C none (maxC C)) = some m := by
      cases hf : (upR 0 d.length).find? (nxB d C none (maxC C)) with
      | some m => exact ⟨m, rfl⟩
      | none =>
        exfalso
        rcases maxC_mem C with e | e
        · omega
        · obtain ⟨k, hk, e2⟩ := List.mem_iff_getElem.1 e
          have := find_none hf k (Nat.zero_le _) (by rw [← h.len]; exact hk)
          simp only [nxB, Bool.and_true, decide_eq_false_iff_not] at this
          rw [gd_lt hk] at this
          exact this e2
    obtain ⟨m, hm⟩ := hex
    rw [restK, hm, keepK]
    have hfi : (upR 0 d.length).filter (fun _ => true) = upR 0 d.length := by simp
    rw [← hfi]
    refine first_find h (T := T) (by omega) (Nat.le_refl _) (p := fun _ => true) (fun k _ hk _ => ?_) ?_
    · rw [← hT]; exact (maxC_ge C).2 _ (hmem k hk)
    · rw [← hm]
      congr 1
      funext k
      simp only [nxB, hT, Bool.true_and, Bool.and_true]
end

section
variable {d : List Int} {r : Int} (hr : ∀ x ∈ d, x ≤ r)
include hr
end
end Go.Proofs.YtgnkloloehlfnaaGreatDoor
