/- Texts of the proof, part 4: So4, So5, Ra1, Ra2, Ra3, RkP, Eng18, Ra5, RkC, RkM, RkN, PkA, Ra4, PkB, Lib4, RkK, PkC, PkD, PkE, RefI, Rb0, Eng28, Gk1, PkX. -/
import Derived.ChangeKeysEq
import Derived.Test.YtpijeomnplmakaaGreatDoorRE3
/- slices.SortStableFunc of numbers: symMerge. -/
namespace Go.Proofs.YtpijeomnplmakaaGreatDoor
open Go.RowKit

section
variable (b n c g : Nat) (cap : List Value) (k : Int → Int) (p : Int → Prop) [he : Enters Tryz.prog g]
set_option maxHeartbeats 8000000 in
theorem symC_int (N : Nat) (ih : ∀ (X U V Z : List Int) (w : World) (i1 i2 i3 : Int), U.length + V.length < N → 0 < U.length → 0 < V.length → Srt k U → Srt k V → (∀ x ∈ U, p x) → (∀ x ∈ V, p x) → SD 3 w b n c (X ++ U ++ V ++ Z) → CmpE Tryz.prog g cap k b w p → i1 = X.length → i2 = X.length + U.length → i3 = X.length + U.length + V.length →
      Calls Tryz.prog 126 [.slice (some ⟨b, 0, none⟩) n c, .int .i64 i1, .int .i64 i2, .int .i64 i3, .func (.func g) #[] cap.toArray].toArray w fun e w' => (∃ v, e = .returned v) ∧ Only b w w' ∧ SD 3 w' b n c (X ++ ssort k (U ++ V) ++ Z))
    (X U V Z : List Int) (w : World) (hN : U.length + V.length = N) (hU : 1 < U.length) (hV : 1 < V.length) (hsU : Srt k U) (hsV : Srt k V) (hpU : ∀ x ∈ U, p x) (hpV : ∀ x ∈ V, p x) (hl : n ≤ 1000000) (hD : SD 3 w b n c (X ++ U ++ V ++ Z)) (hc : CmpE Tryz.prog g cap k b w p) (i1 i2 i3 : Int) (h1 : i1 = X.length) (h2 : i2 = X.length + U.length) (h3 : i3 = X.length + U.length + V.length) :
    Calls Tryz.prog 126 [.slice (some ⟨b, 0, none⟩) n c, .int .i64 i1, .int .i64 i2, .int .i64 i3, .func (.func g) #[] cap.toArray].toArray w fun e w' => (∃ v, e = .returned v) ∧ Only b w w' ∧ SD 3 w' b n c (X ++ ssort k (U ++ V) ++ Z) := by
  have hn : n = X.length + U.length + V.length + Z.length := by have := hD.1; simp at this; omega
  have hgU : ∀ q y, U[q]? = some y → (X ++ U ++ V ++ Z)[X.length + q]? = some y := by
    intro q y hy
    have hq := (List.getElem?_eq_some_iff.1 hy).1
    rw [List.append_assoc, List.append_assoc, List.getElem?_append_right (by omega), Nat.add_sub_cancel_left, List.getElem?_append_left hq, hy]
  have hgV : ∀ q y, V[q]? = some y → (X ++ U ++ V ++ Z)[X.length + U.length + q]? = some y := by
    intro q y hy
    have hq := (List.getElem?_eq_some_iff.1 hy).1
    rw [List.append_assoc, List.getElem?_append_right (by simp), List.length_append, Nat.add_sub_cancel_left, List.getElem?_append_left hq, hy]
  obtain ⟨h, hh⟩ : ∃ h, h = (U.length + V.length) / 2 := ⟨_, rfl⟩
  obtain ⟨s0, r0, hsr⟩ : ∃ s0 r0, (h < U.length ∧ s0 = h - V.length ∧ r0 = h) ∨ (U.length ≤ h ∧ s0 = 0 ∧ r0 = U.length) := by
    rcases Nat.lt_or_ge h U.length with e | e
    · exact ⟨_, _, .inl ⟨e, rfl, rfl⟩⟩
    · exact ⟨_, _, .inr ⟨e, rfl, rfl⟩⟩
  refine Calls.ofW (by simp) ?_
  subst h1 h2 h3
  (refine jjB ?_; refine jjB ?_; refine jjC ?_; apply jI; exact eI rfl; apply jI; exact eI rfl; refine jZ rfl rfl (by omega) ?_; refine jji rfl rfl (by omega) ?_; refine jz ?_; refine jjK rfl ?_; refine jjG ?_; refine jjB ?_; refine jjB ?_; refine jjC ?_; apply jI; exact eI rfl; apply jI; exact eI rfl; refine jZ rfl rfl (by omega) ?_; refine jji rfl rfl (by omega) ?_; refine jz ?_; refine jjK rfl ?_; refine jjG ?_; refine jjB ?_; refine jjC ?_; apply jI; exact eI rfl; apply jI; exact eI rfl; refine jY rfl rfl (by omega) ?_)
  refine Ops.convI rfl rfl (wrap64 (by omega) (by omega)) ?_
  refine Ops.half (a := 2 * X.length + U.length + V.length) rfl (by omega) rfl ?_
  refine Ops.convI rfl rfl (wrapi (by omega) (by omega)) ?_
  refine Ops.fix (d := 134) (v := .int .i64 ((X.length + h : Nat) : Int)) (congrArg (Value.int .i64) (by omega)) ?_
  (apply jJ; exact eI rfl; refine jz ?_; refine jjB ?_; refine jjC ?_; apply jI; exact eI rfl; apply jI; exact eI rfl; refine jY rfl rfl (by omega) ?_; apply jJ; exact eI rfl; refine jz ?_; refine jjB ?_; refine jjC ?_; apply jJ; exact eI rfl; apply jJ; exact eI rfl; refine jz ?_; refine jjB ?_; refine jjB ?_; refine jjC ?_; apply jI; exact eI rfl; apply jI; exact eI rfl; refine je rfl rfl ?_; refine jz ?_)
  refine jjA ?_
  refine W.cutL [(0, .slice (some ⟨b, 0, none⟩) n c), (1, .int .i64 ((X.length : Nat) : Int)), (2, .int .i64 ((X.length + U.length : Nat) : Int)), (3, .int .i64 ((X.length + U.length + V.length : Nat) : Int)), (4, .func (.func g) #[] cap.toArray), (18, .int .i64 ((X.length + h : Nat) : Int)), (19, .int .i64 ((2 * X.length + U.length + h : Nat) : Int)), (20, .int .i64 ((X.length + s0 : Nat) : Int)), (21, .int .i64 ((X.length + r0 : Nat) : Int))] (fun w' => w' = w) ?_ ?_
  · repeat' (first|((first|apply jI|apply jJ); exact eI rfl)|(refine jW ?_; refine jZ rfl rfl (by omega) ?_)|refine jz ?_|(refine jjA ?_; (first|refine jjB ?_|refine jjC ?_))|(refine jjA ?_; (refine jjN rfl ?_ ?_ <;> intro _)))
    · refine ⟨rfl, ⟨eS rfl, eI rfl, congrArg (Value.int .i64) (by omega), congrArg (Value.int .i64) (by omega), eF rfl, eI rfl, congrArg (Value.int .i64) (by omega), congrArg (Value.int .i64) (by omega), congrArg (Value.int .i64) (by omega), trivial⟩, rfl⟩
    · refine ⟨rfl, ⟨eS rfl, eI rfl, congrArg (Value.int .i64) (by omega), congrArg (Value.int .i64) (by omega), eF rfl, eI rfl, congrArg (Value.int .i64) (by omega), congrArg (Value.int .i64) (by omega), congrArg (Value.int .i64) (by omega), trivial⟩, rfl⟩
  rintro sl _ rfl
  (refine jjB ?_; refine jjC ?_; apply jI; exact eI rfl; refine jZ rfl rfl (by omega) ?_; apply jJ; exact eI rfl; refine jz ?_; refine jjB ?_; refine jjD ?_)
  refine W.keep0 [(0, .slice (some ⟨b, 0, none⟩) n c), (1, .int .i64 ((X.length : Nat) : Int)), (2, .int .i64 ((X.length + U.length : Nat) : Int)), (3, .int .i64 ((X.length + U.length + V.length : Nat) : Int)), (4, .func (.func g) #[] cap.toArray), (18, .int .i64 ((X.length + h : Nat) : Int)), (19, .int .i64 ((2 * X.length + U.length + h : Nat) : Int)), (20, .int .i64 ((X.length + s0 : Nat) : Int)), (21, .int .i64 ((X.length + r0 : Nat) : Int)), (22, .int .i64 ((2 * X.length + U.length + h - 1 : Nat) : Int))] ⟨eS rfl, eI rfl, eI rfl, eI rfl, eF rfl, eI rfl, eI rfl, eI rfl, eI rfl, congrArg (Value.int .i64) (by omega), trivial⟩ fun sm => ?_
  have hsr0 : s0 ≤ r0 ∧ r0 ≤ h ∧ r0 ≤ U.length ∧ (∀ q, s0 ≤ q → q < r0 → h - 1 - q < V.length) ∧ (s0 = 0 ∨ h - s0 = V.length) ∧ (r0 = U.length ∨ r0 = h) := by
    rcases hsr with ⟨a1, a2, a3⟩ | ⟨a1, a2, a3⟩
    · exact ⟨by omega, by omega, by omega, by intros; omega, by omega, .inr a3⟩
    · exact ⟨by omega, by omega, by omega, by intros; omega, .inl a2, .inl a3⟩
  obtain ⟨hs1, hs2, hs3, hs4, hs5, hs6⟩ := hsr0
  clear hsr
  refine W.loop (149 :: 150 :: 151 :: 152 :: 153 :: 154 :: 155 :: 156 :: 157 :: 23 :: 158 :: 159 :: 160 :: 161 :: 162 :: 163 :: 164 :: 165 :: 166 :: 167 :: 168 :: 169 :: 170 :: 171 :: 172 :: 173 :: 20 :: 174 :: 21 :: []) (fun gg s' w' => ∃ q1 q2 : Nat, s' 20 = .int .i64 ((X.length + q1 : Nat) : Int) ∧ s' 21 = .int .i64 ((X.length + q2 : Nat) : Int) ∧ gg = q2 - q1 ∧ s0 ≤ q1 ∧ q1 ≤ q2 ∧ q2 ≤ r0 ∧ (∀ y z, s0 < q1 → U[q1 - 1]? = some y → V[h - q1]? = some z → k y ≤ k z) ∧ (∀ y z, q2 < r0 → U[q2]? = some y → V[h - 1 - q2]? = some z → k z < k y)) (r0 - s0) ⟨s0, r0, rfl, rfl, rfl, Nat.le_refl _, hs1, Nat.le_refl _, by intros; omega, by intros; omega⟩ ?_
  rintro _ d w1 hS1 ⟨q1, q2, h20, h21, rfl, hq01, hq12, hq2r, hlo, hhi⟩
  refine W.fix h20 (W.fix (d := 21) h21 ?_)
  clear h20 h21
  have hD1 : SD 3 w1 b n c _ := hD.ext hS1.ext
  (refine jjB ?_; refine jjB ?_; refine jjC ?_; apply jI; exact eI rfl; apply jI; exact eI rfl; refine jX rfl rfl ?_; refine jz ?_)
  refine jjA ?_
  refine jjN rfl ?_ ?_ <;> intro _
  · (refine jjG ?_; refine jjD ?_; refine jjB ?_; refine jjC ?_; apply jI; exact eI rfl; apply jI; exact eI rfl; refine jY rfl rfl (by omega) ?_)
    refine Ops.convI rfl rfl (wrap64 (by omega) (by omega)) ?_
    refine Ops.half (a := 2 * X.length + q1 + q2) rfl (by omega) rfl ?_
    refine Ops.convI rfl rfl (wrapi (by omega) (by omega)) ?_
    obtain ⟨q, hq⟩ : ∃ q, (2 * X.length + q1 + q2) / 2 = X.length + q := ⟨(2 * X.length + q1 + q2) / 2 - X.length, by omega⟩
    have hq1 : q1 ≤ q := by omega
    have hq2 : q < q2 := by omega
    refine Ops.fix (d := 157) (v := .int .i64 ((X.length + q : Nat) : Int)) (congrArg (Value.int .i64) (congrArg Nat.cast hq)) ?_
    clear hq
    have hqU : q < U.length := by omega
    have hqV : h - 1 - q < V.length := hs4 q (by omega) (by omega)
    have hgu := List.getElem?_eq_getElem hqU
    have hgv := List.getElem?_eq_getElem hqV
    have hx2 := hD1.get (hgU q _ hgu)
    have hy2 := hD1.get (hgV _ _ hgv)
    generalize hye : U[q] = y at hgu hx2
    generalize hze : V[h - 1 - q] = z at hgv hy2
    have hpy : p y := hpU _ (List.mem_of_getElem? hgu)
    have hpz : p z := hpV _ (List.mem_of_getElem? hgv)
    clear hye hze
    have hix : ((2 * X.length + U.length + h - 1 : Nat) : Int) - ((X.length + q : Nat) : Int) = ((X.length + U.length + (h - 1 - q) : Nat) : Int) := by omega
    (apply jJ; exact eI rfl; refine jz ?_; refine jjB ?_)
    refine W.draw (fun w' => Ext w1 w') ?_
    intro w3 hS3
    refine jjV [0, 1, 2, 3, 4, 5, 6, 7, 8, 9, 10] (by decide +kernel) hS3.ext ?_
    (((apply jjT; exact rfl; rintro w' hq; have g1 := hq.cell hx2; have g2 := hq.cell hy2; apply jI; exact eF rfl; refine jz ?_; exact ⟨rfl, rfl⟩; apply jjT; exact rfl; rintro w' hq; have g1 := hq.cell hx2; have g2 := hq.cell hy2; apply jI; exact eS rfl; refine jz ?_; exact ⟨rfl, rfl⟩; apply jjT; exact rfl; rintro w' hq; have g1 := hq.cell hx2; have g2 := hq.cell hy2; apply jI; exact eI rfl; refine jz ?_; exact ⟨rfl, rfl⟩; apply jjT; exact rfl; rintro w' hq; have g1 := hq.cell hx2; have g2 := hq.cell hy2; apply jI; exact eI rfl; refine jz ?_; exact ⟨rfl, rfl⟩; apply jjT; exact rfl; rintro w' hq; have g1 := hq.cell hx2; have g2 := hq.cell hy2; refine jZ rfl rfl (by omega) ?_; refine jz ?_; exact ⟨rfl, rfl⟩; apply jjT; exact rfl; rintro w' hq; have g1 := hq.cell hx2; have g2 := hq.cell hy2; refine jG rfl rfl (by assumption) (by omega) ?_; refine jz ?_; exact ⟨rfl, rfl⟩; apply jjT; exact rfl; rintro w' hq; have g1 := hq.cell hx2; have g2 := hq.cell hy2; refine jR (by assumption) rfl rfl ?_; refine jz ?_; exact ⟨rfl, rfl⟩; apply jjT; exact rfl; rintro w' hq; have g1 := hq.cell hx2; have g2 := hq.cell hy2; apply jI; exact eS rfl; refine jz ?_; exact ⟨rfl, rfl⟩; apply jjT; exact rfl; rintro w' hq; have g1 := hq.cell hx2; have g2 := hq.cell hy2; apply jI; exact eI rfl; refine jz ?_; exact ⟨rfl, rfl⟩; apply jjT; exact rfl; rintro w' hq; have g1 := hq.cell hx2; have g2 := hq.cell hy2; refine jG rfl rfl rfl (by omega) ?_; refine jz ?_; exact ⟨rfl, rfl⟩; apply jjT; exact rfl; rintro w' hq; have g1 := hq.cell hx2; have g2 := hq.cell hy2; refine jR (by assumption) rfl rfl ?_; refine jz ?_; exact ⟨rfl, rfl⟩; refine jjU ?_)))
    apply jjW 11 (by decide +kernel) rfl hS3.ext
    refine jjQ ((hc.only (.ofExt (hS1.ext.trans hS3.ext))).h w3 (.ofExt (.refl w3)) z y hpz hpy) rfl rfl ?_
    rintro _ w4 hS4 rfl
    refine jz ?_
    have hE4 := hS3.ext.trans hS4.ext
    refine jjV [12, 13] (by decide +kernel) hE4 ?_
    (((apply jjT; exact rfl; rintro w' hq; refine jX rfl rfl ?_; refine jz ?_; exact ⟨rfl, rfl⟩; apply jjT; exact rfl; rintro w' hq; refine jr rfl ?_; refine jz ?_; exact ⟨rfl, rfl⟩; refine jjU ?_)))
    refine jjX (by decide +kernel) hE4 ?_
    repeat' (first|((first|apply jI|apply jJ); exact eI rfl)|(refine jW ?_; refine jY rfl rfl (by omega) ?_)|refine jz ?_|(refine jjA ?_; refine jjC ?_)|(refine jjA ?_; (refine jjN rfl ?_ ?_ <;> intro _)))
    · have := cmp_nn ‹_›
      refine ⟨rfl, by ((refine Same.upd rfl ?_; refine Same.upd rfl ?_; refine Same.upd rfl ?_; refine Same.upd rfl ?_; refine Same.upd rfl ?_; refine Same.upd rfl ?_; refine Same.upd rfl ?_; refine Same.upd rfl ?_; refine Same.upd rfl ?_; refine Same.upd rfl ?_; refine Same.upd rfl ?_; refine Same.upd rfl ?_; refine Same.upd rfl ?_; refine Same.upd rfl ?_; refine Same.upd rfl ?_; refine Same.upd rfl ?_; refine Same.upd rfl ?_; refine Same.upd rfl ?_; refine Same.upd rfl ?_; refine Same.upd rfl ?_; refine Same.upd rfl ?_; refine Same.upd rfl ?_; refine Same.upd rfl ?_; refine Same.upd rfl ?_; refine Same.upd rfl ?_; refine Same.upd rfl ?_; refine Same.upd rfl ?_; refine Same.upd rfl ?_; refine Same.upd rfl ?_; refine Same.upd rfl ?_; exact Same.ovN)), _, ?_, inferInstance, q + 1, q2, congrArg (Value.int .i64) (by omega), rfl, rfl, by omega, by omega, hq2r, ?_, hhi⟩
      · omega
      · intro y' z' _ hy' hz'
        rw [Nat.add_sub_cancel, hgu] at hy'
        rw [show h - (q + 1) = h - 1 - q from by omega, hgv] at hz'
        cases hy'; cases hz'; assumption
    · have := cmp_neg (Decidable.not_not.1 ‹_›)
      refine ⟨rfl, by ((refine Same.upd rfl ?_; refine Same.upd rfl ?_; refine Same.upd rfl ?_; refine Same.upd rfl ?_; refine Same.upd rfl ?_; refine Same.upd rfl ?_; refine Same.upd rfl ?_; refine Same.upd rfl ?_; refine Same.upd rfl ?_; refine Same.upd rfl ?_; refine Same.upd rfl ?_; refine Same.upd rfl ?_; refine Same.upd rfl ?_; refine Same.upd rfl ?_; refine Same.upd rfl ?_; refine Same.upd rfl ?_; refine Same.upd rfl ?_; refine Same.upd rfl ?_; refine Same.upd rfl ?_; refine Same.upd rfl ?_; refine Same.upd rfl ?_; refine Same.upd rfl ?_; refine Same.upd rfl ?_; refine Same.upd rfl ?_; refine Same.upd rfl ?_; refine Same.upd rfl ?_; refine Same.upd rfl ?_; refine Same.upd rfl ?_; refine Same.upd rfl ?_; exact Same.ovN)), _, ?_, inferInstance, q1, q, rfl, rfl, rfl, hq01, by omega, by omega, hlo, ?_⟩
      · omega
      · intro y' z' _ hy' hz'
        rw [hgu] at hy'; rw [hgv] at hz'; cases hy'; cases hz'; assumption
  · have hqe : q2 = q1 := by omega
    subst hqe
    refine jjA ?_
    refine jjE ?_
    refine jjA ?_
    refine jjB ?_
    refine jjC ?_
    (apply jI; exact eI rfl; apply jI; exact eI rfl; refine jZ rfl rfl (by omega) ?_; apply jJ; exact eI rfl)
    refine jz ?_
    refine jjA ?_
    refine jjB ?_
    obtain ⟨hd, hhd⟩ : ∃ hd, hd = h - q2 := ⟨_, rfl⟩
    have lhd : hd ≤ V.length := by
      rcases hs5 with e | e
      · subst e
        rcases Nat.lt_or_ge q2 r0 with c1 | c1
        · have := hs4 q2 hq01 c1; omega
        · omega
      · omega
    refine W.cutL [(0, .slice (some ⟨b, 0, none⟩) n c), (1, .int .i64 ((X.length : Nat) : Int)), (3, .int .i64 ((X.length + U.length + V.length : Nat) : Int)), (4, .func (.func g) #[] cap.toArray), (18, .int .i64 ((X.length + h : Nat) : Int)), (20, .int .i64 ((X.length + q2 : Nat) : Int)), (24, .int .i64 ((X.length + U.length + hd : Nat) : Int))] (fun w' => Only b w1 w' ∧ SD 3 w' b n c (X ++ (U.take q2 ++ V.take hd) ++ (U.drop q2 ++ V.drop hd) ++ Z)) ?_ ?_
    · have hall : Only b w1 w1 := .ofExt (.refl w1)
      rcases Nat.lt_or_ge q2 U.length with ca | ca
      · rcases Nat.eq_zero_or_pos hd with cb | cb
        · (refine jjB ?_; refine jjC ?_; apply jI; exact eI rfl; apply jI; exact eI rfl; refine jjZ rfl rfl (by omega) ?_; apply jI; exact eB rfl; refine jT rfl rfl rfl ?_; apply jI; exact eI rfl; refine jT rfl rfl rfl ?_; apply jI; exact eI rfl; refine jT rfl rfl rfl ?_; refine jja rfl rfl (by omega) ?_; apply jK rfl; exact eB rfl; refine jz ?_; refine jjK rfl ?_; refine jjG ?_)
          refine ⟨rfl, ⟨eS rfl, eI rfl, eI rfl, eF rfl, eI rfl, eI rfl, congrArg (Value.int .i64) (by omega), trivial⟩, hall, ?_⟩
          subst cb
          rw [List.take_zero, List.append_nil, List.drop_zero, ← List.append_assoc (X ++ U.take q2), List.append_assoc X, List.take_append_drop]
          exact hD1
        · have hrot := rotate_int b n c (.func (.func g) #[] cap.toArray) (X ++ U.take q2) (U.drop q2) (V.take hd) (V.drop hd ++ Z) w1 (by simp; omega) (by simp; omega) hl (by
            have e : X ++ U.take q2 ++ U.drop q2 ++ V.take hd ++ (V.drop hd ++ Z) = X ++ U ++ V ++ Z := by
              rw [List.append_assoc X, List.take_append_drop, ← List.append_assoc (X ++ U ++ V.take hd), List.append_assoc (X ++ U), List.take_append_drop]
            rw [e]; exact hD1) ((X.length + q2 : Nat) : Int) ((X.length + U.length : Nat) : Int) ((2 * X.length + U.length + h : Nat) - (X.length + q2 : Nat) : Int) (by simp; omega) (by simp; omega) (by simp; omega)
          (refine jjB ?_; refine jjC ?_; apply jI; exact eI rfl; apply jI; exact eI rfl; refine jjZ rfl rfl (by omega) ?_; apply jI; exact eB rfl; refine jT rfl rfl rfl ?_; apply jI; exact eI rfl; refine jT rfl rfl rfl ?_; apply jI; exact eI rfl; refine jT rfl rfl rfl ?_; refine jjZ rfl rfl (by omega) ?_; apply jK rfl; exact eB rfl; refine jz ?_; refine jjJ rfl ?_; refine jjC ?_; apply jI; exact eS rfl; apply jI; exact eI rfl; apply jI; exact eI rfl; apply jI; exact eI rfl; apply jI; exact eF rfl)
          refine Ops.callR rfl (Enters.h (P := Tryz.prog) (g := 153)) rfl hrot ?_
          rintro _ w2 ⟨⟨v, rfl⟩, hO2, hD2⟩
          refine ⟨_, rfl, ?_⟩
          (refine jz ?_)
          refine ⟨rfl, ⟨eS rfl, eI rfl, eI rfl, eF rfl, eI rfl, eI rfl, congrArg (Value.int .i64) (by omega), trivial⟩, hO2, ?_⟩
          simp only [List.append_assoc] at hD2 ⊢
          exact hD2
      · (refine jjB ?_; refine jjC ?_; apply jI; exact eI rfl; apply jI; exact eI rfl; refine jja rfl rfl (by omega) ?_; apply jI; exact eB rfl; refine jU rfl rfl rfl rfl ?_; refine jU rfl rfl rfl rfl ?_; refine jU rfl rfl rfl rfl ?_; apply jL rfl; exact eB rfl; refine jz ?_; refine jjK rfl ?_; refine jjG ?_)
        refine ⟨rfl, ⟨eS rfl, eI rfl, eI rfl, eF rfl, eI rfl, eI rfl, congrArg (Value.int .i64) (by omega), trivial⟩, hall, ?_⟩
        rw [List.drop_of_length_le ca, List.nil_append, List.take_of_length_le ca, List.append_assoc X, List.append_assoc U, List.take_append_drop, ← List.append_assoc X]
        exact hD1
    rintro sl2 w2 ⟨hO2, hD2⟩
    have hU12 : ∀ x ∈ U.take q2, p x := fun x hx => hpU x (List.mem_of_mem_take hx)
    have hU22 : ∀ x ∈ U.drop q2, p x := fun x hx => hpU x (List.mem_of_mem_drop hx)
    have hV12 : ∀ x ∈ V.take hd, p x := fun x hx => hpV x (List.mem_of_mem_take hx)
    have hV22 : ∀ x ∈ V.drop hd, p x := fun x hx => hpV x (List.mem_of_mem_drop hx)
    have sU1 : Srt k (U.take q2) := List.Pairwise.sublist (List.take_sublist _ _) hsU
    have sU2 : Srt k (U.drop q2) := List.Pairwise.sublist (List.drop_sublist _ _) hsU
    have sV1 : Srt k (V.take hd) := List.Pairwise.sublist (List.take_sublist _ _) hsV
    have sV2 : Srt k (V.drop hd) := List.Pairwise.sublist (List.drop_sublist _ _) hsV
    have lU1 : (U.take q2).length = q2 := by simp; omega
    have lV1 : (V.take hd).length = hd := by simp; omega
    have lU2 : (U.drop q2).length = U.length - q2 := by simp
    have lV2 : (V.drop hd).length = V.length - hd := by simp
    have hsym : ssort k (U ++ V) = ssort k (U.take q2 ++ V.take hd) ++ ssort k (U.drop q2 ++ V.drop hd) := by
      have := ssort_sym (k := k) (U1 := U.take q2) (U2 := U.drop q2) (V1 := V.take hd) (V2 := V.drop hd) (by rw [List.take_append_drop]; exact hsU) (by rw [List.take_append_drop]; exact hsV) ?_ ?_
      · rw [List.take_append_drop, List.take_append_drop] at this; exact this
      · intro u hu v hv
        obtain ⟨iu, hiu, hgu⟩ := mem_drop_get hu
        obtain ⟨iv, hiv, hgv⟩ := mem_take_get hv
        have b1 := (List.getElem?_eq_some_iff.1 hgu).1
        have b2 := (List.getElem?_eq_some_iff.1 hgv).1
        have hlt : q2 < r0 := by omega
        have g1 := List.getElem?_eq_getElem (l := U) (i := q2) (by omega)
        have g2 := List.getElem?_eq_getElem (l := V) (i := h - 1 - q2) (hs4 q2 hq01 hlt)
        have h1 := hhi _ _ hlt g1 g2
        have h2 := srt_get hsU g1 hgu hiu
        have h3 := srt_get hsV hgv g2 (by omega)
        omega
      · intro u hu v hv
        obtain ⟨iu, hiu, hgu⟩ := mem_take_get hu
        obtain ⟨iv, hiv, hgv⟩ := mem_drop_get hv
        have b1 := (List.getElem?_eq_some_iff.1 hgu).1
        have b2 := (List.getElem?_eq_some_iff.1 hgv).1
        have hlt : s0 < q2 := by
          rcases Nat.lt_or_ge s0 q2 with c1 | c1
          · exact c1
          · rcases hs5 with e | e <;> omega
        have g1 := List.getElem?_eq_getElem (l := U) (i := q2 - 1) (by omega)
        have g2 := List.getElem?_eq_getElem (l := V) (i := h - q2) (by omega)
        have h1 := hlo _ _ hlt g1 g2
        have h2 := srt_get hsU hgu g1 (by omega)
        have h3 := srt_get hsV g2 hgv (by omega)
        omega
    refine jjA ?_
    refine jjB ?_
    refine W.cutL [(0, .slice (some ⟨b, 0, none⟩) n c), (3, .int .i64 ((X.length + U.length + V.length : Nat) : Int)), (4, .func (.func g) #[] cap.toArray), (18, .int .i64 ((X.length + h : Nat) : Int)), (24, .int .i64 ((X.length + U.length + hd : Nat) : Int))] (fun w' => Only b w1 w' ∧ SD 3 w' b n c (X ++ ssort k (U.take q2 ++ V.take hd) ++ (U.drop q2 ++ V.drop hd) ++ Z)) ?_ ?_
    · rcases Nat.eq_zero_or_pos q2 with ca | ca
      · (refine jjB ?_; refine jjC ?_; apply jI; exact eI rfl; apply jI; exact eI rfl; refine jja rfl rfl (by omega) ?_; apply jI; exact eB rfl; refine jU rfl rfl rfl rfl ?_; refine jU rfl rfl rfl rfl ?_; refine jU rfl rfl rfl rfl ?_; apply jL rfl; exact eB rfl; refine jz ?_; refine jjK rfl ?_; refine jjG ?_)
        refine ⟨rfl, ⟨eS rfl, eI rfl, eF rfl, eI rfl, eI rfl, trivial⟩, hO2, ?_⟩
        have e1 : U.take q2 = [] := by rw [ca]; rfl
        rw [e1, List.nil_append] at hD2 ⊢
        rw [ssort_of_srt sV1]; exact hD2
      · rcases Nat.lt_or_ge q2 h with cb | cb
        · have hcall := ih X (U.take q2) (V.take hd) (U.drop q2 ++ V.drop hd ++ Z) w2 ((X.length : Nat) : Int) ((X.length + q2 : Nat) : Int) ((X.length + h : Nat) : Int) (by omega) (by omega) (by omega) sU1 sV1 hU12 hV12 (by simp only [List.append_assoc] at hD2 ⊢; exact hD2) (hc.only ((Only.ofExt hS1.ext).trans hO2)) (by omega) (by omega) (by omega)
          (refine jjB ?_; refine jjC ?_; apply jI; exact eI rfl; apply jI; exact eI rfl; refine jjZ rfl rfl (by omega) ?_; apply jI; exact eB rfl; refine jT rfl rfl rfl ?_; apply jI; exact eI rfl; refine jT rfl rfl rfl ?_; apply jI; exact eI rfl; refine jT rfl rfl rfl ?_; refine jjZ rfl rfl (by omega) ?_; apply jK rfl; exact eB rfl; refine jz ?_; refine jjJ rfl ?_; refine jjC ?_; apply jI; exact eS rfl; apply jI; exact eI rfl; apply jI; exact eI rfl; apply jI; exact eI rfl; apply jI; exact eF rfl)
          refine Ops.callR rfl (Enters.h (P := Tryz.prog) (g := 126)) rfl hcall ?_
          rintro _ w3 ⟨⟨v, rfl⟩, hO3, hD3⟩
          refine ⟨_, rfl, ?_⟩
          (refine jz ?_)
          refine ⟨rfl, ⟨eS rfl, eI rfl, eF rfl, eI rfl, eI rfl, trivial⟩, hO2.trans hO3, ?_⟩
          simp only [List.append_assoc] at hD3 ⊢
          exact hD3
        · (refine jjB ?_; refine jjC ?_; apply jI; exact eI rfl; apply jI; exact eI rfl; refine jjZ rfl rfl (by omega) ?_; apply jI; exact eB rfl; refine jT rfl rfl rfl ?_; apply jI; exact eI rfl; refine jT rfl rfl rfl ?_; apply jI; exact eI rfl; refine jT rfl rfl rfl ?_; refine jja rfl rfl (by omega) ?_; apply jK rfl; exact eB rfl; refine jz ?_; refine jjK rfl ?_; refine jjG ?_)
          refine ⟨rfl, ⟨eS rfl, eI rfl, eF rfl, eI rfl, eI rfl, trivial⟩, hO2, ?_⟩
          have e1 : V.take hd = [] := by rw [show hd = 0 from by omega]; rfl
          rw [e1, List.append_nil] at hD2 ⊢
          rw [ssort_of_srt sU1]; exact hD2
    clear hD2 hO2
    rintro sl3 w3 ⟨hO3, hD3⟩
    have hOw := (Only.ofExt hS1.ext).trans hO3
    rw [hsym]
    rcases Nat.lt_or_ge q2 U.length with ca | ca
    · rcases Nat.lt_or_ge hd V.length with cb | cb
      · have hcall := ih (X ++ ssort k (U.take q2 ++ V.take hd)) (U.drop q2) (V.drop hd) Z w3 ((X.length + h : Nat) : Int) ((X.length + U.length + hd : Nat) : Int) ((X.length + U.length + V.length : Nat) : Int) (by omega) (by omega) (by omega) sU2 sV2 hU22 hV22 (by simp only [List.append_assoc] at hD3 ⊢; exact hD3) (hc.only hOw) (by rw [List.length_append, ssort_len, List.length_append]; omega) (by rw [List.length_append, ssort_len, List.length_append]; omega) (by rw [List.length_append, ssort_len, List.length_append]; omega)
        (refine jjB ?_; refine jjC ?_; apply jI; exact eI rfl; apply jI; exact eI rfl; refine jjZ rfl rfl (by omega) ?_; apply jI; exact eB rfl; refine jT rfl rfl rfl ?_; apply jI; exact eI rfl; refine jT rfl rfl rfl ?_; apply jI; exact eI rfl; refine jT rfl rfl rfl ?_; refine jjZ rfl rfl (by omega) ?_; apply jK rfl; exact eB rfl; refine jz ?_; refine jjJ rfl ?_; refine jjC ?_; apply jI; exact eS rfl; apply jI; exact eI rfl; apply jI; exact eI rfl; apply jI; exact eI rfl; apply jI; exact eF rfl)
        refine Ops.callR rfl (Enters.h (P := Tryz.prog) (g := 126)) rfl hcall ?_
        rintro _ w4 ⟨⟨v, rfl⟩, hO4, hD4⟩
        refine ⟨_, rfl, ?_⟩
        (refine jz ?_; refine jA rfl ⟨⟨_, rfl⟩, ?_⟩)
        refine ⟨hOw.trans hO4, ?_⟩
        simp only [List.append_assoc] at hD4 ⊢
        exact hD4
      · (refine jjB ?_; refine jjC ?_; apply jI; exact eI rfl; apply jI; exact eI rfl; refine jjZ rfl rfl (by omega) ?_; apply jI; exact eB rfl; refine jT rfl rfl rfl ?_; apply jI; exact eI rfl; refine jT rfl rfl rfl ?_; apply jI; exact eI rfl; refine jT rfl rfl rfl ?_; refine jja rfl rfl (by omega) ?_; apply jK rfl; exact eB rfl; refine jz ?_; refine jjK rfl ?_; refine jjG ?_; refine jA rfl ⟨⟨_, rfl⟩, ?_⟩)
        refine ⟨hOw, ?_⟩
        have e1 : V.drop hd = [] := List.drop_of_length_le cb
        rw [e1, List.append_nil] at hD3 ⊢
        rw [ssort_of_srt sU2, ← List.append_assoc]; exact hD3
    · (refine jjB ?_; refine jjC ?_; apply jI; exact eI rfl; apply jI; exact eI rfl; refine jja rfl rfl (by omega) ?_; apply jI; exact eB rfl; refine jU rfl rfl rfl rfl ?_; refine jU rfl rfl rfl rfl ?_; refine jU rfl rfl rfl rfl ?_; apply jL rfl; exact eB rfl; refine jz ?_; refine jjK rfl ?_; refine jjG ?_; refine jA rfl ⟨⟨_, rfl⟩, ?_⟩)
      refine ⟨hOw, ?_⟩
      have e1 : U.drop q2 = [] := List.drop_of_length_le ca
      rw [e1, List.nil_append] at hD3 ⊢
      rw [ssort_of_srt sV2, ← List.append_assoc]; exact hD3

theorem symMerge_int (hl : n ≤ 1000000) : ∀ (N : Nat) (X U V Z : List Int) (w : World) (i1 i2 i3 : Int), U.length + V.length < N → 0 < U.length → 0 < V.length → Srt k U → Srt k V → (∀ x ∈ U, p x) → (∀ x ∈ V, p x) → SD 3 w b n c (X ++ U ++ V ++ Z) → CmpE Tryz.prog g cap k b w p → i1 = X.length → i2 = X.length + U.length → i3 = X.length + U.length + V.length →
      Calls Tryz.prog 126 [.slice (some ⟨b, 0, none⟩) n c, .int .i64 i1, .int .i64 i2, .int .i64 i3, .func (.func g) #[] cap.toArray].toArray w fun e w' => (∃ v, e = .returned v) ∧ Only b w w' ∧ SD 3 w' b n c (X ++ ssort k (U ++ V) ++ Z)
  | 0, _, _, _, _, _, _, _, _, hN, _, _, _, _, _, _, _, _, _, _, _ => absurd hN (Nat.not_lt_zero _)
  | N + 1, X, U, V, Z, w, i1, i2, i3, hN, hU, hV, sU, sV, pU, pV, hD, hc, h1, h2, h3 => by
    rcases Nat.lt_or_ge 1 U.length with cU | cU
    · rcases Nat.lt_or_ge 1 V.length with cV | cV
      · exact symC_int b n c g cap k p (U.length + V.length) (fun X' U' V' Z' w' a1 a2 a3 hlt => symMerge_int hl N X' U' V' Z' w' a1 a2 a3 (by omega)) X U V Z w rfl cU cV sU sV pU pV hl hD hc i1 i2 i3 h1 h2 h3
      · match V, hV, cV with
        | [x], _, _ => exact symB_int b n c g cap k p X U Z x w (pV x List.mem_cons_self) pU cU sU hl hD hc i1 i2 i3 h1 h2 (by rw [h3]; rfl)
    · match U, hU, cU with
      | [x], _, _ => exact symA_int b n c g cap k p X V Z x w (pU x List.mem_cons_self) pV hV sV hl hD hc i1 i2 i3 h1 (by rw [h2]; rfl) (by rw [h3]; rfl)
end
end Go.Proofs.YtpijeomnplmakaaGreatDoor

/- slices.SortStableFunc of numbers: the whole. -/
namespace Go.Proofs.YtpijeomnplmakaaGreatDoor
open Go.RowKit

/-! Blocks of s that are sorted. -/
def BlkS (k : Int → Int) (s : Nat) (l : List Int) : Prop := ∀ t, Srt k ((l.drop (t * s)).take s)
theorem BlkS.head {k : Int → Int} {s : Nat} {l : List Int} (h : BlkS k s l) : Srt k (l.take s) := by have := h 0; rwa [Nat.zero_mul, List.drop_zero] at this
theorem BlkS.drop {k : Int → Int} {s : Nat} {l : List Int} (h : BlkS k s l) : BlkS k s (l.drop s) := fun t => by
  have := h (t + 1)
  rw [List.drop_drop]
  rwa [Nat.add_mul, Nat.one_mul, Nat.add_comm] at this
theorem BlkS.one {k : Int → Int} {s : Nat} {l : List Int} (h : Srt k l) (hl : l.length ≤ s) : BlkS k s l := fun t => by
  cases t with
  | zero => rw [Nat.zero_mul, List.drop_zero, List.take_of_length_le hl]; exact h
  | succ t => rw [List.drop_of_length_le (by rw [Nat.add_mul]; omega)]; simp [Srt]
theorem BlkS.app {k : Int → Int} {s m : Nat} {D R : List Int} (h : BlkS k s D) (hm : D.length = m * s) (hR : BlkS k s R) : BlkS k s (D ++ R) := fun t => by
  rcases Nat.lt_or_ge t m with c | c
  · have h1 : (t + 1) * s ≤ m * s := Nat.mul_le_mul_right s c
    rw [Nat.add_mul] at h1
    rw [List.drop_append_of_le_length (by omega), List.take_append_of_le_length (by simp; omega)]
    exact h t
  · have h1 : m * s ≤ t * s := Nat.mul_le_mul_right s c
    rw [List.drop_append, List.drop_of_length_le (by omega), List.nil_append, hm, ← Nat.sub_mul]
    exact hR (t - m)
theorem srt_nil (k : Int → Int) : Srt k [] := by simp [Srt]

section
variable (b n c g : Nat) (cap : List Value) (k : Int → Int) (p : Int → Prop) [he : Enters Tryz.prog g]
set_option maxHeartbeats 8000000 in
theorem stable_int (l : List Int) (w : World) (hl : n ≤ 1000000) (hp : ∀ x ∈ l, p x) (hD : SD 3 w b n c l) (hc : CmpE Tryz.prog g cap k b w p) (hn0 : (n : Int) = l.length) :
    Calls Tryz.prog 94 [.slice (some ⟨b, 0, none⟩) n c, .int .i64 n, .func (.func g) #[] cap.toArray].toArray w fun e w' => (∃ v, e = .returned v) ∧ Only b w w' ∧ SD 3 w' b n c (ssort k l) := by
  refine Calls.ofW (by simp) ?_
  (refine jjB ?_; refine jjC ?_; apply jJ; exact eI rfl; refine jz ?_; refine jjB ?_; refine jjC ?_; apply jI; exact eI rfl; apply jJ; exact eI rfl; apply jJ; exact eI rfl; refine jz ?_; refine jjB ?_; refine jjD ?_)
  refine W.keep0 [(0, _), (1, _), (2, .func (.func g) #[] cap.toArray), (6, .int .i64 ((20 : Nat) : Int)), (7, .int .i64 ((0 : Nat) : Int)), (8, .int .i64 ((0 + 20 : Nat) : Int))] ⟨eS rfl, eI rfl, eF rfl, eI rfl, eI rfl, eI rfl, trivial⟩ fun sm => ?_
  refine W.loopG (11 :: 12 :: 13 :: 14 :: 15 :: 16 :: 17 :: 18 :: 19 :: 7 :: 20 :: 21 :: 22 :: 8 :: []) (fun gg s' w' => ∃ D R : List Int, s' 7 = .int .i64 ((D.length : Nat) : Int) ∧ s' 8 = .int .i64 ((D.length + 20 : Nat) : Int) ∧ gg = R.length ∧ (∃ m, D.length = m * 20) ∧ BlkS k 20 D ∧ Filt k l (D ++ R) ∧ Only b w w' ∧ SD 3 w' b n c (D ++ R)) l.length ⟨[], l, rfl, rfl, rfl, ⟨0, rfl⟩, .one (srt_nil k) (by simp), .refl _ _, .ofExt (.refl w), hD⟩ ?_
  rintro _ d w1 ⟨D, R, h7, h8, rfl, ⟨m, hm⟩, hB, hF, hO, hD1⟩
  refine W.fix h7 (W.fix (d := 8) h8 ?_)
  clear h7 h8
  have hn1 : n = D.length + R.length := by have := hD1.1; simp at this; omega
  have hpR : ∀ x ∈ R, p x := fun x hx => hp x (hF.symm.mem (List.mem_append_right _ hx))
  (refine jjB ?_; refine jjB ?_; refine jjC ?_; apply jI; exact eI rfl; apply jI; exact eI rfl; refine jd rfl rfl ?_; refine jz ?_)
  refine jjA ?_
  refine jjN rfl ?_ ?_ <;> intro _
  · (refine jjG ?_; refine jjD ?_; refine jjB ?_; refine jjC ?_; apply jI; exact eS rfl; apply jI; exact eI rfl; apply jI; exact eI rfl; apply jI; exact eF rfl)
    have hins := insertion_int b n c g cap k p D (R.take 20) (R.drop 20) w1 (fun x hx => hpR x (List.mem_of_mem_take hx)) hl (by rw [List.append_assoc, List.take_append_drop]; exact hD1) (hc.only hO) ((D.length : Nat) : Int) ((D.length + 20 : Nat) : Int) rfl (by rw [List.length_take]; omega)
    refine Ops.callR rfl (Enters.h (P := Tryz.prog) (g := 125)) rfl hins ?_
    rintro _ w2 ⟨⟨v, rfl⟩, hO2, hD2⟩
    refine ⟨_, rfl, ?_⟩
    (refine jz ?_; refine jjB ?_; refine jjC ?_; apply jI; exact eI rfl; apply jJ; exact eI rfl; refine jz ?_; refine jjC ?_; apply jI; exact eI rfl; apply jI; exact eI rfl; refine jY rfl rfl (by omega) ?_; apply jJ; exact eI rfl; refine jz ?_)
    have hsl : (ssort k (R.take 20)).length = 20 := by rw [ssort_len, List.length_take]; omega
    refine ⟨rfl, by ((refine Same.upd rfl ?_; refine Same.upd rfl ?_; refine Same.upd rfl ?_; refine Same.upd rfl ?_; refine Same.upd rfl ?_; refine Same.upd rfl ?_; refine Same.upd rfl ?_; refine Same.upd rfl ?_; refine Same.upd rfl ?_; refine Same.upd rfl ?_; refine Same.upd rfl ?_; refine Same.upd rfl ?_; refine Same.upd rfl ?_; refine Same.upd rfl ?_; refine Same.upd rfl ?_; refine Same.upd rfl ?_; exact Same.ovN)), (R.drop 20).length, by rw [List.length_drop]; omega, D ++ ssort k (R.take 20), R.drop 20, congrArg (Value.int .i64) (by rw [List.length_append, hsl]), congrArg (Value.int .i64) (by rw [List.length_append, hsl]; omega), rfl, ⟨m + 1, by rw [List.length_append, hsl, hm]; omega⟩, hB.app hm (.one (ssort_srt _ _) (by omega)), ?_, hO.trans hO2, hD2⟩
    refine hF.trans ?_
    rw [List.append_assoc]
    refine Filt.app (.refl _ _) ?_
    have := (ssort_filt k (R.take 20)).app (Filt.refl k (R.drop 20))
    rwa [List.take_append_drop] at this
  · refine jjA ?_
    refine jjE ?_
    (refine jjB ?_; refine jjC ?_; apply jI; exact eS rfl; apply jI; exact eI rfl; apply jI; exact eI rfl; apply jI; exact eF rfl)
    have hins := insertion_int b n c g cap k p D R [] w1 hpR hl (by rw [List.append_nil]; exact hD1) (hc.only hO) ((D.length : Nat) : Int) (n : Int) rfl (by omega)
    refine Ops.callR rfl (Enters.h (P := Tryz.prog) (g := 125)) rfl hins ?_
    rintro _ w2 ⟨⟨v, rfl⟩, hO2, hD2⟩
    refine ⟨_, rfl, ?_⟩
    rw [List.append_nil] at hD2
    have hF2 : Filt k l (D ++ ssort k R) := hF.trans ((Filt.refl k D).app (ssort_filt k R))
    have hB2 : BlkS k 20 (D ++ ssort k R) := hB.app hm (.one (ssort_srt _ _) (by rw [ssort_len]; omega))
    have hOw := hO.trans hO2
    generalize D ++ ssort k R = l2 at hD2 hF2 hB2
    clear hins hD1 hD hpR hn1 hF hB hm hO hO2
    (refine jz ?_; refine jjD ?_)
    refine W.keep0 [(0, .slice (some ⟨b, 0, none⟩) n c), (1, .int .i64 n), (2, .func (.func g) #[] cap.toArray), (6, .int .i64 ((20 : Nat) : Int))] ⟨eS rfl, eI rfl, eF rfl, eI rfl, trivial⟩ fun sm => ?_
    refine W.loopG (28 :: 29 :: 30 :: 31 :: 32 :: 7 :: 8 :: 33 :: 34 :: 35 :: 36 :: 37 :: 38 :: 39 :: 40 :: 41 :: 42 :: 43 :: 44 :: 45 :: 46 :: 47 :: 48 :: 49 :: 50 :: 51 :: 9 :: 52 :: 53 :: 54 :: 55 :: 56 :: 57 :: 58 :: 59 :: 60 :: 61 :: 62 :: 6 :: []) (fun gg s' w' => ∃ (s : Nat) (l2 : List Int), s' 6 = .int .i64 ((s : Nat) : Int) ∧ gg = n - s ∧ 0 < s ∧ s ≤ 2 * n + 20 ∧ BlkS k s l2 ∧ Filt k l l2 ∧ Only b w w' ∧ SD 3 w' b n c l2) (n - 20) ⟨20, l2, rfl, rfl, by omega, by omega, hB2, hF2, hOw, hD2⟩ ?_
    clear hD2 hF2 hB2 hOw
    rintro _ d w3 ⟨s, l3, h6, rfl, hs0, hs1, hB3, hF3, hO3, hD3⟩
    refine W.fix h6 ?_
    clear h6
    (refine jjB ?_; refine jjB ?_; refine jjC ?_; apply jI; exact eI rfl; apply jI; exact eI rfl; refine jX rfl rfl ?_; refine jz ?_)
    refine jjA ?_
    refine jjN rfl ?_ ?_ <;> intro _
    · (refine jjG ?_; refine jjD ?_; refine jjB ?_; refine jjC ?_; apply jI; exact eI rfl)
      refine jW ?_
      refine Ops.mul rfl rfl (by omega) ?_
      (apply jJ; exact eI rfl; apply jJ; exact eI rfl; refine jz ?_; refine jjB ?_; refine jjD ?_)
      refine W.keep [(0, .slice (some ⟨b, 0, none⟩) n c), (1, .int .i64 n), (2, .func (.func g) #[] cap.toArray), (6, .int .i64 ((s : Nat) : Int)), (7, .int .i64 ((0 : Nat) : Int)), (8, .int .i64 ((0 + 2 * s : Nat) : Int))] (D := (28 :: 29 :: 30 :: 31 :: 32 :: 7 :: 8 :: 33 :: 34 :: 35 :: 36 :: 37 :: 38 :: 39 :: 40 :: 41 :: 42 :: 43 :: 44 :: 45 :: 46 :: 47 :: 48 :: 49 :: 50 :: 51 :: 9 :: 52 :: 53 :: 54 :: 55 :: 56 :: 57 :: 58 :: 59 :: 60 :: 61 :: 62 :: 6 :: [])) (sO := upds sm _) (by ((refine Same.upd rfl ?_; refine Same.upd rfl ?_; refine Same.upd rfl ?_; refine Same.upd rfl ?_; refine Same.upd rfl ?_; refine Same.upd rfl ?_; refine Same.upd rfl ?_; refine Same.upd rfl ?_; exact Same.ovN))) ⟨eS rfl, eI rfl, eF rfl, eI rfl, eI rfl, congrArg (Value.int .i64) (by omega), trivial⟩ fun sk hsk => ?_
      refine W.loopG (33 :: 34 :: 35 :: 36 :: 37 :: 38 :: 39 :: 40 :: 41 :: 42 :: 43 :: 44 :: 7 :: 45 :: 46 :: 47 :: 48 :: 8 :: []) (fun gg s' w' => ∃ D R : List Int, s' 7 = .int .i64 ((D.length : Nat) : Int) ∧ s' 8 = .int .i64 ((D.length + 2 * s : Nat) : Int) ∧ gg = R.length ∧ (∃ m, D.length = m * (2 * s)) ∧ BlkS k (2 * s) D ∧ BlkS k s R ∧ Filt k l (D ++ R) ∧ Only b w w' ∧ SD 3 w' b n c (D ++ R)) l3.length ⟨[], l3, rfl, rfl, rfl, ⟨0, by simp⟩, .one (srt_nil k) (by simp), hB3, hF3, hO3, hD3⟩ ?_
      clear hB3 hF3 hO3 hD3
      rintro _ d w1 ⟨D, R, h7, h8, rfl, ⟨m, hm⟩, hBD, hBR, hF, hO, hD1⟩
      refine W.fix h7 (W.fix (d := 8) h8 ?_)
      clear h7 h8
      have hn1 : n = D.length + R.length := by have := hD1.1; simp at this; omega
      have hpR : ∀ x ∈ R, p x := fun x hx => hp x (hF.symm.mem (List.mem_append_right _ hx))
      (refine jjB ?_; refine jjB ?_; refine jjC ?_; apply jI; exact eI rfl; apply jI; exact eI rfl; refine jd rfl rfl ?_; refine jz ?_)
      refine jjA ?_
      refine jjN rfl ?_ ?_ <;> intro _
      · have hUs : ((R.drop s).take s).length = s := by rw [List.length_take, List.length_drop]; omega
        have hU : (R.take s).length = s := by rw [List.length_take]; omega
        have hm2 := symMerge_int b n c g cap k p hl (2 * s + 1) D (R.take s) ((R.drop s).take s) ((R.drop s).drop s) w1 ((D.length : Nat) : Int) ((D.length : Nat) + (s : Nat) : Int) ((D.length + 2 * s : Nat) : Int) (by omega) (by omega) (by omega) hBR.head hBR.drop.head (fun x hx => hpR x (List.mem_of_mem_take hx)) (fun x hx => hpR x (List.mem_of_mem_drop (List.mem_of_mem_take hx))) (by
          rw [List.append_assoc _ ((R.drop s).take s), List.take_append_drop, List.append_assoc, List.take_append_drop]; exact hD1) (hc.only hO) rfl (by omega) (by omega)
        (refine jjG ?_; refine jjD ?_; refine jjB ?_; refine jjC ?_; apply jI; exact eS rfl; apply jI; exact eI rfl; apply jI; exact eI rfl; apply jI; exact eI rfl; refine jY rfl rfl (by omega) ?_; apply jI; exact eI rfl; apply jI; exact eF rfl)
        refine Ops.callR rfl (Enters.h (P := Tryz.prog) (g := 126)) rfl hm2 ?_
        rintro _ w2 ⟨⟨v, rfl⟩, hO2, hD2⟩
        refine ⟨_, rfl, ?_⟩
        (refine jz ?_; refine jjB ?_; refine jjC ?_; apply jI; exact eI rfl; apply jJ; exact eI rfl; refine jz ?_; refine jjC ?_; apply jI; exact eI rfl; apply jI; exact eI rfl)
        refine jW ?_
        refine Ops.mul rfl rfl (by omega) ?_
        (refine jY rfl rfl (by omega) ?_; apply jJ; exact eI rfl; refine jz ?_)
        have hsl : (ssort k (R.take s ++ (R.drop s).take s)).length = 2 * s := by rw [ssort_len, List.length_append]; omega
        refine ⟨rfl, by ((refine Same.upd rfl ?_; refine Same.upd rfl ?_; refine Same.upd rfl ?_; refine Same.upd rfl ?_; refine Same.upd rfl ?_; refine Same.upd rfl ?_; refine Same.upd rfl ?_; refine Same.upd rfl ?_; refine Same.upd rfl ?_; refine Same.upd rfl ?_; refine Same.upd rfl ?_; refine Same.upd rfl ?_; refine Same.upd rfl ?_; refine Same.upd rfl ?_; refine Same.upd rfl ?_; refine Same.upd rfl ?_; refine Same.upd rfl ?_; refine Same.upd rfl ?_; refine Same.upd rfl ?_; refine Same.upd rfl ?_; exact Same.ovN)), ((R.drop s).drop s).length, by rw [List.length_drop, List.length_drop]; omega, D ++ ssort k (R.take s ++ (R.drop s).take s), (R.drop s).drop s, congrArg (Value.int .i64) (by rw [List.length_append, hsl]), congrArg (Value.int .i64) (by rw [List.length_append, hsl]; omega), rfl, ⟨m + 1, by rw [List.length_append, hsl, hm, Nat.add_mul]; omega⟩, hBD.app hm (.one (ssort_srt _ _) (by omega)), hBR.drop.drop, ?_, hO.trans hO2, hD2⟩
        refine hF.trans ?_
        rw [List.append_assoc]
        refine Filt.app (.refl _ _) ?_
        have := (ssort_filt k (R.take s ++ (R.drop s).take s)).app (Filt.refl k ((R.drop s).drop s))
        rwa [List.append_assoc, List.take_append_drop, List.take_append_drop] at this
      · refine jjA ?_
        refine jjE ?_
        rcases Nat.lt_or_ge s R.length with c1 | c1
        · have hU : (R.take s).length = s := by rw [List.length_take]; omega
          have hV : (R.drop s).length = R.length - s := by rw [List.length_drop]
          have hsV : Srt k (R.drop s) := by have := hBR.drop.head; rwa [List.take_of_length_le (by omega)] at this
          have hm2 := symMerge_int b n c g cap k p hl (2 * s + 1) D (R.take s) (R.drop s) [] w1 ((D.length : Nat) : Int) ((D.length : Nat) + (s : Nat) : Int) (n : Int) (by omega) (by omega) (by omega) hBR.head hsV (fun x hx => hpR x (List.mem_of_mem_take hx)) (fun x hx => hpR x (List.mem_of_mem_drop hx)) (by
            rw [List.append_nil, List.append_assoc, List.take_append_drop]; exact hD1) (hc.only hO) rfl (by omega) (by omega)
          rw [List.append_nil, List.take_append_drop] at hm2
          (refine jjB ?_; refine jjB ?_; refine jjC ?_; apply jI; exact eI rfl; apply jI; exact eI rfl; refine jY rfl rfl (by omega) ?_; apply jJ; exact eI rfl; refine jz ?_; refine jjB ?_; refine jjC ?_; apply jI; exact eI rfl; apply jI; exact eI rfl; refine jjZ rfl rfl (by omega) ?_; refine jz ?_; refine jjJ rfl ?_; refine jjC ?_; apply jI; exact eS rfl; apply jI; exact eI rfl; apply jI; exact eI rfl; apply jI; exact eI rfl; apply jI; exact eF rfl)
          refine Ops.callR rfl (Enters.h (P := Tryz.prog) (g := 126)) rfl hm2 ?_
          rintro _ w2 ⟨⟨v, rfl⟩, hO2, hD2⟩
          refine ⟨_, rfl, ?_⟩
          (refine jz ?_; refine jjC ?_; apply jI; exact eI rfl)
          refine jW ?_
          refine Ops.mul rfl rfl (by omega) ?_
          (apply jJ; exact eI rfl; refine jz ?_)
          refine ⟨rfl, by ((refine Same.upd rfl ?_; refine Same.upd rfl ?_; refine Same.upd rfl ?_; refine Same.upd rfl ?_; refine Same.upd rfl ?_; refine Same.upd rfl ?_; refine Same.upd rfl ?_; refine Same.upd rfl ?_; refine Same.upd rfl ?_; refine Same.upd rfl ?_; refine Same.upd rfl ?_; refine Same.upd rfl ?_; refine Same.upd rfl ?_; refine Same.upd rfl ?_; refine Same.upd rfl ?_; refine Same.upd rfl ?_; refine Same.upd rfl ?_; refine Same.upd rfl ?_; refine Same.upd rfl ?_; refine Same.upd rfl ?_; refine Same.upd rfl ?_; refine Same.ovN' rfl ?_; assumption)), n - 2 * s, by omega, 2 * s, D ++ ssort k R, congrArg (Value.int .i64) (by omega), rfl, by omega, by omega, hBD.app hm (.one (ssort_srt _ _) (by rw [ssort_len]; omega)), hF.trans ((Filt.refl k D).app (ssort_filt k R)), hO.trans hO2, hD2⟩
        · have hsR : Srt k R := by have := hBR.head; rwa [List.take_of_length_le (by omega)] at this
          (refine jjB ?_; refine jjB ?_; refine jjC ?_; apply jI; exact eI rfl; apply jI; exact eI rfl; refine jY rfl rfl (by omega) ?_; apply jJ; exact eI rfl; refine jz ?_; refine jjB ?_; refine jjC ?_; apply jI; exact eI rfl; apply jI; exact eI rfl; refine jja rfl rfl (by omega) ?_; refine jz ?_; refine jjK rfl ?_; refine jjG ?_; refine jjC ?_; apply jI; exact eI rfl)
          refine jW ?_
          refine Ops.mul rfl rfl (by omega) ?_
          (apply jJ; exact eI rfl; refine jz ?_)
          refine ⟨rfl, by ((refine Same.upd rfl ?_; refine Same.upd rfl ?_; refine Same.upd rfl ?_; refine Same.upd rfl ?_; refine Same.upd rfl ?_; refine Same.upd rfl ?_; refine Same.upd rfl ?_; refine Same.upd rfl ?_; refine Same.upd rfl ?_; refine Same.upd rfl ?_; refine Same.upd rfl ?_; refine Same.upd rfl ?_; refine Same.upd rfl ?_; refine Same.upd rfl ?_; refine Same.upd rfl ?_; refine Same.ovN' rfl ?_; assumption)), n - 2 * s, by omega, 2 * s, D ++ R, congrArg (Value.int .i64) (by omega), rfl, by omega, by omega, hBD.app hm (.one hsR (by omega)), hF, hO, hD1⟩
    · refine jjA ?_
      refine jjE ?_
      (refine jA rfl ⟨⟨_, rfl⟩, ?_⟩)
      refine ⟨hO3, ?_⟩
      have hln := hD3.1
      have hs := hB3.head
      rw [List.take_of_length_le (by omega)] at hs
      rw [← ssort_eq hs hF3]
      exact hD3

theorem insertion_none (v fv : Value) (l c : Nat) (a : Option Addr) (w : World) (hv : v = .slice a l c) :
    Calls Tryz.prog 125 [v, .int .i64 0, .int .i64 0, fv].toArray w fun e w' => (∃ v, e = .returned v) ∧ Ext w w' := by
  subst hv
  refine Calls.ofW (by simp) ?_
  (refine jjB ?_; refine jjC ?_; apply jI; exact eI rfl; refine jY rfl rfl (by omega) ?_; apply jJ; exact eI rfl; refine jz ?_; refine jjD ?_)
  refine W.loop (12 :: 13 :: 14 :: 17 :: 9 :: 18 :: 19 :: 20 :: 21 :: 22 :: 23 :: 24 :: 25 :: 26 :: 27 :: 28 :: 29 :: 30 :: 31 :: 32 :: 33 :: 34 :: 37 :: 38 :: 39 :: 40 :: 41 :: 42 :: 43 :: 44 :: 45 :: 46 :: 47 :: 48 :: 49 :: 50 :: 51 :: 52 :: 35 :: 36 :: 15 :: 16 :: 8 :: []) (fun gg s' w' => s' 8 = .int .i64 1) 0 rfl ?_
  rintro _ d w1 hS h8
  refine W.fix h8 ?_
  clear h8
  (refine jjB ?_; refine jjB ?_; refine jjC ?_; apply jI; exact eI rfl; apply jI; exact eI rfl; refine jja rfl rfl (by omega) ?_; refine jz ?_; refine jjK rfl ?_; refine jjE ?_; refine jA rfl ⟨⟨_, rfl⟩, ?_⟩)
  exact inferInstance
theorem SortStable_none (fv : Value) (l c : Nat) (a : Option Addr) (w : World) (hl0 : l = 0) :
    Calls Tryz.prog 59 [.slice a l c, fv].toArray w fun e w' => (∃ v, e = .returned v) ∧ Ext w w' := by
  subst hl0
  have h1 : Calls Tryz.prog 94 [.slice a 0 c, .int .i64 (0 : Nat), fv].toArray w fun e w' => (∃ v, e = .returned v) ∧ Ext w w' := by
    refine Calls.ofW (by simp) ?_
    (refine jjB ?_; refine jjC ?_; apply jJ; exact eI rfl; refine jz ?_; refine jjB ?_; refine jjC ?_; apply jI; exact eI rfl; apply jJ; exact eI rfl; apply jJ; exact eI rfl; refine jz ?_; refine jjB ?_; refine jjD ?_)
    refine W.loop (11 :: 12 :: 13 :: 14 :: 15 :: 16 :: 17 :: 18 :: 19 :: 7 :: 20 :: 21 :: 22 :: 8 :: []) (fun gg s' w' => s' 7 = .int .i64 0 ∧ s' 8 = .int .i64 20) 0 ⟨rfl, rfl⟩ ?_
    rintro _ d w1 hS ⟨h7, h8⟩
    refine W.fix h7 (W.fix (d := 8) h8 ?_)
    clear h7 h8
    (refine jjB ?_; refine jjB ?_; refine jjC ?_; apply jI; exact eI rfl; apply jI; exact eI rfl; refine jjc rfl rfl (by omega) ?_; refine jz ?_; refine jjK rfl ?_; refine jjE ?_; refine jjB ?_; refine jjC ?_; apply jI; exact eS rfl; apply jI; exact eI rfl; apply jI; exact eI rfl; apply jI; exact rfl)
    refine Ops.callR rfl (Enters.h (P := Tryz.prog) (g := 125)) rfl (insertion_none _ fv 0 c a w1 rfl) ?_
    rintro _ w2 ⟨⟨v, rfl⟩, hE2⟩
    refine ⟨_, rfl, ?_⟩
    have := hE2.toStep
    (refine jz ?_; refine jjD ?_)
    refine W.loop (28 :: 29 :: 30 :: 31 :: 32 :: 7 :: 8 :: 33 :: 34 :: 35 :: 36 :: 37 :: 38 :: 39 :: 40 :: 41 :: 42 :: 43 :: 44 :: 45 :: 46 :: 47 :: 48 :: 49 :: 50 :: 51 :: 9 :: 52 :: 53 :: 54 :: 55 :: 56 :: 57 :: 58 :: 59 :: 60 :: 61 :: 62 :: 6 :: []) (fun gg s' w' => s' 6 = .int .i64 20) 0 rfl ?_
    rintro _ d w1 hS h6
    refine W.fix h6 ?_
    clear h6
    (refine jjB ?_; refine jjB ?_; refine jjC ?_; apply jI; exact eI rfl; apply jI; exact eI rfl; refine jja rfl rfl (by omega) ?_; refine jz ?_; refine jjK rfl ?_; refine jjE ?_; refine jA rfl ⟨⟨_, rfl⟩, ?_⟩)
    exact inferInstance
  refine Calls.ofW (by simp) ?_
  (refine jjC ?_; apply jI; exact eS rfl; apply jI; exact eS rfl; refine jh rfl ?_; apply jI; exact rfl)
  refine Ops.callR rfl (Enters.h (P := Tryz.prog) (g := 94)) rfl h1 ?_
  rintro _ w2 ⟨⟨v, rfl⟩, hE2⟩
  refine ⟨_, rfl, ?_⟩
  (refine jz ?_; refine jA rfl ⟨⟨_, rfl⟩, ?_⟩)
  exact hE2
/-- slices.SortStableFunc of numbers that lie in a block of the call's own. -/
theorem SortStable_int (l : List Int) (w : World) (hl : n ≤ 1000000) (hp : ∀ x ∈ l, p x) (hD : SD 3 w b n c l) (hc : CmpE Tryz.prog g cap k b w p) :
    Calls Tryz.prog 59 [.slice (some ⟨b, 0, none⟩) n c, .func (.func g) #[] cap.toArray].toArray w fun e w' => (∃ v, e = .returned v) ∧ Only b w w' ∧ SD 3 w' b n c (ssort k l) := by
  refine Calls.ofW (by simp) ?_
  (refine jjC ?_; apply jI; exact eS rfl; apply jI; exact eS rfl; refine jh rfl ?_; apply jI; exact eF rfl)
  refine Ops.callR rfl (Enters.h (P := Tryz.prog) (g := 94)) rfl (stable_int b n c g cap k p l w hl hp hD hc (by have := hD.1; omega)) ?_
  rintro _ w2 ⟨⟨v, rfl⟩, hO2, hD2⟩
  refine ⟨_, rfl, ?_⟩
  (refine jz ?_; refine jA rfl ⟨⟨_, rfl⟩, ?_⟩)
  exact ⟨hO2, hD2⟩
end
end Go.Proofs.YtpijeomnplmakaaGreatDoor

/- rack: Check; comparing by a row of numbers. -/
namespace Go.Proofs.YtpijeomnplmakaaGreatDoor
open Go.RowKit

def keyD (d : List Int) (x : Int) : Int := d.getD x.toNat 0
theorem keyD_nat {d : List Int} {i : Nat} (hi : i < d.length) : keyD d (i : Int) = d[i] := by simp [keyD, List.getD_eq_getElem?_getD, hi]

theorem cmp_Sort (bx : Nat) (a : Option Addr) (c : Nat) (d : List Int) (w : World) (i j : Nat) (hi : i < d.length) (hj : j < d.length) [hb : At w bx 0 [.slice a d.length c]] [hrow : RowI w (.slice a d.length c) false 1 (d.map intV)] :
    Ct Tryz.prog 60 [.int .i64 (i : Int), .int .i64 (j : Int), .pointer (some ⟨bx, 0, none⟩)] w fun v _ => v = .int .i64 (if keyD d (i : Int) < keyD d (j : Int) then -1 else if keyD d (j : Int) < keyD d (i : Int) then 1 else 0) := by
  rw [keyD_nat hi, keyD_nat hj]
  refine Ct.ofW (by simp) ?_
  (refine jjB ?_; refine jjC ?_; apply jJ; exact eI rfl; refine jz ?_; refine jjB ?_)
  refine W.draw (fun w' => Ext w w') ?_
  intro w1 hS1
  obtain ⟨p1, o1, rfl, hA1⟩ := hrow.h.place' (map_get hi)
  obtain ⟨p2, o2, e2, hA2⟩ := hrow.h.place' (map_get hj)
  cases e2
  rw [Nat.mul_one] at hA1 hA2
  refine jjV [0, 1, 2, 3, 4, 5, 6, 7] (by decide +kernel) hS1.ext ?_
  (((apply jjT; exact rfl; rintro w' hq; have := hq.toStep; refine jN rfl rfl rfl ?_; refine jz ?_; exact ⟨rfl, rfl⟩; apply jjT; exact rfl; rintro w' hq; have := hq.toStep; apply jI; exact eI rfl; refine jz ?_; exact ⟨rfl, rfl⟩; apply jjT; exact rfl; rintro w' hq; have := hq.toStep; refine jG rfl rfl rfl (by omega) ?_; refine jz ?_; exact ⟨rfl, rfl⟩; apply jjT; exact rfl; rintro w' hq; have := hq.toStep; refine jQ rfl rfl ?_; refine jz ?_; exact ⟨rfl, rfl⟩; apply jjT; exact rfl; rintro w' hq; have := hq.toStep; refine jN rfl rfl rfl ?_; refine jz ?_; exact ⟨rfl, rfl⟩; apply jjT; exact rfl; rintro w' hq; have := hq.toStep; apply jI; exact eI rfl; refine jz ?_; exact ⟨rfl, rfl⟩; apply jjT; exact rfl; rintro w' hq; have := hq.toStep; refine jG rfl rfl rfl (by omega) ?_; refine jz ?_; exact ⟨rfl, rfl⟩; apply jjT; exact rfl; rintro w' hq; have := hq.toStep; refine jQ rfl rfl ?_; refine jz ?_; exact ⟨rfl, rfl⟩; refine jjU ?_)))
  apply jjW 8 (by decide +kernel) rfl hS1.ext
  refine jjQ (Compare_int d[i] d[j] w1) rfl rfl ?_
  rintro _ w2 hS2 rfl
  refine jz ?_
  refine jjV [9] (by decide +kernel) (hS1.ext.trans hS2.ext) ?_
  (((apply jjT; exact rfl; rintro w' hq; have := hq.toStep; apply jJ; exact eI rfl; refine jz ?_; exact ⟨rfl, rfl⟩; refine jjU ?_)))
  refine jjX (by decide +kernel) (hS1.ext.trans hS2.ext) ?_
  have := hS1.ext.trans hS2.ext
  (refine jjF ?_; refine jB rfl rfl ⟨inferInstance, ?_⟩)
  exact rfl
theorem cmp_Sort_E (bx : Nat) (a : Option Addr) (c b : Nat) (d : List Int) (w : World) (hb : At w bx 0 [.slice a d.length c]) (hrow : RowV w false 1 (.slice a d.length c) (d.map intV)) (h1 : bx ≠ b) (h2 : (Value.slice a d.length c).ownBlock ≠ some b) :
    CmpE Tryz.prog 60 [.pointer (some ⟨bx, 0, none⟩)] (keyD d) b w (fun x => 0 ≤ x ∧ x < d.length) := ⟨fun w' hO x y hx hy => by
  obtain ⟨i, rfl⟩ : ∃ i : Nat, x = i := ⟨x.toNat, by omega⟩
  obtain ⟨j, rfl⟩ : ∃ j : Nat, y = j := ⟨y.toNat, by omega⟩
  have := hO.at_ hb h1
  have : RowI w' (.slice a d.length c) false 1 (d.map intV) := ⟨hO.row hrow h2⟩
  exact cmp_Sort bx a c d w' i j (by omega) (by omega)⟩

theorem cmp_order (bx : Nat) (a : Option Addr) (c : Nat) (d : List Int) (w : World) (i j : Nat) (hi : i < d.length) (hj : j < d.length) [hb : At w bx 0 [.slice a d.length c]] [hrow : RowI w (.slice a d.length c) false 1 (d.map intV)] :
    Ct Tryz.prog 101 [.int .i64 (i : Int), .int .i64 (j : Int), .pointer (some ⟨bx, 0, none⟩)] w fun v _ => v = .int .i64 (if keyD d (i : Int) < keyD d (j : Int) then -1 else if keyD d (j : Int) < keyD d (i : Int) then 1 else 0) := by
  rw [keyD_nat hi, keyD_nat hj]
  refine Ct.ofW (by simp) ?_
  (refine jjB ?_; refine jjC ?_; apply jJ; exact eI rfl; refine jz ?_; refine jjB ?_)
  refine W.draw (fun w' => Ext w w') ?_
  intro w1 hS1
  obtain ⟨p1, o1, rfl, hA1⟩ := hrow.h.place' (map_get hi)
  obtain ⟨p2, o2, e2, hA2⟩ := hrow.h.place' (map_get hj)
  cases e2
  rw [Nat.mul_one] at hA1 hA2
  refine jjV [0, 1, 2, 3, 4, 5, 6, 7] (by decide +kernel) hS1.ext ?_
  (((apply jjT; exact rfl; rintro w' hq; have := hq.toStep; refine jN rfl rfl rfl ?_; refine jz ?_; exact ⟨rfl, rfl⟩; apply jjT; exact rfl; rintro w' hq; have := hq.toStep; apply jI; exact eI rfl; refine jz ?_; exact ⟨rfl, rfl⟩; apply jjT; exact rfl; rintro w' hq; have := hq.toStep; refine jG rfl rfl rfl (by omega) ?_; refine jz ?_; exact ⟨rfl, rfl⟩; apply jjT; exact rfl; rintro w' hq; have := hq.toStep; refine jQ rfl rfl ?_; refine jz ?_; exact ⟨rfl, rfl⟩; apply jjT; exact rfl; rintro w' hq; have := hq.toStep; refine jN rfl rfl rfl ?_; refine jz ?_; exact ⟨rfl, rfl⟩; apply jjT; exact rfl; rintro w' hq; have := hq.toStep; apply jI; exact eI rfl; refine jz ?_; exact ⟨rfl, rfl⟩; apply jjT; exact rfl; rintro w' hq; have := hq.toStep; refine jG rfl rfl rfl (by omega) ?_; refine jz ?_; exact ⟨rfl, rfl⟩; apply jjT; exact rfl; rintro w' hq; have := hq.toStep; refine jQ rfl rfl ?_; refine jz ?_; exact ⟨rfl, rfl⟩; refine jjU ?_)))
  apply jjW 8 (by decide +kernel) rfl hS1.ext
  refine jjQ (Compare_int d[i] d[j] w1) rfl rfl ?_
  rintro _ w2 hS2 rfl
  refine jz ?_
  refine jjV [9] (by decide +kernel) (hS1.ext.trans hS2.ext) ?_
  (((apply jjT; exact rfl; rintro w' hq; have := hq.toStep; apply jJ; exact eI rfl; refine jz ?_; exact ⟨rfl, rfl⟩; refine jjU ?_)))
  refine jjX (by decide +kernel) (hS1.ext.trans hS2.ext) ?_
  have := hS1.ext.trans hS2.ext
  (refine jjF ?_; refine jB rfl rfl ⟨inferInstance, ?_⟩)
  exact rfl
theorem cmp_order_E (bx : Nat) (a : Option Addr) (c b : Nat) (d : List Int) (w : World) (hb : At w bx 0 [.slice a d.length c]) (hrow : RowV w false 1 (.slice a d.length c) (d.map intV)) (h1 : bx ≠ b) (h2 : (Value.slice a d.length c).ownBlock ≠ some b) :
    CmpE Tryz.prog 101 [.pointer (some ⟨bx, 0, none⟩)] (keyD d) b w (fun x => 0 ≤ x ∧ x < d.length) := ⟨fun w' hO x y hx hy => by
  obtain ⟨i, rfl⟩ : ∃ i : Nat, x = i := ⟨x.toNat, by omega⟩
  obtain ⟨j, rfl⟩ : ∃ j : Nat, y = j := ⟨y.toNat, by omega⟩
  have := hO.at_ hb h1
  have : RowI w' (.slice a d.length c) false 1 (d.map intV) := ⟨hO.row hrow h2⟩
  exact cmp_order bx a c d w' i j (by omega) (by omega)⟩
end Go.Proofs.YtpijeomnplmakaaGreatDoor

/- rack: order. -/
namespace Go.Proofs.YtpijeomnplmakaaGreatDoor
open Go.RowKit

/-- The order of a deck. -/
def ordF (d : List Int) : List Int := ssort (keyD d) (upN d.length)
theorem ordF_len (d : List Int) : (ordF d).length = d.length := by rw [ordF, ssort_len, upN_len]

structure OrdI (bx : Nat) (a : Option Addr) (c : Nat) (d : List Int) (w : World) : Prop where
  box : At w bx 0 [.slice a d.length c]
  row : RowV w false 1 (.slice a d.length c) (d.map intV)

set_option maxHeartbeats 1000000 in
theorem order1_rack (bx : Nat) (a : Option Addr) (c : Nat) (d : List Int) (hl : d.length ≤ 1000) : Iter Tryz.prog 100 [.pointer (some ⟨bx, 0, none⟩)] (ordF d) encI (OrdI bx a c d) := by
  intro l J Jx M w hJ hJx hF hM1 hM2 hY h0
  have hF0 := hF 0 w h0
  have := hF0.box
  refine Calls.ofW (by simp) ?_
  (refine jjB ?_; refine jjC ?_; apply jJ; exact eS rfl; refine jz ?_; refine jjB ?_; refine jjB ?_; refine jjC ?_; refine jN rfl rfl rfl ?_; refine jh rfl ?_; apply jI; exact eI rfl; refine jz ?_; refine jjD ?_)
  refine W.loop (10 :: 11 :: 4 :: 12 :: 13 :: 14 :: 15 :: 3 :: 16 :: 9 :: []) (fun g s' w' => ∃ (i : Nat) (v : Value), s' 9 = .int .i64 ((i : Nat) : Int) ∧ s' 3 = v ∧ g = d.length - i ∧ i ≤ d.length ∧ OwnL w' w.heap.size 3 false 1 v ((upN i).map intV)) d.length ⟨0, _, rfl, rfl, rfl, Nat.zero_le _, OwnL.nil _ _ _ _ _⟩ ?_
  rintro _ sd w1 hS1 ⟨i, v, h9, h3, rfl, hi, hO1⟩
  refine W.fix h9 (W.fix (d := 3) h3 ?_)
  clear h9 h3
  have z1 := hS1.size
  repeat' (first|((first|apply jI|apply jJ); (first|exact eI rfl|exact rfl))|(refine jW ?_; refine jX rfl rfl ?_)|refine jv ?_|refine jz ?_|(refine jjA ?_; (first|refine jjB ?_|refine jjC ?_|refine jjD ?_|refine jjE ?_|refine jjG ?_))|(refine jjA ?_; (refine jjN rfl ?_ ?_ <;> intro _)))
  · (refine jjP (v := .int _ _) rfl (by exact rfl) (by exact rfl) (by exact rfl) (by exact rfl) ?_; intro b2 w_b2 hb_b2 hs_b2 hS_b2 hk_b2; have hR_b2 := RowV.one (agg := false) (k := 1) rfl hk_b2)
    have z2 := hS_b2.size
    refine Ops.appendL (hO1.ext hS_b2.ext) (by omega) hR_b2 rfl rfl rfl rfl (one_int _) ?_ ?_ ?_
    · simp only [List.length_map, upN_len, List.length_cons, List.length_nil]; omega
    · simp only [List.length_map, upN_len, List.length_cons, List.length_nil]; omega
    intro v2 w2 hA2 hO2 _ _
    have hE2 : Ext w w2 := hA2.ext inferInstance (Nat.le_refl _)
    (apply jJ; exact rfl; refine jz ?_; refine jjC ?_; refine jY rfl rfl (by omega) ?_; apply jI; exact eI rfl; refine jz ?_)
    refine ⟨rfl, by ((refine Same.upd rfl ?_; refine Same.upd rfl ?_; refine Same.upd rfl ?_; refine Same.upd rfl ?_; refine Same.upd rfl ?_; refine Same.upd rfl ?_; refine Same.upd rfl ?_; refine Same.upd rfl ?_; refine Same.upd rfl ?_; refine Same.upd rfl ?_; refine Same.upd rfl ?_; refine Same.upd rfl ?_; exact Same.ovN)), d.length - (i + 1), by omega, hE2, i + 1, v2, congrArg (Value.int .i64) (by omega), rfl, rfl, by omega, ?_⟩
    rw [upN_succ, List.map_append]; exact hO2
  · have hie : i = d.length := by omega
    subst hie
    have hFj := hF 0 w1 (hJ _ _ _ h0 hS1.ext)
    obtain ⟨av, cv, ev⟩ := hO1.slice
    rw [List.length_map, upN_len] at ev
    subst ev
    have hsort : Calls Tryz.prog 59 [.slice av d.length cv, .func (.func 101) #[] [Value.pointer (some ⟨bx, 0, none⟩)].toArray].toArray w1 fun e w' => (∃ v, e = .returned v) ∧ Ext w w' ∧ OwnL w' w.heap.size 3 false 1 (.slice av d.length cv) ((ordF d).map intV) := by
      rcases Nat.eq_zero_or_pos d.length with h0 | h0
      · refine (SortStable_none _ d.length cv av w1 h0).mono fun e w' ⟨h1, h2⟩ => ⟨h1, hS1.ext.trans h2, ?_⟩
        have h3 : ordF d = upN d.length := by
          have h4 := ordF_len d
          have h5 := upN_len d.length
          rw [h0] at h4 h5
          rw [List.eq_nil_of_length_eq_zero h4, h0, List.eq_nil_of_length_eq_zero h5]
        rw [h3]; exact hO1.ext h2
      · obtain ⟨g, rfl, hg, hOg⟩ := hO1.self (by rw [List.length_map, upN_len]; exact h0)
        have hbx := hF0.box.lt
        have hne : (Value.slice a d.length c).ownBlock ≠ some g := fun e => by
          obtain ⟨b', o', rfl, hA⟩ := hF0.row.place' (map_get (j := 0) h0)
          have := hA.lt
          simp only [Value.ownBlock, Option.some.injEq] at e
          omega
        refine (SortStable_int g d.length cv 101 [Value.pointer (some ⟨bx, 0, none⟩)] (keyD d) _ (upN d.length) w1 (by omega) (fun x hx => upN_mem.1 hx) ⟨upN_len _, hOg⟩ (cmp_order_E bx a c g d w1 hFj.box hFj.row (by omega) hne)).mono ?_
        rintro e w' ⟨h1, h2, h3⟩
        exact ⟨h1, h2.ext hS1.ext hg, h3.2.mono hg⟩
    have hol := ordF_len d
    skip
    refine Ops.callR rfl (Enters.h (P := Tryz.prog) (g := 59)) rfl hsort ?_
    rintro _ w2 ⟨⟨v, rfl⟩, hE2, hO2⟩
    refine ⟨_, rfl, ?_⟩
    (refine jz ?_; refine jjB ?_; refine jjC ?_; apply jI; exact eS rfl; refine jh rfl ?_; apply jI; exact eI rfl; refine jz ?_; refine jjD ?_)
    refine W.keep0 [(0, .func (.yield l) #[] #[]), (20, .slice av d.length cv), (21, .int .i64 ((d.length : Nat) : Int)), (22, .int .i64 ((0 : Nat) : Int))] ⟨rfl, eS rfl, eI rfl, eI rfl, trivial⟩ fun s0 => ?_
    clear hsort
    refine W.loopG (23 :: 24 :: 25 :: 6 :: 26 :: 27 :: 28 :: 29 :: 30 :: 22 :: []) (fun gg s' w' => ∃ i : Nat, s' 22 = .int .i64 ((i : Nat) : Int) ∧ gg = d.length - i ∧ i ≤ d.length ∧ J i w' ∧ OwnL w' w.heap.size 3 false 1 (.slice av d.length cv) ((ordF d).map intV) ∧ ∀ g, (Value.slice av d.length cv).ownBlock = some g → ¬ M w' g) d.length ⟨0, rfl, rfl, Nat.zero_le _, hJ _ _ _ h0 hE2, hO2, fun g e h => by have := hM1 0 w g h0 (hM2 0 w w2 g h0 hE2 h); have := (hO2.block g e).1; omega⟩ ?_
    clear hO2 hE2 hO1
    rintro _ sd2 w3 ⟨i, h22, rfl, hi, hJ3, hO3, hM3⟩
    refine W.fix h22 ?_
    clear h22
    have : RowI w3 (.slice av d.length cv) false 1 ((ordF d).map intV) := ⟨hO3.row⟩
    repeat' (first|((first|apply jI|apply jJ); (first|exact eI rfl|exact eF rfl))|(refine jM ?_; refine jQ rfl rfl ?_)|(refine jW ?_; refine jX rfl rfl ?_)|(refine jE ?_; (refine jF rfl rfl rfl (map_get (by omega)) ?_; intro _ _ _))|refine jz ?_|(refine jjA ?_; (first|refine jjB ?_|refine jjC ?_|refine jjD ?_|refine jjE ?_|refine jjG ?_))|(refine jjA ?_; (refine jjN rfl ?_ ?_ <;> intro _))|refine jA rfl ⟨⟨_, rfl⟩, ?_⟩)
    · have hget := List.getElem?_eq_getElem (l := ordF d) (i := i) (by omega)
      refine Ops.yield (hY _ _ _ hget hJ3) rfl rfl ?_
      rintro e w9 (⟨rfl, hJ9, hFr⟩ | ⟨rfl, hJx9⟩)
      · refine ⟨_, rfl, ?_⟩
        (refine jp rfl ?_; refine jz ?_; refine jjK rfl ?_; refine jjG ?_; refine jjC ?_; refine jY rfl rfl (by omega) ?_; apply jI; exact eI rfl; refine jz ?_)
        refine ⟨rfl, by ((refine Same.upd rfl ?_; refine Same.upd rfl ?_; refine Same.upd rfl ?_; refine Same.upd rfl ?_; refine Same.upd rfl ?_; refine Same.upd rfl ?_; refine Same.upd rfl ?_; refine Same.upd rfl ?_; refine Same.upd rfl ?_; refine Same.upd rfl ?_; refine Same.upd rfl ?_; exact Same.ovN)), d.length - (i + 1), by omega, i + 1, congrArg (Value.int .i64) (by omega), rfl, by omega, hJ9, hO3.fr hFr hM3, fun g e h => (hFr.own _ h).elim (hM3 g e) (fun h => by have := (hO3.block g e).2; omega)⟩
      · refine ⟨_, rfl, ?_⟩
        (refine jq rfl ?_; refine jz ?_; refine jjJ rfl ?_; refine jjF ?_; refine jA rfl ⟨⟨_, rfl⟩, ?_⟩)
        exact .inr ⟨_, (List.getElem?_eq_some_iff.1 hget).1, hJx9⟩
    · have hie : i = (ordF d).length := by omega
      subst hie
      exact .inl hJ3

theorem order_rack (a : Option Addr) (c : Nat) (d : List Int) (w : World) : Ct Tryz.prog 69 [.slice a d.length c] w fun v w' => ∃ b, w.heap.size ≤ b ∧ At w' b 0 [.slice a d.length c] ∧ v = .func (.func 100) #[] [Value.pointer (some ⟨b, 0, none⟩)].toArray := by
  refine Ct.ofW (by simp) ?_
  (refine jjB ?_; refine jjC ?_)
  (refine jy rfl ?_; intro b1 w_b1 hb_b1 hs_b1 hS_b1 hk_b1; have hA_b1 := At.ofBlock hk_b1)
  (apply jJ; exact rfl; refine jz ?_; refine jjB ?_; refine jjC ?_; refine jv ?_; apply jJ; exact eF rfl; refine jz ?_; refine jjF ?_; refine jB rfl rfl ⟨inferInstance, ?_⟩)
  exact ⟨b1, by omega, hA_b1, rfl⟩
end Go.Proofs.YtpijeomnplmakaaGreatDoor

/- rack: open. -/
namespace Go.Proofs.YtpijeomnplmakaaGreatDoor
open Go.RowKit

abbrev OpS := Int × List (Int × Int) × List Int
def opS (st : OpS) (i : Int) : OpS := (i, (if i < st.1 then st.2.1 ++ [(st.1, i)] else st.2.1), st.2.2.set i.toNat (if i < st.1 then st.2.1 ++ [(st.1, i)] else st.2.1).length)
def opF (n : Nat) (L : List Int) : OpS := L.foldl opS (-1, [], List.replicate n 0)
theorem opF_snoc (n : Nat) (L : List Int) (i : Int) : opF n (L ++ [i]) = opS (opF n L) i := by simp [opF]
theorem opF_len (n : Nat) (L : List Int) : (opF n L).2.2.length = n ∧ (opF n L).2.1.length ≤ L.length := by
  suffices h : ∀ (M : List Int) (st : OpS), (M.foldl opS st).2.2.length = st.2.2.length ∧ (M.foldl opS st).2.1.length ≤ st.2.1.length + M.length by
    have := h L (-1, [], List.replicate n 0)
    simp only [List.length_replicate, List.length_nil] at this
    exact ⟨this.1, by simpa [opF] using this.2⟩
  intro M
  induction M with
  | nil => intro st; simp
  | cons x M ih =>
    intro st
    have := ih (opS st x)
    simp only [List.foldl_cons, List.length_cons]
    refine ⟨by rw [this.1]; simp [opS], Nat.le_trans this.2 ?_⟩
    simp only [opS]
    split
    · simp; omega
    · omega
/-- The error of a deck and boxes. -/
def opE (d : List Int) (boxes : Int) : Int := if deckB d then (if inB 2 20 boxes then 0 else 61) else 60

def OpenR (a : Option Addr) (c : Nat) (d : List Int) (boxes : Int) (B : Nat) (v : Value) (w' : World) : Prop :=
  (opE d boxes ≠ 0 ∧ v = .tuple #[.pointer none, .int .i64 (opE d boxes)]) ∨
  (opE d boxes = 0 ∧ ∃ bb bn ae ce, v = .tuple #[.pointer (some ⟨bb, 0, none⟩), .int .i64 0] ∧ B ≤ bb ∧ B ≤ bn ∧
    At w' bb 0 [.slice (some ⟨bn, 0, none⟩) d.length d.length, .slice ae (opF d.length (ordF d)).2.1.length ce, .slice a d.length c, .int .i64 boxes] ∧
    RowV w' false 1 (.slice (some ⟨bn, 0, none⟩) d.length d.length) ((opF d.length (ordF d)).2.2.map intV) ∧ RowV w' true 2 (.slice ae (opF d.length (ordF d)).2.1.length ce) ((opF d.length (ordF d)).2.1.map encII))

set_option maxHeartbeats 4000000 in
theorem open_rack (a : Option Addr) (c : Nat) (d : List Int) (boxes : Int) (w : World) (hl : d.length ≤ 1000000) [hrow : RowI w (.slice a d.length c) false 1 (d.map intV)] :
    Ct Tryz.prog 53 [.slice a d.length c, .int .i64 boxes] w fun v w' => OpenR a c d boxes w.heap.size v w' := by
  refine Ct.ofWM (by simp) ?_
  (refine jjB ?_; refine jjC ?_; apply jJ; exact eN rfl; apply jJ; exact eI rfl; refine jz ?_; refine jjB ?_; refine jjB ?_; refine jjC ?_; apply jI; exact eS rfl)
  refine jjQ (Check_rack a c d _ hl) rfl rfl ?_
  rintro _ w2 hS2 rfl
  cases hdk : deckB d
  · (apply jJ; exact eI rfl; refine jz ?_; refine jjB ?_; refine jjC ?_; apply jI; exact eI rfl; refine jc rfl rfl ?_; refine jz ?_; refine jjJ rfl ?_; refine jjB ?_; refine jjC ?_; apply jI; exact eI rfl; apply jJ; exact eN rfl; apply jJ; exact eI rfl; refine jz ?_; refine jjF ?_)
    refine fin2M rfl rfl rfl inferInstance fun w' g => ⟨Ext.ofGrow inferInstance g (Nat.le_refl _), .inl ⟨by simp [opE, hdk], ?_⟩⟩
    simp only [opE, hdk]; exact rfl
  · (apply jJ; exact eI rfl; refine jz ?_; refine jjB ?_; refine jjC ?_; apply jI; exact eI rfl; refine jc rfl rfl ?_; refine jz ?_; refine jjK rfl ?_; refine jjG ?_; refine jjB ?_; refine jjB ?_; refine jjC ?_; apply jI; exact eI rfl)
    (refine jjP (v := .int _ _) rfl (by exact rfl) (by exact rfl) (by exact rfl) (by exact rfl) ?_; intro b3 w_b3 hb_b3 hs_b3 hS_b3 hk_b3; have hR_b3 := RowV.one (agg := false) (k := 1) rfl hk_b3)
    ((skip); refine jjQ (in_rack 2 20 _ [boxes] _ hR_b3) rfl rfl ?_)
    rintro _ w3 hS3 rfl
    have z03 := (inferInstance : Ext w w3).size
    have z33 := hS3.size
    rw [all_one]
    cases hbx : inB 2 20 boxes
    · (refine jq rfl ?_; refine jz ?_; refine jjJ rfl ?_; refine jjB ?_; refine jjC ?_; apply jJ; exact eN rfl; apply jJ; exact eI rfl; refine jz ?_; refine jjF ?_)
      refine fin2M rfl rfl rfl inferInstance fun w' g => ⟨Ext.ofGrow inferInstance g (Nat.le_refl _), .inl ⟨by simp [opE, hdk, hbx], ?_⟩⟩
      simp only [opE, hdk, hbx]; exact rfl
    have he : opE d boxes = 0 := by simp [opE, hdk, hbx]
    have hd60 := deckB_len hdk
    (refine jp rfl ?_; refine jz ?_; refine jjK rfl ?_; refine jjG ?_; refine jjB ?_; refine jjC ?_; apply jI; exact eS rfl; apply jI; exact eI rfl)
    (refine jjS (cells := [.slice none 0 0, .slice none 0 0, .slice a d.length c, .int .i64 boxes]) ?_ ?_; exact rfl)
    (refine jy rfl ?_; intro bb w_bb hb_bb hs_bb hS_bb hk_bb; have hA_bb := At.ofBlock hk_bb)
    have hB_bb : Bk w_bb bb [.slice none 0 0, .slice none 0 0, .slice a d.length c, .int .i64 boxes] 107 := ⟨hk_bb⟩
    (apply jjR rfl; (intro _; first|exact eI rfl|exact eB rfl|exact eP rfl|exact eS rfl|exact eT rfl|exact eA rfl|exact eU rfl|exact eF rfl|exact eM rfl|exact eN rfl|exact rfl); exact rfl; exact rfl; exact rfl; exact rfl; intro b7 w_b7 hb_b7 hs_b7 hS_b7 hk_b7; have hA_b7 := Bk.of hk_b7)
    have z7 := hS_b7.size
    (refine jz ?_; refine jjB ?_)
    refine W.draw (fun w' => Only bb w_b7 w') ?_
    intro w5 hS5
    have hO5 : Only bb w_b7 w5 := .ofExt hS5.ext
    refine jjV [0, 1, 2] (by decide +kernel) hO5 ?_
    (((apply jjT; exact rfl; rintro w' hq; have := hq.at_ (hA_b7.toAt) (show b7 ≠ bb by omega); refine jN rfl rfl rfl ?_; refine jz ?_; exact ⟨rfl, rfl⟩; apply jjT; exact rfl; rintro w' hq; have := hq.at_ (hA_b7.toAt) (show b7 ≠ bb by omega); apply jI; exact eS rfl; refine jz ?_; exact ⟨rfl, rfl⟩; apply jjT; exact rfl; rintro w' hq; have := hq.at_ (hA_b7.toAt) (show b7 ≠ bb by omega); refine jh rfl ?_; refine jz ?_; exact ⟨rfl, rfl⟩; refine jjU ?_)))
    apply jjW 3 (by decide +kernel) rfl hO5
    refine Ops.makeS (m := d.length) rfl rfl rfl rfl (by omega) (by omega) ?_
    intro bn w6 hbn hs6 hS6 hB6
    refine jz ?_
    have z5 := hS5.size
    have hO6 : Only bb w_b7 w6 := hO5.trans (.ofExt hS6.ext)
    refine jjV [4, 5, 6] (by decide +kernel) hO6 ?_
    (((apply jjT; exact rfl; rintro w' hq; refine jw rfl ?_; refine jz ?_; exact ⟨rfl, rfl⟩; apply jjT; exact rfl; rintro w' hq; refine jm ?_; refine jn rfl ?_; refine jz ?_; exact ⟨rfl, rfl⟩; apply jjT; exact rfl; rintro w' hq; refine jm ?_; refine jn rfl ?_; refine jz ?_; exact ⟨rfl, rfl⟩; refine jjU ?_)))
    apply jjW 7 (by decide +kernel) rfl hO6
    have hBb6 : Bk w6 bb [.slice none 0 0, .slice none 0 0, .slice a d.length c, .int .i64 boxes] 107 := (hB_bb.ext hS_b7.ext).ext (hS5.ext.trans hS6.ext)
    refine Ops.store rfl (eS rfl) rfl rfl rfl ?_
    intro w7 hp7
    refine jz ?_
    refine jjX (by decide +kernel) (hO6.trans (.ofPut hp7)) ?_
    have hE6 : Ext w w6 := inferInstance
    have z6 := hE6.size
    have hE7 : Ext w w7 := hp7.ext hE6 (by omega)
    have hS7 := hE7.toStep
    have z7' := hp7.size
    have hBb7 : Bk w7 bb [.slice (some ⟨bn, 0, none⟩) d.length d.length, .slice none 0 0, .slice a d.length c, .int .i64 boxes] 107 := ⟨hp7.new⟩
    have hB77 : Bk w7 b7 [.pointer (some ⟨bb, 0, none⟩)] _ := hp7.bk ((hA_b7.ext hS5.ext).ext hS6.ext) (show b7 ≠ bb by omega)
    have hBn7 : Bk w7 bn _ _ := hp7.bk hB6 (show bn ≠ bb by omega)
    have hrep : List.replicate d.length (Value.int .i64 0) = (List.replicate d.length (0 : Int)).map intV := by simp
    rw [hrep] at hBn7
    clear hp7 hBb6 hO6 hB6 hE6 hO5
    (refine jjB ?_; refine jjC ?_)
    (apply jjR rfl; (intro _; first|exact eI rfl|exact eB rfl|exact eP rfl|exact eS rfl|exact eT rfl|exact eA rfl|exact eU rfl|exact eF rfl|exact eM rfl|exact eN rfl|exact rfl); exact rfl; exact rfl; exact rfl; exact rfl; intro b8 w_b8 hb_b8 hs_b8 hS_b8 hk_b8; have hA_b8 := Bk.of hk_b8)
    have z8 := hS_b8.size
    (refine jz ?_; refine jjB ?_; refine jjB ?_; refine jjC ?_; apply jI; exact eS rfl)
    ((skip); refine jjQ (order_rack a c d _) rfl rfl ?_)
    rintro _ w9 hS9 ⟨bx, hbx9, hAx, rfl⟩
    (refine jz ?_; refine jjD ?_)
    have hE9 : Ext w w9 := inferInstance
    have hE79 : Ext w7 w9 := hS_b8.ext.trans hS9.ext
    have z9 := hS9.size
    have hax := hAx.lt
    have hol := ordF_len d
    refine W.rangeM w.heap.size (ordF d) encI (order1_rack bx a c d (by omega)) rfl (fun _ => rfl) trivial inferInstance hE9.size
      (fun i V => Ext w V ∧ w9.heap.size ≤ V.heap.size ∧ At V b7 0 [.pointer (some ⟨bb, 0, none⟩)] ∧ Bk V b8 [.int .i64 (opF d.length ((ordF d).take i)).1] 3 ∧ At V bx 0 [.slice a d.length c] ∧ Bk V bn ((opF d.length ((ordF d).take i)).2.2.map intV) 3 ∧ ∃ ev, Bk V bb [.slice (some ⟨bn, 0, none⟩) d.length d.length, ev, .slice a d.length c, .int .i64 boxes] 107 ∧ OwnL V w9.heap.size 36 true 2 ev ((opF d.length ((ordF d).take i)).2.1.map encII))
      (fun _ _ _ => False) ?hJ (fun _ _ _ _ h _ => h) ?hF ?h0 (MO w9.heap.size bb 1) ?hW1 ?hW2 ?hW3 (fun x s' _ => s' 7 = .pointer (some ⟨b7, 0, none⟩) ∧ s' 8 = .pointer (some ⟨b8, 0, none⟩) ∧ s' 9 = .int .i64 x) (fun _ _ _ _ h _ => h) ?hassign ?hbody ?hdone (fun _ _ _ _ _ _ _ h => h.elim)
    case hJ =>
      rintro i V V' ⟨q1, q2, q3, q4, q5, q6, ev, q7, q8⟩ g
      exact ⟨q1.ofGrow g hE9.size, Nat.le_trans q2 g.size, q3.grow g, q4.grow g, q5.grow g, q6.grow g, ev, q7.grow g, q8.grow g⟩
    case hF =>
      rintro i V ⟨q1, q2, q3, q4, q5, _⟩
      exact ⟨q5, hrow.h.ext q1⟩
    case h0 =>
      exact ⟨hE9, Nat.le_refl _, (Bk.toAt (h := hB77)).ext hE79, inferInstance, hAx, hBn7.ext hE79, _, hBb7.ext hE79, OwnL.nil _ _ _ _ _⟩
    case hW1 => exact fun i V k ⟨q1, q2, q3, q4, q5, q6, ev, q7, q8⟩ h => MO.lt q2 (q7.cellO rfl) (fun g e => (q8.block g e).2) h
    case hW2 => exact fun i V V' k ⟨q1, q2, q3, q4, q5, q6, ev, q7, q8⟩ g h => MO.back (q7.cellO rfl) g h
    case hW3 => exact fun V V' k g h => .inl (MO.grow (by omega) g h)
    case hassign =>
      intro l i x V hx hJ hl hr
      (refine jjC ?_; apply jJ; exact eI rfl; refine jz ?_)
      exact ⟨rfl, Tr.refl _, Fr.refl _ _, hJ, rfl, rfl, rfl⟩
    case hbody =>
      rintro l i x s' V hx ⟨q1, q2, q3, q4, q5, q6, ev, q7, q8⟩ ⟨ha7, ha8, ha9⟩ hl hr
      have hxm := List.mem_of_getElem? hx
      rw [ordF, ssort_mem, upN_mem] at hxm
      obtain ⟨xi, rfl⟩ : ∃ xi : Nat, x = xi := ⟨x.toNat, by omega⟩
      have hlt := (List.getElem?_eq_some_iff.1 hx).1
      have hlen := opF_len d.length ((ordF d).take i)
      rw [List.length_take] at hlen
      refine W.fix (d := 7) ha7 (W.fix (d := 8) ha8 (W.fix (d := 9) ha9 ?_))
      have hxn : xi < d.length := by omega
      obtain ⟨st, hst⟩ : ∃ st, st = opF d.length ((ordF d).take i) := ⟨_, rfl⟩
      have hst1 : opF d.length ((ordF d).take (i + 1)) = opS st (xi : Int) := by rw [take_snoc_get hx, opF_snoc, hst]
      rw [hst1]
      rw [← hst] at q4 q6 q8 hlen
      clear hst hst1 ha7 ha8 ha9 hx
      have hb7 := q3.lt
      have hbb := q7.lt
      have hb8 := q4.lt
      have hbn' := q6.lt
      refine jjA ?_
      refine jjD ?_
      refine jjA ?_
      refine jjB ?_
      refine W.cutL [(7, .pointer (some ⟨b7, 0, none⟩)), (8, .pointer (some ⟨b8, 0, none⟩)), (9, .int .i64 (xi : Int))] (fun V1 => ∃ ev1, Bk V1 bb [.slice (some ⟨bn, 0, none⟩) d.length d.length, ev1, .slice a d.length c, .int .i64 boxes] 107 ∧ OwnL V1 w9.heap.size 36 true 2 ev1 ((opS st (xi : Int)).2.1.map encII) ∧ Tr V V1 ∧ Ext w V1 ∧ (∀ k ob, V.heap[k]? = some ob → w9.heap.size ≤ k → ev.ownBlock ≠ some k → V1.heap[k]? = some ob) ∧ (ev1.ownBlock = ev.ownBlock ∨ ∃ g, ev1.ownBlock = some g ∧ V.heap.size ≤ g) ∧ At V1 b7 0 [.pointer (some ⟨bb, 0, none⟩)] ∧ Bk V1 b8 [.int .i64 st.1] 3 ∧ At V1 bx 0 [.slice a d.length c] ∧ Bk V1 bn (st.2.2.map intV) 3) ?_ ?_
      · repeat' (first|(apply jI; exact eI rfl)|(refine jM ?_; refine jN rfl rfl rfl ?_)|(refine jW ?_; refine jX rfl rfl ?_)|refine jz ?_|(refine jjA ?_; (first|refine jjB ?_|refine jjC ?_|refine jjG ?_))|(refine jjA ?_; (refine jjN rfl ?_ ?_ <;> intro _)))
        · have hlt' : (xi : Int) < st.1 := ‹_›
          refine W.draw (fun V' => At V' b7 0 [.pointer (some ⟨bb, 0, none⟩)] ∧ At V' b8 0 [.int .i64 st.1]) ?_
          intro V1 hS1
          have s1 : At V1 b7 0 [.pointer (some ⟨bb, 0, none⟩)] ∧ At V1 b8 0 [.int .i64 st.1] := ⟨q3.ext hS1.ext, (Bk.toAt (h := q4)).ext hS1.ext⟩
          refine jjV [0, 1, 2, 3, 4, 6, 7] (by decide +kernel) s1 ?_
          (((apply jjT; exact rfl; rintro w' ⟨hq1, hq2⟩; refine jN rfl rfl rfl ?_; refine jz ?_; exact ⟨rfl, rfl⟩; apply jjT; exact rfl; rintro w' ⟨hq1, hq2⟩; refine jN rfl rfl rfl ?_; refine jz ?_; exact ⟨rfl, rfl⟩; apply jjT; exact rfl; rintro w' ⟨hq1, hq2⟩; refine jw rfl ?_; refine jz ?_; exact ⟨rfl, rfl⟩; apply jjT; exact rfl; rintro w' ⟨hq1, hq2⟩; refine jm ?_; refine jn rfl ?_; refine jz ?_; exact ⟨rfl, rfl⟩; apply jjT; exact rfl; rintro w' ⟨hq1, hq2⟩; refine jm ?_; refine jn rfl ?_; refine jz ?_; exact ⟨rfl, rfl⟩; apply jjT; exact rfl; rintro w' ⟨hq1, hq2⟩; refine jN rfl rfl rfl ?_; refine jz ?_; exact ⟨rfl, rfl⟩; apply jjT; exact rfl; rintro w' ⟨hq1, hq2⟩; apply jI; exact eI rfl; refine jz ?_; exact ⟨rfl, rfl⟩; refine jjU ?_)))
          refine jjV [8] (by decide +kernel) s1 ?_
          apply jjT
          · exact rfl
          · intro wq _
            (refine jjS (cells := [.int .i64 st.1, .int .i64 (xi : Int)]) ?_ ?_; exact rfl)
            refine jz ?_
            exact ⟨rfl, rfl⟩
          refine jjU ?_
          have q71 : Bk V1 bb _ _ := q7.ext hS1.ext
          have hcev := q71.cellO (o := 1) rfl
          have zV1 := hS1.size
          obtain ⟨ae, ce, rfl⟩ := q8.slice
          have hne : ∀ k, k < w9.heap.size → (Value.slice ae (st.2.1.map encII).length ce).ownBlock ≠ some k := fun k hk e => by have := (q8.block k e).1; omega
          refine jjl 5 9 (by decide +kernel) rfl rfl s1 ?b1 ?b2
          case b1 =>
            refine jR hcev rfl rfl ?_
            refine jz ?_
            apply jjW 9 (by decide +kernel) rfl s1
            (refine jjP (v := .agg _) rfl (by exact rfl) (by exact rfl) (by exact rfl) (by exact rfl) ?_; intro b45 w_b45 hb_b45 hs_b45 hS_b45 hk_b45; have hR_b45 := RowV.one (agg := true) (k := 2) rfl hk_b45)
            refine jz ?_
            have s2 : At w_b45 b7 0 [.pointer (some ⟨bb, 0, none⟩)] ∧ At w_b45 b8 0 [.int .i64 st.1] := ⟨s1.1.ext hS_b45.ext, s1.2.ext hS_b45.ext⟩
            have z45 := hS_b45.size
            have hEV : Ext V w_b45 := hS1.ext.trans hS_b45.ext
            apply jjW 10 (by decide +kernel) rfl s2
            refine Ops.appendL (q8.ext hEV) (by omega) hR_b45 rfl rfl rfl rfl rfl ?_ ?_ ?_
            · simp only [List.length_map, List.length_cons, List.length_nil]; omega
            · simp only [List.length_map, List.length_cons, List.length_nil]; omega
            intro v46 V3 hA3 hO3 _ hw3
            obtain ⟨a3, c3, rfl⟩ := hO3.slice
            refine jz ?_
            have s3 : At V3 b7 0 [.pointer (some ⟨bb, 0, none⟩)] ∧ At V3 b8 0 [.int .i64 st.1] := ⟨hA3.at_ s2.1 (hne b7 (by omega)), hA3.at_ s2.2 (hne b8 (by omega))⟩
            refine jjV [11, 12, 13] (by decide +kernel) s3 ?_
            (((apply jjT; exact rfl; rintro w' ⟨hq1, hq2⟩; refine jw rfl ?_; refine jz ?_; exact ⟨rfl, rfl⟩; apply jjT; exact rfl; rintro w' ⟨hq1, hq2⟩; refine jm ?_; refine jn rfl ?_; refine jz ?_; exact ⟨rfl, rfl⟩; apply jjT; exact rfl; rintro w' ⟨hq1, hq2⟩; refine jm ?_; refine jn rfl ?_; refine jz ?_; exact ⟨rfl, rfl⟩; refine jjU ?_)))
            apply jjW 14 (by decide +kernel) rfl s3
            have B3 : Bk V3 bb _ _ := hA3.bk (q7.ext hEV) (hne bb (by omega))
            have zA := hA3.g.size
            refine Ops.store rfl (eS rfl) rfl rfl rfl ?_
            intro V4 hp4
            refine jz ?_
            have s4 : At V4 b7 0 [.pointer (some ⟨bb, 0, none⟩)] ∧ At V4 b8 0 [.int .i64 st.1] := ⟨hp4.at_ s3.1 (by omega), hp4.at_ s3.2 (by omega)⟩
            refine jjX (by decide +kernel) s4 ?_
            have e1 : (opS st (xi : Int)).2.1 = st.2.1 ++ [(st.1, (xi : Int))] := by simp only [opS]; rw [if_pos hlt']
            rw [e1, List.map_append]
            have hB4 : Bk V4 bb _ _ := ⟨hp4.new⟩
            refine ⟨rfl, ⟨eP rfl, eP rfl, eI rfl, trivial⟩, _, hB4, hO3.put hp4 ?_, (hEV.tr.trans hA3.tr).trans (hp4.tr ⟨_, B3.h, rfl⟩), hp4.ext (hA3.ext (q1.trans hEV) (by omega)) (by omega), fun k ob h1 hk hn => (hp4.other k (by omega)).trans (hA3.other (hEV.block' h1) hn), ?_, s4.1, hp4.bk (hA3.bk (q4.ext hEV) (hne b8 (by omega))) (by omega), hp4.at_ (hA3.at_ (q5.ext hEV) (hne bx (by omega))) (by omega), hp4.bk (hA3.bk (q6.ext hEV) (hne bn (by omega))) (by omega)⟩
            · intro e
              rcases hw3 with h | h
              · rw [h] at e; exact hne bb (by omega) e
              · rw [h] at e; cases e; omega
            · rcases hw3 with h | h
              · exact .inl h
              · exact .inr ⟨_, h, by have := hEV.size; omega⟩
          case b2 =>
            (refine jjP (v := .agg _) rfl (by exact rfl) (by exact rfl) (by exact rfl) (by exact rfl) ?_; intro b45 w_b45 hb_b45 hs_b45 hS_b45 hk_b45; have hR_b45 := RowV.one (agg := true) (k := 2) rfl hk_b45)
            refine jz ?_
            have s2 : At w_b45 b7 0 [.pointer (some ⟨bb, 0, none⟩)] ∧ At w_b45 b8 0 [.int .i64 st.1] := ⟨s1.1.ext hS_b45.ext, s1.2.ext hS_b45.ext⟩
            apply jjW 5 (by decide +kernel) rfl s2
            refine jR ((q71.ext hS_b45.ext).cellO (o := 1) rfl) rfl rfl ?_
            refine jz ?_
            have z45 := hS_b45.size
            have hEV : Ext V w_b45 := hS1.ext.trans hS_b45.ext
            apply jjW 10 (by decide +kernel) rfl s2
            refine Ops.appendL (q8.ext hEV) (by omega) hR_b45 rfl rfl rfl rfl rfl ?_ ?_ ?_
            · simp only [List.length_map, List.length_cons, List.length_nil]; omega
            · simp only [List.length_map, List.length_cons, List.length_nil]; omega
            intro v46 V3 hA3 hO3 _ hw3
            obtain ⟨a3, c3, rfl⟩ := hO3.slice
            refine jz ?_
            have s3 : At V3 b7 0 [.pointer (some ⟨bb, 0, none⟩)] ∧ At V3 b8 0 [.int .i64 st.1] := ⟨hA3.at_ s2.1 (hne b7 (by omega)), hA3.at_ s2.2 (hne b8 (by omega))⟩
            refine jjV [11, 12, 13] (by decide +kernel) s3 ?_
            (((apply jjT; exact rfl; rintro w' ⟨hq1, hq2⟩; refine jw rfl ?_; refine jz ?_; exact ⟨rfl, rfl⟩; apply jjT; exact rfl; rintro w' ⟨hq1, hq2⟩; refine jm ?_; refine jn rfl ?_; refine jz ?_; exact ⟨rfl, rfl⟩; apply jjT; exact rfl; rintro w' ⟨hq1, hq2⟩; refine jm ?_; refine jn rfl ?_; refine jz ?_; exact ⟨rfl, rfl⟩; refine jjU ?_)))
            apply jjW 14 (by decide +kernel) rfl s3
            have B3 : Bk V3 bb _ _ := hA3.bk (q7.ext hEV) (hne bb (by omega))
            have zA := hA3.g.size
            refine Ops.store rfl (eS rfl) rfl rfl rfl ?_
            intro V4 hp4
            refine jz ?_
            have s4 : At V4 b7 0 [.pointer (some ⟨bb, 0, none⟩)] ∧ At V4 b8 0 [.int .i64 st.1] := ⟨hp4.at_ s3.1 (by omega), hp4.at_ s3.2 (by omega)⟩
            refine jjX (by decide +kernel) s4 ?_
            have e1 : (opS st (xi : Int)).2.1 = st.2.1 ++ [(st.1, (xi : Int))] := by simp only [opS]; rw [if_pos hlt']
            rw [e1, List.map_append]
            have hB4 : Bk V4 bb _ _ := ⟨hp4.new⟩
            refine ⟨rfl, ⟨eP rfl, eP rfl, eI rfl, trivial⟩, _, hB4, hO3.put hp4 ?_, (hEV.tr.trans hA3.tr).trans (hp4.tr ⟨_, B3.h, rfl⟩), hp4.ext (hA3.ext (q1.trans hEV) (by omega)) (by omega), fun k ob h1 hk hn => (hp4.other k (by omega)).trans (hA3.other (hEV.block' h1) hn), ?_, s4.1, hp4.bk (hA3.bk (q4.ext hEV) (hne b8 (by omega))) (by omega), hp4.at_ (hA3.at_ (q5.ext hEV) (hne bx (by omega))) (by omega), hp4.bk (hA3.bk (q6.ext hEV) (hne bn (by omega))) (by omega)⟩
            · intro e
              rcases hw3 with h | h
              · rw [h] at e; exact hne bb (by omega) e
              · rw [h] at e; cases e; omega
            · rcases hw3 with h | h
              · exact .inl h
              · exact .inr ⟨_, h, by have := hEV.size; omega⟩
        · have e1 : (opS st (xi : Int)).2.1 = st.2.1 := by simp only [opS]; rw [if_neg ‹_›]
          rw [e1]
          exact ⟨rfl, ⟨eP rfl, eP rfl, eI rfl, trivial⟩, ev, q7, q8, Tr.refl _, q1, fun k ob h1 _ _ => h1, .inl rfl, q3, q4, q5, q6⟩
      rintro s1 V1 ⟨ev1, r1, r2, r3, r4, r5, r6, r7, r8, r9, r10⟩
      have hnl : st.2.2.length = d.length := hlen.1
      (refine jjB ?_)
      refine W.draw (fun V' => Only bn V1 V') ?_
      intro V2 hS2
      have hO2 : Only bn V1 V2 := .ofExt hS2.ext
      obtain ⟨ae1, ce1, rfl⟩ := r2.slice
      refine jjV [0, 1, 2, 3, 4, 5, 6, 7, 8, 9, 10, 11, 12] (by decide +kernel) hO2 ?_
      (((apply jjT; exact rfl; rintro w' hq; have g1 := hq.at_ r7 (show b7 ≠ bn by omega); have g2 := hq.bk r1 (show bb ≠ bn by omega); refine jN rfl rfl rfl ?_; refine jz ?_; exact ⟨rfl, rfl⟩; apply jjT; exact rfl; rintro w' hq; have g1 := hq.at_ r7 (show b7 ≠ bn by omega); have g2 := hq.bk r1 (show bb ≠ bn by omega); refine jw rfl ?_; refine jz ?_; exact ⟨rfl, rfl⟩; apply jjT; exact rfl; rintro w' hq; have g1 := hq.at_ r7 (show b7 ≠ bn by omega); have g2 := hq.bk r1 (show bb ≠ bn by omega); refine jm ?_; refine jn rfl ?_; refine jz ?_; exact ⟨rfl, rfl⟩; apply jjT; exact rfl; rintro w' hq; have g1 := hq.at_ r7 (show b7 ≠ bn by omega); have g2 := hq.bk r1 (show bb ≠ bn by omega); refine jm ?_; refine jn rfl ?_; refine jz ?_; exact ⟨rfl, rfl⟩; apply jjT; exact rfl; rintro w' hq; have g1 := hq.at_ r7 (show b7 ≠ bn by omega); have g2 := hq.bk r1 (show bb ≠ bn by omega); refine jN rfl rfl rfl ?_; refine jz ?_; exact ⟨rfl, rfl⟩; apply jjT; exact rfl; rintro w' hq; have g1 := hq.at_ r7 (show b7 ≠ bn by omega); have g2 := hq.bk r1 (show bb ≠ bn by omega); apply jI; exact eI rfl; refine jz ?_; exact ⟨rfl, rfl⟩; apply jjT; exact rfl; rintro w' hq; have g1 := hq.at_ r7 (show b7 ≠ bn by omega); have g2 := hq.bk r1 (show bb ≠ bn by omega); refine jN rfl rfl rfl ?_; refine jz ?_; exact ⟨rfl, rfl⟩; apply jjT; exact rfl; rintro w' hq; have g1 := hq.at_ r7 (show b7 ≠ bn by omega); have g2 := hq.bk r1 (show bb ≠ bn by omega); refine jw rfl ?_; refine jz ?_; exact ⟨rfl, rfl⟩; apply jjT; exact rfl; rintro w' hq; have g1 := hq.at_ r7 (show b7 ≠ bn by omega); have g2 := hq.bk r1 (show bb ≠ bn by omega); refine jm ?_; refine jn rfl ?_; refine jz ?_; exact ⟨rfl, rfl⟩; apply jjT; exact rfl; rintro w' hq; have g1 := hq.at_ r7 (show b7 ≠ bn by omega); have g2 := hq.bk r1 (show bb ≠ bn by omega); refine jm ?_; refine jn rfl ?_; refine jz ?_; exact ⟨rfl, rfl⟩; apply jjT; exact rfl; rintro w' hq; have g1 := hq.at_ r7 (show b7 ≠ bn by omega); have g2 := hq.bk r1 (show bb ≠ bn by omega); refine jN rfl rfl rfl ?_; refine jz ?_; exact ⟨rfl, rfl⟩; apply jjT; exact rfl; rintro w' hq; have g1 := hq.at_ r7 (show b7 ≠ bn by omega); have g2 := hq.bk r1 (show bb ≠ bn by omega); refine jh rfl ?_; refine jz ?_; exact ⟨rfl, rfl⟩; apply jjT; exact rfl; rintro w' hq; have g1 := hq.at_ r7 (show b7 ≠ bn by omega); have g2 := hq.bk r1 (show bb ≠ bn by omega); refine jG rfl rfl rfl (by omega) ?_; refine jz ?_; exact ⟨rfl, rfl⟩; refine jjU ?_)))
      apply jjW 13 (by decide +kernel) rfl hO2
      have hB2 : Bk V2 bn _ _ := r10.ext hS2.ext
      refine Ops.storeC (b := bn) (j := xi) rfl (eI rfl) rfl rfl (by rw [List.length_map]; omega) ?_
      intro V3 hp3
      refine jz ?_
      refine jjX (by decide +kernel) (hO2.trans (.ofPut hp3)) ?_
      have hE12 := hS2.ext
      have z12 := hE12.size
      have z3 := hp3.size
      have hB3 : Bk V3 bn (((st.2.2.set xi ((opS st (xi : Int)).2.1.length : Int))).map intV) 3 := by
        refine Bk.setI (by omega) ?_
        have := hp3.new
        rw [List.length_map] at this
        exact ⟨this⟩
      have hB83 : Bk V3 b8 _ _ := hp3.bk (r8.ext hE12) (by omega)
      (refine jjC ?_; apply jI; exact eI rfl)
      refine Ops.store rfl (eI rfl) rfl rfl rfl ?_
      intro V4 hp4
      (refine jz ?_)
      have hB4 : Bk V4 b8 [.int .i64 (xi : Int)] 3 := ⟨hp4.new⟩
      have z4 := hp4.size
      have zT := r3.size
      have r1' : Bk V4 bb _ _ := hp4.bk (hp3.bk (r1.ext hE12) (by omega)) (by omega)
      have hno : ∀ k, k < w9.heap.size → (Value.slice ae1 ((opS st (xi : Int)).2.1.map encII).length ce1).ownBlock ≠ some k := fun k hk e => by have := (r2.block k e).1; omega
      refine ⟨((r3.trans hE12.tr).trans (hp3.tr ⟨_, hB2.h, rfl⟩)).trans (hp4.tr ⟨_, hB83.h, rfl⟩), ?_, hp4.ext (hp3.ext (r4.trans hE12) (by omega)) (by omega), by omega, hp4.at_ (hp3.at_ (r7.ext hE12) (by omega)) (by omega), hB4, hp4.at_ (hp3.at_ (r9.ext hE12) (by omega)) (by omega), hp4.bk hB3 (by omega), _, r1', ((r2.ext hE12).put hp3 (hno bn (by omega))).put hp4 (hno b8 (by omega))⟩
      exact MO.fr (by omega) (q7.cellO rfl) (r1'.cellO rfl) (fun k ob h1 h2 h3 => (hp4.other k (by omega)).trans ((hp3.other k (by omega)).trans (hE12.block' (r5 k ob h1 h2 h3)))) r6
    case hdone =>
      rintro ds' V hmk htr ⟨q1, q2, q3, q4, q5, q6, ev, q7, q8⟩
      rw [List.take_length] at q6 q8
      obtain ⟨ae, ce, rfl⟩ := q8.slice
      rw [List.length_map] at q7 q8
      have hlen := opF_len d.length (ordF d)
      (refine jjB ?_; refine jjC ?_; refine jN rfl rfl rfl ?_; apply jJ; exact eP rfl; apply jJ; exact eI rfl; refine jz ?_; refine jjF ?_)
      refine fin2M rfl rfl rfl hmk fun w' g => ⟨q1.ofGrow g (Nat.le_refl _), .inr ⟨he, bb, bn, ae, ce, rfl, by omega, by omega, (Bk.toAt (h := q7)).grow g, ?_, q8.row.grow g⟩⟩
      have := (Bk.row q6 (by intro y hy; obtain ⟨z, _, rfl⟩ := List.mem_map.1 hy; rfl) (by rw [List.length_map]; omega)).grow g
      rw [List.length_map, hlen.1] at this
      exact this
end Go.Proofs.YtpijeomnplmakaaGreatDoor

/- Passes and plans, in plain Lean. -/
namespace Go.Proofs.YtpijeomnplmakaaGreatDoor
open Go.RowKit

abbrev endF (d : List Int) : List (Int × Int) := (opF d.length (ordF d)).2.1
abbrev numF (d : List Int) : List Int := (opF d.length (ordF d)).2.2
theorem endF_len (d : List Int) : (endF d).length ≤ d.length := by have := (opF_len d.length (ordF d)).2; rwa [ordF_len] at this
theorem numF_len (d : List Int) : (numF d).length = d.length := (opF_len d.length (ordF d)).1

/-- The fewest passes. -/
def PassR (b m p : Nat) : Prop := m < b ^ p ∧ ∀ q, q < p → b ^ q ≤ m
theorem PassR.uniq {b m p q : Nat} (h : PassR b m p) (g : PassR b m q) : p = q := by
  rcases Nat.lt_trichotomy p q with c | c | c
  · have := g.2 p c; have := h.1; omega
  · exact c
  · have := h.2 q c; have := g.1; omega
theorem pow_le_60 {b m p : Nat} (hb : b ≤ 20) (hm : m ≤ 60) (h : ∀ q, q < p → b ^ q ≤ m) : b ^ p ≤ 1200 := by
  cases p with
  | zero => simp
  | succ p =>
    have := h p (by omega)
    rw [Nat.pow_succ]
    exact Nat.mul_le_mul (show b ^ p ≤ 60 by omega) hb
theorem p_le_60 {b m p : Nat} (hb : 2 ≤ b) (hm : m ≤ 60) (h : ∀ q, q < p → b ^ q ≤ m) : p ≤ 60 := by
  cases p with
  | zero => omega
  | succ p =>
    have h1 := h p (by omega)
    have h2 : p < 2 ^ p := Nat.lt_two_pow_self
    have h3 : 2 ^ p ≤ b ^ p := Nat.pow_le_pow_left hb p
    omega
theorem PassR.le {b m p : Nat} (h : PassR b m p) (hb : 2 ≤ b) (hm : m ≤ 60) : p ≤ 60 := p_le_60 hb hm h.2

/-- One row of a plan. -/
def rowP (b k : Nat) (N : List Int) : List Int := N.map fun x => x / ((b ^ k : Nat) : Int) % (b : Int)
def restP (b k : Nat) (N : List Int) : List Int := N.map fun x => x / ((b ^ k : Nat) : Int)
def planP (b p : Nat) (N : List Int) : List (List Int) := (List.range p).map fun k => rowP b k N
theorem rowP_len (b k : Nat) (N : List Int) : (rowP b k N).length = N.length := by simp [rowP]
theorem restP_len (b k : Nat) (N : List Int) : (restP b k N).length = N.length := by simp [restP]
theorem restP_zero (b : Nat) (N : List Int) : restP b 0 N = N := by simp [restP]
theorem restP_succ (b k : Nat) (N : List Int) : (restP b k N).map (fun x => x / (b : Int)) = restP b (k + 1) N := by
  rw [restP, restP, List.map_map]
  refine List.map_congr_left fun x _ => ?_
  simp only [Function.comp]
  rw [Int.ediv_ediv_of_nonneg (by omega), Nat.pow_succ]
  push_cast
  rfl
theorem rowP_rest (b k : Nat) (N : List Int) : (restP b k N).map (fun x => x % (b : Int)) = rowP b k N := by
  rw [restP, rowP, List.map_map]; rfl
theorem planP_succ (b k : Nat) (N : List Int) : planP b (k + 1) N = planP b k N ++ [rowP b k N] := by simp [planP, List.range_succ]

/-- Numbers of runs are from 0 to their number. -/
theorem opF_nums (n : Nat) (L : List Int) : ∀ y ∈ (opF n L).2.2, 0 ≤ y ∧ y ≤ ((opF n L).2.1.length : Int) := by
  suffices h : ∀ (M : List Int) (st : OpS), (∀ y ∈ st.2.2, 0 ≤ y ∧ y ≤ (st.2.1.length : Int)) → ∀ y ∈ (M.foldl opS st).2.2, 0 ≤ y ∧ y ≤ ((M.foldl opS st).2.1.length : Int) by
    refine h L _ fun y hy => ?_
    have := List.eq_of_mem_replicate hy
    subst this
    simp
  intro M
  induction M with
  | nil => intro st h; exact h
  | cons x M ih =>
    intro st h
    rw [List.foldl_cons]
    refine ih _ fun y hy => ?_
    have hle : (st.2.1.length : Int) ≤ ((opS st x).2.1.length : Int) := by
      simp only [opS]
      split
      · rw [List.length_append]; simp only [List.length_cons, List.length_nil]; omega
      · omega
    have hy' : y ∈ st.2.2.set x.toNat ((opS st x).2.1.length : Int) := hy
    rcases List.mem_or_eq_of_mem_set hy' with hy' | rfl
    · have := h y hy'; omega
    · omega
theorem numF_mem {d : List Int} {y : Int} (h : y ∈ numF d) : 0 ≤ y ∧ y ≤ d.length := by
  have := opF_nums _ _ y h
  have := endF_len d
  have : ((opF d.length (ordF d)).2.1.length : Int) ≤ d.length := by exact_mod_cast endF_len d
  omega
end Go.Proofs.YtpijeomnplmakaaGreatDoor

/- The proof engine, part 18: division of numbers that are not negative; equality of pairs. -/
namespace Go.Proofs.YtpijeomnplmakaaGreatDoor
open Go.RowKit

section rules
variable {P : Program} {ro : Option Nat} {n : Nat} {all rest : List Oper} {K : Sl → World → Prop} {s : Sl} {w : World} {d : Nat} {ty : Nat} {pos : String} {af : Array Edge} {x y : Operand} {t t' : Nat} {a b : Int}
theorem Ops.rem (hx : ev n s x = .int .i64 a) (hy : ev n s y = .int .i64 b) (h0 : 0 ≤ a) (h1 : 0 < b) (h : Ops P ro n all rest K (upd s d (.int .i64 (a % b))) w) :
    Ops P ro n all (⟨some d, .binOp .rem t x y t', ty, pos, af, none⟩ :: rest) K s w :=
  Ops.ofRun rfl (by
    have e1 : Int.tmod a b = a % b := Int.tmod_eq_emod_of_nonneg h0
    have e3 : ¬ b = 0 := by omega
    simp [execOp, hx, hy, go_sem, Op.intDiv, e1, e3]) h
theorem Ops.quo (hx : ev n s x = .int .i64 a) (hy : ev n s y = .int .i64 b) (h0 : 0 ≤ a) (h0' : a ≤ 9223372036854775807) (h1 : 0 < b) (h : Ops P ro n all rest K (upd s d (.int .i64 (a / b))) w) :
    Ops P ro n all (⟨some d, .binOp .quo t x y t', ty, pos, af, none⟩ :: rest) K s w :=
  Ops.ofRun rfl (by
    have e1 : Int.tdiv a b = a / b := Int.tdiv_eq_ediv_of_nonneg h0
    have e2 : IntKind.i64.wrap (a / b) = a / b := by
      have := Int.ediv_nonneg h0 (Int.le_of_lt h1)
      have := Int.ediv_le_self b h0
      rw [IntKind.wrap_i64]; omega
    have e3 : ¬ b = 0 := by omega
    simp [execOp, hx, hy, go_sem, Op.intDiv, e1, e2, e3]) h
theorem Ops.neqTN {α : Type} [DecidableEq α] {enc : α → Value} (u : α) [he : EqT P t enc] (hx : ev n s x = enc u) (hy : ev n s y = enc u) (h : Ops P ro n all rest K (upd s d (.bool false)) w) :
    Ops P ro n all (⟨some d, .binOp .neq t x y t', ty, pos, af, none⟩ :: rest) K s w :=
  Ops.neqT u u hx hy (by rw [decide_eq_false (by simp)]; exact h)
end rules

theorem eqT_arr2 {P : Program} {t e bytes : Nat} {z : Value} (hu : P.underlying t = some (.array 2 e)) (u0 : TU P e (.int .i64)) (hz : TS P e z 1 bytes) (hg : P.eqGuardType P.depth t = false) : EqT P t encII where
  eq w a b := by
    obtain ⟨i, hi, _, hs, _⟩ := hz.info
    have hc : P.cellsOf e = 1 := by simp [Program.cellsOf, hi, hs]
    simp only [encII, Op.equal, Op.maxDepth]
    rw [run_equalIn_array w 9999 _ _ hu hi, hc]
    have e0 : (Op.equalIn 9999 e (.int .i64 a.1) (.int .i64 b.1)).run P w = .ok (a.1 == b.1) w := run_equalIn_int (P := P) w 9998 e .i64 .i64 a.1 b.1 u0.h
    have e1 : (Op.equalIn 9999 e (.int .i64 a.2) (.int .i64 b.2)).run P w = .ok (a.2 == b.2) w := run_equalIn_int (P := P) w 9998 e .i64 .i64 a.2 b.2 u0.h
    obtain ⟨a1, a2⟩ := a
    obtain ⟨b1, b2⟩ := b
    simp only at e0 e1
    have p0 : ∀ c1 c2 : Int, (part e #[Value.int .i64 c1, Value.int .i64 c2] 0).run P w = .ok (.int .i64 c1) w := fun c1 c2 => by simp [part, run_isAgg w u0, TypeDesc.isAgg]
    have p1 : ∀ c1 c2 : Int, (part e #[Value.int .i64 c1, Value.int .i64 c2] 1).run P w = .ok (.int .i64 c2) w := fun c1 c2 => by simp [part, run_isAgg w u0, TypeDesc.isAgg]
    have hr : List.range 2 = [0, 1] := by decide
    rw [hr]
    simp only [Op.eqItems, Nat.zero_mul, Nat.one_mul, Sem.run_bind, p0, Result.andThen_ok, e0]
    by_cases c0 : a1 = b1
    · subst c0
      by_cases c1 : a2 = b2
      · subst c1; simp [p1, e1]
      · have c1' : (a2 == b2) = false := by simpa using c1
        simp [c1, p1, e1, c1']
    · simp [c0]
  guard op x y w a b := by
    cases op <;> simp [encII, eqGuard, hg]
  kind a b := ⟨fun w => by simp [encII, binOp], fun w => by simp [encII, binOp]⟩
end Go.Proofs.YtpijeomnplmakaaGreatDoor

/- rack: passes, Runs, Passes, Proof. -/
namespace Go.Proofs.YtpijeomnplmakaaGreatDoor
open Go.RowKit

set_option maxHeartbeats 1000000 in
theorem passes_rack (bb : Nat) (v0 v1 : Value) (ae : Option Addr) (ce m b : Nat) (w : World) (hm : m ≤ 60) (hb : 2 ≤ b ∧ b ≤ 20) [hA : At w bb 0 [v0, .slice ae m ce, v1, .int .i64 (b : Int)]] :
    Ct Tryz.prog 54 [.pointer (some ⟨bb, 0, none⟩)] w fun v _ => ∃ p : Nat, PassR b m p ∧ v = .tuple #[.int .i64 ((p : Nat) : Int), .int .i64 (((if p = 0 then 0 else b ^ (p - 1) : Nat)) : Int)] := by
  refine Ct.ofW (by simp) ?_
  (refine jjB ?_; refine jjC ?_; apply jJ; exact eI rfl; apply jJ; exact eI rfl; refine jz ?_; refine jjB ?_; refine jjB ?_; refine jjC ?_; apply jJ; exact eI rfl; refine jz ?_; refine jjD ?_)
  refine W.loop (5 :: 6 :: 7 :: 8 :: 9 :: 10 :: 11 :: 12 :: 19 :: 20 :: 21 :: 2 :: 3 :: 13 :: 14 :: 15 :: 16 :: 17 :: 18 :: 4 :: []) (fun g s' _ => ∃ p : Nat, s' 2 = .int .i64 ((p : Nat) : Int) ∧ s' 3 = .int .i64 (((if p = 0 then 0 else b ^ (p - 1) : Nat)) : Int) ∧ s' 4 = .int .i64 ((b ^ p : Nat) : Int) ∧ g = 61 - p ∧ ∀ q, q < p → b ^ q ≤ m) 61 ⟨0, rfl, rfl, by simp only [Nat.pow_zero]; exact rfl, rfl, by omega⟩ ?_
  rintro _ sd w1 hS1 ⟨p, h2, h3, h4, rfl, hpre⟩
  refine W.fix h2 (W.fix (d := 3) h3 (W.fix (d := 4) h4 ?_))
  clear h2 h3 h4
  have hp60 := p_le_60 hb.1 hm hpre
  have hpw := pow_le_60 hb.2 hm hpre
  obtain ⟨P, hP⟩ : ∃ P, P = b ^ p := ⟨_, rfl⟩
  rw [← hP] at hpw
  rw [← hP]
  repeat' (first|((first|apply jI|apply jJ); (first|exact eI rfl|exact eP rfl))|(refine jM ?_; refine jN rfl rfl rfl ?_)|(refine jW ?_; (first|refine jY rfl rfl (by omega) ?_|refine jd rfl rfl ?_))|(refine jg ?_; refine jh rfl ?_)|(refine jm ?_; refine jn rfl ?_)|refine jw rfl ?_|refine jz ?_|(refine jjA ?_; (first|refine jjB ?_|refine jjC ?_|refine jjD ?_|refine jjE ?_|refine jjF ?_|refine jjG ?_))|(refine jjA ?_; (refine jjN rfl ?_ ?_ <;> intro _))|refine jC rfl rfl rfl ⟨inferInstance, ?_⟩)
  · have hle : P ≤ m := by omega
    have hmul : P * b ≤ 1200 * 20 := Nat.mul_le_mul hpw hb.2
    have hmul' : (P : Int) * (b : Int) = ((P * b : Nat) : Int) := by push_cast; rfl
    refine Ops.mul rfl rfl (by rw [hmul']; omega) ?_
    rw [hmul']
    (apply jJ; exact eI rfl; refine jz ?_)
    refine ⟨rfl, by ((refine Same.upd rfl ?_; refine Same.upd rfl ?_; refine Same.upd rfl ?_; refine Same.upd rfl ?_; refine Same.upd rfl ?_; refine Same.upd rfl ?_; refine Same.upd rfl ?_; refine Same.upd rfl ?_; refine Same.upd rfl ?_; refine Same.upd rfl ?_; refine Same.upd rfl ?_; refine Same.upd rfl ?_; refine Same.upd rfl ?_; refine Same.upd rfl ?_; refine Same.upd rfl ?_; refine Same.upd rfl ?_; refine Same.upd rfl ?_; refine Same.upd rfl ?_; refine Same.upd rfl ?_; refine Same.upd rfl ?_; refine Same.upd rfl ?_; refine Same.upd rfl ?_; refine Same.upd rfl ?_; exact Same.ovN)), 61 - (p + 1), by omega, inferInstance, p + 1, congrArg (Value.int .i64) (by omega), ?_, ?_, rfl, ?_⟩
    · rw [if_neg (Nat.succ_ne_zero p), Nat.add_sub_cancel, ← hP]; exact rfl
    · rw [Nat.pow_succ, ← hP]; exact rfl
    · intro q hq
      by_cases e : q = p
      · subst e; omega
      · exact hpre q (by omega)
  · exact ⟨p, ⟨by omega, hpre⟩, rfl⟩

theorem opE_boxes {d : List Int} {boxes : Int} (he : opE d boxes = 0) : 2 ≤ boxes ∧ boxes ≤ 20 := by
  simp only [opE] at he
  split at he
  · split at he
    · rename_i h; simpa [inB] using h
    · omega
  · omega
theorem opE_len {d : List Int} {boxes : Int} (he : opE d boxes = 0) : d.length ≤ 60 := by
  simp only [opE] at he
  split at he
  · exact deckB_len ‹_›
  · omega

section
variable (a : Option Addr) (c : Nat) (d : List Int) (boxes : Int) (w : World) (hl : d.length ≤ 1000000) [hrow : RowI w (.slice a d.length c) false 1 (d.map intV)]
include hl
/-- What Runs answers. -/
def RunsR (d : List Int) (v : Value) (w' : World) : Prop := ∃ a c, v = .tuple #[.slice a (if opE d 2 = 0 then numF d else []).length c, .int .i64 (opE d 2)] ∧ RowV w' false 1 (.slice a (if opE d 2 = 0 then numF d else []).length c) ((if opE d 2 = 0 then numF d else []).map intV)
theorem Runs_rack : Ct Tryz.prog 32 [.slice a d.length c] w fun v w' => RunsR d v w' := by
  refine Ct.ofW (by simp) ?_
  (refine jjB ?_; refine jjC ?_; apply jJ; exact eS rfl; apply jJ; exact eI rfl; refine jz ?_; refine jjB ?_; refine jjC ?_; apply jI; exact eS rfl)
  refine jjQ (open_rack a c d 2 _ hl) rfl rfl ?_
  rintro _ w2 hS2 (⟨he, rfl⟩ | ⟨he, bb, bn, ae, ce, rfl, _, _, hA, hN, hE⟩)
  · (apply jI; exact eU rfl; refine ju rfl rfl ?_; refine ju rfl rfl ?_; apply jJ; exact eN rfl; apply jJ; exact eI rfl; refine jz ?_; refine jjB ?_; refine jjB ?_; refine jjC ?_; apply jI; exact eI rfl; refine jjj rfl rfl (by omega) ?_; refine jz ?_; refine jjJ rfl ?_; refine jjB ?_; refine jjC ?_; apply jI; exact eI rfl; apply jJ; exact eS rfl; apply jJ; exact eI rfl; refine jz ?_; refine jjF ?_; refine jC rfl rfl rfl ⟨inferInstance, ?_⟩)
    refine ⟨none, 0, ?_, ?_⟩
    · rw [if_neg he]; exact rfl
    · rw [if_neg he]; exact RowV.nilS _ _ _ _ _
  · (apply jI; exact eU rfl; refine ju rfl rfl ?_; refine ju rfl rfl ?_; apply jJ; exact eP rfl; apply jJ; exact eI rfl; refine jz ?_; refine jjB ?_; refine jjB ?_; refine jjC ?_; apply jI; exact eI rfl; refine jjk rfl rfl (by omega) ?_; refine jz ?_; refine jjK rfl ?_; refine jjG ?_; refine jjB ?_; refine jjC ?_; apply jI; exact eP rfl; refine jw rfl ?_; refine jm ?_; refine jn rfl ?_; refine jm ?_; refine jn rfl ?_; refine jN rfl rfl rfl ?_; apply jJ; exact eS rfl; apply jJ; exact eI rfl; refine jz ?_; refine jjF ?_; refine jC rfl rfl rfl ⟨inferInstance, ?_⟩)
    refine ⟨some ⟨bn, 0, none⟩, d.length, ?_, ?_⟩
    · rw [if_pos he, he, numF_len]; exact rfl
    · rw [if_pos he, numF_len]; exact hN

theorem Passes_rack : Ct Tryz.prog 14 [.slice a d.length c, .int .i64 boxes] w fun v _ => ∃ p : Nat, (if opE d boxes = 0 then PassR boxes.toNat (endF d).length p else p = 0) ∧ v = .tuple #[.int .i64 (p : Int), .int .i64 (opE d boxes)] := by
  refine Ct.ofW (by simp) ?_
  (refine jjB ?_; refine jjC ?_; apply jJ; exact eI rfl; apply jJ; exact eI rfl; refine jz ?_; refine jjB ?_; refine jjC ?_; apply jI; exact eS rfl; apply jI; exact eI rfl)
  refine jjQ (open_rack a c d boxes _ hl) rfl rfl ?_
  rintro _ w2 hS2 (⟨he, rfl⟩ | ⟨he, bb, bn, ae, ce, rfl, _, _, hA, hN, hE⟩)
  · (apply jI; exact eU rfl; refine ju rfl rfl ?_; refine ju rfl rfl ?_; apply jJ; exact eN rfl; apply jJ; exact eI rfl; refine jz ?_; refine jjB ?_; refine jjB ?_; refine jjC ?_; apply jI; exact eI rfl; refine jjj rfl rfl (by omega) ?_; refine jz ?_; refine jjJ rfl ?_; refine jjB ?_; refine jjC ?_; apply jI; exact eI rfl; apply jJ; exact eI rfl; apply jJ; exact eI rfl; refine jz ?_; refine jjF ?_; refine jC rfl rfl rfl ⟨inferInstance, ?_⟩)
    exact ⟨0, by rw [if_neg he], rfl⟩
  · have hb := opE_boxes he
    have hdl := opE_len he
    have hel := endF_len d
    obtain ⟨b, rfl⟩ : ∃ b : Nat, boxes = b := ⟨boxes.toNat, by omega⟩
    (apply jI; exact eU rfl; refine ju rfl rfl ?_; refine ju rfl rfl ?_; apply jJ; exact eP rfl; apply jJ; exact eI rfl; refine jz ?_; refine jjB ?_; refine jjB ?_; refine jjC ?_; apply jI; exact eI rfl; refine jjk rfl rfl (by omega) ?_; refine jz ?_; refine jjK rfl ?_; refine jjG ?_; refine jjB ?_; refine jjC ?_; apply jI; exact eP rfl)
    refine jjQ (passes_rack bb _ _ ae ce (endF d).length b _ (by omega) (by omega)) rfl rfl ?_
    rintro _ w3 hS3 ⟨p, hp, rfl⟩
    (apply jI; exact eU rfl; refine ju rfl rfl ?_; refine ju rfl rfl ?_; apply jJ; exact eI rfl; apply jJ; exact eI rfl; refine jz ?_; refine jjB ?_; refine jjC ?_; apply jI; exact eI rfl; apply jJ; exact eI rfl; apply jJ; exact eI rfl; refine jz ?_; refine jjF ?_; refine jC rfl rfl rfl ⟨inferInstance, ?_⟩)
    exact ⟨p, by rw [if_pos he]; exact hp, by rw [he]; exact rfl⟩

/-- What Proof answers. -/
def ProofR (d : List Int) (boxes : Int) (v : Value) (w' : World) : Prop := ∃ (l : List (Int × Int)) (e : Int) (a : Option Addr) (c : Nat), v = .tuple #[.slice a l.length c, .int .i64 e] ∧ RowV w' true 2 (.slice a l.length c) (l.map encII) ∧
  ((opE d boxes ≠ 0 ∧ l = [] ∧ e = opE d boxes) ∨ (opE d boxes = 0 ∧ PassR boxes.toNat (endF d).length 0 ∧ l = [] ∧ e = 6) ∨ (opE d boxes = 0 ∧ ∃ p, PassR boxes.toNat (endF d).length (p + 1) ∧ l = (endF d).take (boxes.toNat ^ p) ∧ e = 0))
theorem Proof_rack : Ct Tryz.prog 17 [.slice a d.length c, .int .i64 boxes] w fun v w' => ProofR d boxes v w' := by
  refine Ct.ofW (by simp) ?_
  (refine jjB ?_; refine jjC ?_; apply jJ; exact eS rfl; apply jJ; exact eI rfl; refine jz ?_; refine jjB ?_; refine jjC ?_; apply jI; exact eS rfl; apply jI; exact eI rfl)
  refine jjQ (open_rack a c d boxes _ hl) rfl rfl ?_
  rintro _ w2 hS2 (⟨he, rfl⟩ | ⟨he, bb, bn, ae, ce, rfl, _, _, hA, hN, hE⟩)
  · (apply jI; exact eU rfl; refine ju rfl rfl ?_; refine ju rfl rfl ?_; apply jJ; exact eN rfl; apply jJ; exact eI rfl; refine jz ?_; refine jjB ?_; refine jjB ?_; refine jjC ?_; apply jI; exact eI rfl; refine jjj rfl rfl (by omega) ?_; refine jz ?_; refine jjJ rfl ?_; refine jjB ?_; refine jjC ?_; apply jI; exact eI rfl; apply jJ; exact eS rfl; apply jJ; exact eI rfl; refine jz ?_; refine jjF ?_; refine jC rfl rfl rfl ⟨inferInstance, ?_⟩)
    exact ⟨[], _, none, 0, rfl, RowV.nilS _ _ _ _ _, .inl ⟨he, rfl, rfl⟩⟩
  · have hb := opE_boxes he
    have hdl := opE_len he
    have hel := endF_len d
    obtain ⟨b, rfl⟩ : ∃ b : Nat, boxes = b := ⟨boxes.toNat, by omega⟩
    (apply jI; exact eU rfl; refine ju rfl rfl ?_; refine ju rfl rfl ?_; apply jJ; exact eP rfl; apply jJ; exact eI rfl; refine jz ?_; refine jjB ?_; refine jjB ?_; refine jjC ?_; apply jI; exact eI rfl; refine jjk rfl rfl (by omega) ?_; refine jz ?_; refine jjK rfl ?_; refine jjG ?_; refine jjB ?_; refine jjC ?_; apply jI; exact eP rfl)
    refine jjQ (passes_rack bb _ _ ae ce (endF d).length b _ (by omega) (by omega)) rfl rfl ?_
    rintro _ w3 hS3 ⟨p, hp, rfl⟩
    cases p with
    | zero =>
      (apply jI; exact eU rfl; refine ju rfl rfl ?_; refine ju rfl rfl ?_; apply jJ; exact eI rfl; apply jJ; exact eI rfl; refine jz ?_; refine jjB ?_; refine jjB ?_; refine jjC ?_; apply jI; exact eI rfl; refine jjh rfl rfl (by omega) ?_; refine jz ?_; refine jjJ rfl ?_; refine jjB ?_; refine jjC ?_; apply jJ; exact eS rfl; apply jJ; exact eI rfl; refine jz ?_; refine jjF ?_; refine jC rfl rfl rfl ⟨inferInstance, ?_⟩)
      exact ⟨[], _, none, 0, rfl, RowV.nilS _ _ _ _ _, .inr (.inl ⟨he, hp, rfl, rfl⟩)⟩
    | succ p =>
      have hpl := hp.2 p (by omega)
      (apply jI; exact eU rfl; refine ju rfl rfl ?_; refine ju rfl rfl ?_; apply jJ; exact eI rfl; apply jJ; exact eI rfl; refine jz ?_; refine jjB ?_; refine jjB ?_; refine jjC ?_; apply jI; exact eI rfl; refine jji rfl rfl (by omega) ?_; refine jz ?_; refine jjK rfl ?_; refine jjG ?_; refine jjB ?_; refine jjC ?_; apply jI; exact eP rfl; refine jw rfl ?_; refine jm ?_; refine jn rfl ?_; refine jm ?_; refine jn rfl ?_; refine jN rfl rfl rfl ?_; apply jI; exact eI rfl)
      rw [if_neg (Nat.succ_ne_zero p), Nat.add_sub_cancel]
      have hE3 : RowV w3 true 2 (.slice ae (endF d).length ce) ((endF d).map encII) := hE.ext hS3.ext
      refine Ops.sliceH (hi := b ^ p) hE3 rfl rfl rfl (by rw [List.length_map]; omega) ?_
      rintro _ hR ⟨a', c', rfl⟩
      (apply jJ; exact eS rfl; apply jJ; exact eI rfl; refine jz ?_; refine jjF ?_; refine jC rfl rfl rfl ⟨inferInstance, ?_⟩)
      have hlen : ((endF d).take (b ^ p)).length = b ^ p := by rw [List.length_take]; omega
      refine ⟨(endF d).take (b ^ p), 0, a', c', ?_, ?_, .inr (.inr ⟨he, p, hp, rfl, rfl⟩)⟩
      · rw [hlen]; exact rfl
      · rw [hlen, List.map_take]; exact hR
end
end Go.Proofs.YtpijeomnplmakaaGreatDoor

/- Chains, in plain Lean. -/
namespace Go.Proofs.YtpijeomnplmakaaGreatDoor
open Go.RowKit

abbrev gd (l : List Int) (i : Nat) : Int := l.getD i 0
theorem gd_lt {l : List Int} {i : Nat} (h : i < l.length) : gd l i = l[i] := by simp [gd, List.getD_eq_getElem?_getD, h]
theorem gd_snoc (l : List Int) (x : Int) (i : Nat) : gd (l ++ [x]) i = if i < l.length then gd l i else if i = l.length then x else 0 := by
  simp only [gd, List.getD_eq_getElem?_getD, List.getElem?_append]
  split
  · rfl
  · split
    · subst_vars; simp
    · have : 0 < i - l.length := by omega
      rw [List.getElem?_eq_none (by simp; omega)]; rfl
theorem gd_set (l : List Int) (n : Nat) (x : Int) (i : Nat) : gd (l.set n x) i = if i = n ∧ n < l.length then x else gd l i := by
  simp only [gd, List.getD_eq_getElem?_getD, List.getElem?_set]
  split
  · subst_vars
    by_cases h : i < l.length
    · simp [h]
    · simp [h]
  · rw [if_neg (by omega)]
theorem ext_gd {a b : List Int} (hl : a.length = b.length) (h : ∀ i, i < a.length → gd a i = gd b i) : a = b := by
  apply List.ext_getElem hl
  intro i h1 h2
  have := h i h1
  rwa [gd_lt h1, gd_lt h2] at this

/-- The chain of each slip. -/
structure ChainR (d C : List Int) : Prop where
  len : C.length = d.length
  pos : ∀ i, i < d.length → 0 ≤ gd C i
  up : ∀ i, i < d.length → ∀ k, k < i → gd d k ≤ gd d i → gd C k + 1 ≤ gd C i
  ex : ∀ i, i < d.length → gd C i = 0 ∨ ∃ k, k < i ∧ gd d k ≤ gd d i ∧ gd C i = gd C k + 1
theorem ChainR.uniq {d C C' : List Int} (h : ChainR d C) (g : ChainR d C') : C = C' := by
  refine ext_gd (h.len.trans g.len.symm) fun i hi => ?_
  rw [h.len] at hi
  induction i using Nat.strongRecOn with
  | ind i ih =>
    have h1 : gd C i ≤ gd C' i := by
      rcases h.ex i hi with e | ⟨k, hk, hd, e⟩
      · have := g.pos i hi; omega
      · have := g.up i hi k hk hd
        have := ih k hk (by omega); omega
    have h2 : gd C' i ≤ gd C i := by
      rcases g.ex i hi with e | ⟨k, hk, hd, e⟩
      · have := h.pos i hi; omega
      · have := h.up i hi k hk hd
        have := ih k hk (by omega); omega
    omega

/-- What holds when the slips of D have been put into chains C; L: the least ranks with which chains end. -/
structure PatI (D L C : List Int) : Prop where
  ch : ChainR D C
  srt : ∀ i j, i ≤ j → j < L.length → gd L i ≤ gd L j
  has : ∀ j, j < L.length → ∃ k, k < D.length ∧ gd C k = (j : Int) ∧ gd D k = gd L j
  low : ∀ k, k < D.length → ∃ c : Nat, gd C k = (c : Int) ∧ c < L.length ∧ gd L c ≤ gd D k
theorem PatI.nil : PatI [] [] [] := ⟨⟨rfl, by simp, by simp, by simp⟩, by simp, by simp, by simp⟩
theorem PatI.step {D L C : List Int} {r : Int} {n : Nat} (h : PatI D L C) (hn : n ≤ L.length) (h1 : ∀ j, j < L.length → j < n → gd L j ≤ r) (h2 : ∀ j, j < L.length → n ≤ j → r < gd L j) :
    PatI (D ++ [r]) ((if n = L.length then L ++ [r] else L).set n r) (C ++ [(n : Int)]) := by
  have hCl := h.ch.len
  obtain ⟨L', hL'⟩ : ∃ L', L' = (if n = L.length then L ++ [r] else L).set n r := ⟨_, rfl⟩
  have hll : L'.length = if n = L.length then L.length + 1 else L.length := by
    rw [hL', List.length_set]; split <;> simp
  have hg : ∀ i, i < L'.length → gd L' i = if i = n then r else gd L i := by
    intro i hi
    rw [hll] at hi
    rw [hL', gd_set]
    by_cases e : i = n
    · rw [if_pos ⟨e, by split <;> (try rw [List.length_append]) <;> (try simp only [List.length_cons, List.length_nil]) <;> omega⟩, if_pos e]
    · rw [if_neg (fun h => e h.1), if_neg e]
      split
      · rw [gd_snoc, if_pos (by rename_i h3; rw [if_pos h3] at hi; omega)]
      · rfl
  have hn' : n < L'.length := by rw [hll]; split <;> omega
  have hLL : ∀ i, i < L'.length → i ≠ n → i < L.length := by
    intro i hi hne; rw [hll] at hi; split at hi <;> omega
  rw [← hL']
  refine ⟨⟨by simp [hCl], ?_, ?_, ?_⟩, ?_, ?_, ?_⟩
  · intro i hi
    rw [gd_snoc, hCl]
    simp at hi
    by_cases e : i < D.length
    · rw [if_pos e]; exact h.ch.pos i e
    · rw [if_neg e, if_pos (by omega)]; omega
  · intro i hi k hk hd
    simp at hi
    simp only [gd_snoc, hCl] at hd ⊢
    rw [if_pos (by omega)] at hd ⊢
    by_cases e : i < D.length
    · rw [if_pos e] at hd ⊢; exact h.ch.up i e k hk hd
    · rw [if_neg e, if_pos (by omega)] at hd ⊢
      obtain ⟨c, hc, hcl, hcd⟩ := h.low k (by omega)
      rcases Nat.lt_or_ge c n with h3 | h3
      · omega
      · have := h2 c hcl h3; omega
  · intro i hi
    simp at hi
    simp only [gd_snoc, hCl]
    by_cases e : i < D.length
    · rw [if_pos e]
      rcases h.ch.ex i e with h3 | ⟨k, hk, hd, h3⟩
      · exact .inl h3
      · refine .inr ⟨k, hk, ?_, ?_⟩
        · rw [if_pos (by omega), if_pos e]; exact hd
        · rw [if_pos (by omega)]; exact h3
    · rw [if_neg e, if_pos (by omega)]
      rcases Nat.eq_zero_or_pos n with h0 | h0
      · left; omega
      · right
        obtain ⟨k, hk, hc, hd⟩ := h.has (n - 1) (by omega)
        refine ⟨k, by omega, ?_, ?_⟩
        · rw [if_pos hk, if_neg e, if_pos (by omega), hd]
          exact h1 (n - 1) (by omega) (by omega)
        · rw [if_pos hk, hc]; omega
  · intro i j hij hj
    rw [hg i (by omega), hg j hj]
    by_cases ei : i = n
    · rw [if_pos ei]
      by_cases ej : j = n
      · rw [if_pos ej]; omega
      · rw [if_neg ej]
        have := h2 j (hLL j hj ej) (by omega); omega
    · rw [if_neg ei]
      by_cases ej : j = n
      · rw [if_pos ej]
        exact h1 i (hLL i (by omega) ei) (by omega)
      · rw [if_neg ej]
        exact h.srt i j hij (hLL j hj ej)
  · intro j hj
    rw [hg j hj]
    by_cases e : j = n
    · refine ⟨D.length, by simp, ?_, ?_⟩
      · rw [gd_snoc, hCl, if_neg (by omega), if_pos rfl, e]
      · rw [gd_snoc, if_neg (by omega), if_pos rfl, if_pos e]
    · obtain ⟨k, hk, hc, hd⟩ := h.has j (hLL j hj e)
      refine ⟨k, by simp; omega, ?_, ?_⟩
      · rw [gd_snoc, hCl, if_pos hk]; exact hc
      · rw [gd_snoc, if_pos hk, if_neg e]; exact hd
  · intro k hk
    simp at hk
    by_cases e : k < D.length
    · obtain ⟨c, hc, hcl, hcd⟩ := h.low k e
      have hcl' : c < L'.length := by rw [hll]; split <;> omega
      refine ⟨c, by rw [gd_snoc, hCl, if_pos e]; exact hc, hcl', ?_⟩
      rw [hg c hcl', gd_snoc, if_pos e]
      by_cases ec : c = n
      · rw [if_pos ec]
        have := h2 c hcl (by omega); omega
      · rw [if_neg ec]; exact hcd
    · refine ⟨n, by rw [gd_snoc, hCl, if_neg e, if_pos (by omega)], hn', ?_⟩
      rw [hg n hn', if_pos rfl, gd_snoc, if_neg e, if_pos (by omega)]; omega
end Go.Proofs.YtpijeomnplmakaaGreatDoor

/- Moves, in plain Lean. -/
namespace Go.Proofs.YtpijeomnplmakaaGreatDoor
open Go.RowKit

/-- One move. -/
def mvF (l : List Int) (f t : Nat) : List Int := (l.eraseIdx f).take t ++ l.getD f 0 :: (l.eraseIdx f).drop t
theorem mvF_len {l : List Int} {f t : Nat} (h : f < l.length) (ht : t < l.length) : (mvF l f t).length = l.length := by
  rw [mvF, List.length_append, List.length_cons, List.length_take, List.length_drop, List.length_eraseIdx, if_pos h]; omega
/-- A move is wrong. -/
def mvBad (n : Nat) (m : Int × Int) : Bool := !(inB 0 ((n : Int) - 1) m.1 && inB 0 ((n : Int) - 1) m.2)
theorem mvBad_no {n : Nat} {m : Int × Int} (h : mvBad n m = false) : ∃ f t : Nat, f < n ∧ t < n ∧ m = ((f : Int), (t : Int)) := by
  simp only [mvBad, inB, Bool.not_eq_false', Bool.and_eq_true, decide_eq_true_eq] at h
  obtain ⟨a, b⟩ := m
  simp only at h
  exact ⟨a.toNat, b.toNat, by omega, by omega, by rw [Int.toNat_of_nonneg h.1.1, Int.toNat_of_nonneg h.2.1]⟩
def mvS (l : List Int) (m : Int × Int) : List Int := mvF l m.1.toNat m.2.toNat
/-- How slips lie after moves. -/
def movedF (n : Nat) (ms : List (Int × Int)) : List Int := ms.foldl mvS (upN n)
theorem movedF_snoc (n : Nat) (ms : List (Int × Int)) (m : Int × Int) : movedF n (ms ++ [m]) = mvS (movedF n ms) m := by simp [movedF]
theorem movedF_len {n : Nat} {ms : List (Int × Int)} (h : ∀ m ∈ ms, mvBad n m = false) : (movedF n ms).length = n := by
  suffices k : ∀ (ms : List (Int × Int)) (l : List Int), (∀ m ∈ ms, mvBad n m = false) → l.length = n → (ms.foldl mvS l).length = n from k ms _ h (upN_len n)
  intro ms
  induction ms with
  | nil => intro l _ hl; exact hl
  | cons m ms ih =>
    intro l h hl
    rw [List.foldl_cons]
    refine ih _ (fun x hx => h x (List.mem_cons_of_mem _ hx)) ?_
    obtain ⟨f, t, hf, ht, rfl⟩ := mvBad_no (h m List.mem_cons_self)
    exact (mvF_len (by omega) (by omega)).trans hl
end Go.Proofs.YtpijeomnplmakaaGreatDoor

/- A deck is put right, in plain Lean. -/
namespace Go.Proofs.YtpijeomnplmakaaGreatDoor
open Go.RowKit

abbrev MSt := List Int × List Int × List (Int × Int)
/-- Slip k is settled and has a greater rank than slip i. -/
def pM (d S : List Int) (i : Nat) (k : Int) : Bool := decide (k ∈ S) && decide (gd d i < gd d k.toNat)
/-- The place to which a slip goes. -/
def toM (d S r : List Int) (i : Nat) : Nat := if idxV (pM d S i) r < 0 then r.length else (idxV (pM d S i) r).toNat
def mendS (d : List Int) (st : MSt) (i : Nat) : MSt :=
  if (i : Int) ∈ st.2.1 then st else
    (mvF st.1 (st.1.idxOf (i : Int)) (toM d st.2.1 (st.1.eraseIdx (st.1.idxOf (i : Int))) i), (i : Int) :: st.2.1, st.2.2 ++ [(((st.1.idxOf (i : Int) : Nat) : Int), ((toM d st.2.1 (st.1.eraseIdx (st.1.idxOf (i : Int))) i : Nat) : Int))])
def mendF (d K : List Int) (m : Nat) : MSt := (List.range m).foldl (mendS d) (upN d.length, K, [])
theorem mendF_succ (d K : List Int) (m : Nat) : mendF d K (m + 1) = mendS d (mendF d K m) m := by simp [mendF, List.range_succ]
theorem toM_le (d S r : List Int) (i : Nat) : toM d S r i ≤ r.length := by
  rw [toM]
  split
  · exact Nat.le_refl _
  · rename_i h
    unfold idxV at h ⊢
    cases hf : r.findIdx? (pM d S i) with
    | none => rw [hf] at h; simp at h
    | some k =>
      rw [List.findIdx?_eq_some_iff_getElem] at hf
      obtain ⟨hk, _⟩ := hf
      simp; omega
theorem idxOf_facts {l : List Int} {x : Int} (h : x ∈ l) : l.idxOf x < l.length ∧ l[l.idxOf x]? = some x ∧ ∀ j, j < l.idxOf x → l[j]? ≠ some x := by
  have h1 := List.idxOf_lt_length_of_mem h
  refine ⟨h1, ?_, fun j hj hx => ?_⟩
  · rw [List.getElem?_eq_getElem h1, List.getElem_idxOf]
  · have hjl : j < l.length := by omega
    rw [List.getElem?_eq_getElem hjl] at hx
    have := List.not_of_lt_findIdx (p := (· == x)) (xs := l) (i := j) hj
    simp only [beq_eq_false_iff_ne, ne_eq] at this
    exact this (Option.some.inj hx)
theorem upN_nodup (n : Nat) : (upN n).Nodup := by
  rw [upN]
  exact List.Pairwise.map _ (fun a b (h : a ≠ b) => by omega) List.nodup_range
theorem eraseIdx_perm {l : List Int} {f : Nat} {x : Int} (h : l[f]? = some x) : (x :: l.eraseIdx f).Perm l := by
  obtain ⟨hf, rfl⟩ := List.getElem?_eq_some_iff.1 h
  rw [List.eraseIdx_eq_take_drop_succ]
  have e : l = l.take f ++ l[f] :: l.drop (f + 1) := by rw [← List.drop_eq_getElem_cons hf, List.take_append_drop]
  conv => rhs; rw [e]
  exact List.perm_middle.symm
theorem mvF_perm {l : List Int} {f t : Nat} {x : Int} (h : l[f]? = some x) : (mvF l f t).Perm l := by
  have hx : l.getD f 0 = x := by simp [List.getD_eq_getElem?_getD, h]
  rw [mvF, hx]
  refine List.Perm.trans List.perm_middle ?_
  rw [List.take_append_drop]
  exact eraseIdx_perm h
theorem mendS_perm {d : List Int} {st : MSt} {i : Nat} (hi : i < d.length) (h : st.1.Perm (upN d.length)) : (mendS d st i).1.Perm (upN d.length) := by
  rw [mendS]
  split
  · exact h
  · have hm : (i : Int) ∈ st.1 := by rw [h.mem_iff, upN_mem]; omega
    exact (mvF_perm (idxOf_facts hm).2.1).trans h
theorem mendF_perm (d K : List Int) : ∀ m, m ≤ d.length → (mendF d K m).1.Perm (upN d.length) := by
  intro m
  induction m with
  | zero => intro _; exact List.Perm.refl _
  | succ m ih => intro h; rw [mendF_succ]; exact mendS_perm (by omega) (ih (by omega))
theorem mendF_out (d K : List Int) : ∀ m, (mendF d K m).2.2.length ≤ m := by
  intro m
  induction m with
  | zero => simp [mendF]
  | succ m ih =>
    rw [mendF_succ, mendS]
    split
    · omega
    · simp only [List.length_append, List.length_cons, List.length_nil]; omega
end Go.Proofs.YtpijeomnplmakaaGreatDoor

/- Plain law: the order of a deck, its runs (the outright statements of racks). -/
namespace Go.Proofs.YtpijeomnplmakaaGreatDoor
open Go.RowKit

/-- Two lists of the same numbers, both in a strict order, are one. -/
theorem perm_uniq {α : Type} {R : α → α → Prop} (hR : ∀ a b, R a b → R b a → False) : ∀ {l m : List α}, l.Perm m → l.Pairwise R → m.Pairwise R → l = m
  | [], m, hp, _, _ => (List.nil_perm.1 hp).symm
  | x :: l, [], hp, _, _ => absurd hp.length_eq (by simp)
  | x :: l, y :: m, hp, h1, h2 => by
    obtain ⟨a1, a2⟩ := List.pairwise_cons.1 h1
    obtain ⟨b1, b2⟩ := List.pairwise_cons.1 h2
    have e : x = y := Classical.byContradiction fun hne => by
      have hx : x ∈ m := by
        rcases List.mem_cons.1 (hp.mem_iff.1 (List.mem_cons_self (a := x))) with h | h
        · exact absurd h hne
        · exact h
      have hy : y ∈ l := by
        rcases List.mem_cons.1 (hp.mem_iff.2 (List.mem_cons_self (a := y))) with h | h
        · exact absurd h.symm hne
        · exact h
      exact hR x y (a1 y hy) (b1 x hx)
    subst e
    rw [perm_uniq hR (List.Perm.cons_inv hp) a2 b2]
/-- A stable sort: what is less comes first; of equal ones what was first. -/
theorem ssort_pair {k : Int → Int} {R : Int → Int → Prop} {l : List Int} (h : l.Pairwise R) : (ssort k l).Pairwise fun a b => k a < k b ∨ k a = k b ∧ R a b := by
  rw [List.pairwise_iff_forall_sublist]
  intro a b hab
  have h1 : k a ≤ k b := List.pairwise_iff_forall_sublist.1 (ssort_srt k l) hab
  by_cases e : k a = k b
  · right
    refine ⟨e, ?_⟩
    have h2 : List.Sublist ([a, b].filter (fun x => decide (k x = k b))) ((ssort k l).filter (fun x => decide (k x = k b))) := hab.filter _
    rw [← ssort_filt k l (k b)] at h2
    have h3 : [a, b].filter (fun x => decide (k x = k b)) = [a, b] := by simp [e]
    rw [h3] at h2
    exact List.pairwise_iff_forall_sublist.1 h (h2.trans List.filter_sublist)
  · left; omega
theorem filt_perm {k : Int → Int} {l r : List Int} (h : Filt k l r) : l.Perm r := by
  rw [List.perm_iff_count]
  intro x
  have := congrArg (List.count x) (h (k x))
  rwa [List.count_filter (by simp), List.count_filter (by simp)] at this
theorem ssort_perm (k : Int → Int) (l : List Int) : (ssort k l).Perm l := (filt_perm (ssort_filt k l)).symm
theorem upN_up (n : Nat) : (upN n).Pairwise (· < ·) := by
  induction n with
  | zero => exact List.Pairwise.nil
  | succ n ih =>
    rw [upN_succ, List.pairwise_append]
    refine ⟨ih, List.pairwise_singleton _ _, fun a ha b hb => ?_⟩
    have := (upN_mem.1 ha).2
    rw [List.mem_singleton] at hb
    omega
theorem ordF_perm (d : List Int) : (ordF d).Perm (upN d.length) := ssort_perm _ _
theorem ordF_nodup (d : List Int) : (ordF d).Nodup := (ordF_perm d).nodup_iff.2 (upN_nodup _)
theorem ordF_in {d : List Int} {x : Int} : x ∈ ordF d ↔ 0 ≤ x ∧ x < d.length := (ordF_perm d).mem_iff.trans upN_mem
theorem gd_mem {l : List Int} {i : Nat} (h : i < l.length) : gd l i ∈ l := by rw [gd_lt h]; exact List.getElem_mem h
theorem pair_gd {R : Int → Int → Prop} {l : List Int} (h : l.Pairwise R) {i j : Nat} (hij : i < j) (hj : j < l.length) : R (gd l i) (gd l j) := by
  rw [gd_lt hj, gd_lt (by omega)]
  exact List.pairwise_iff_getElem.1 h i j (by omega) hj hij
theorem nodup_gd {l : List Int} (h : l.Nodup) {i j : Nat} (hi : i < l.length) (hj : j < l.length) (e : gd l i = gd l j) : i = j := by
  rw [gd_lt hi, gd_lt hj] at e
  have hp := List.pairwise_iff_getElem.1 h
  rcases Nat.lt_trichotomy i j with c | c | c
  · exact absurd e (hp i j hi hj c)
  · exact c
  · exact absurd e.symm (hp j i hj hi c)
theorem ordF_rng {d : List Int} {i : Nat} (h : i < d.length) : 0 ≤ gd (ordF d) i ∧ gd (ordF d) i < d.length := ordF_in.1 (gd_mem (by rw [ordF_len]; exact h))
/-! ### Runs -/
/-- How many runs end before the j-th. -/
def brk (L : List Int) : Nat → Nat
  | 0 => 0
  | j + 1 => brk L j + if gd L (j + 1) < gd L j then 1 else 0
/-- The pairs where they end. -/
def prs (L : List Int) : Nat → List (Int × Int)
  | 0 => []
  | j + 1 => prs L j ++ if gd L (j + 1) < gd L j then [(gd L j, gd L (j + 1))] else []
theorem prs_len (L : List Int) : ∀ j, (prs L j).length = brk L j
  | 0 => rfl
  | j + 1 => by
    rw [prs, brk, List.length_append, prs_len L j]
    split <;> rfl
theorem opF_at {n : Nat} {L : List Int} (hL : ∀ x ∈ L, 0 ≤ x ∧ x < n) (hnd : L.Nodup) : ∀ j, j < L.length → (opF n (L.take (j + 1))).1 = gd L j ∧ (opF n (L.take (j + 1))).2.1 = prs L j ∧ ∀ i, i ≤ j → gd (opF n (L.take (j + 1))).2.2 (gd L i).toNat = (brk L i : Int) := by
  intro j
  induction j with
  | zero =>
    intro hj
    have h0 := hL _ (gd_mem hj)
    have e : L.take 1 = [] ++ [gd L 0] := by rw [gd_lt hj]; exact (take_snoc_get (List.getElem?_eq_getElem hj))
    rw [e, opF_snoc]
    have e2 : opF n [] = (-1, [], List.replicate n 0) := rfl
    rw [e2]
    simp only [opS]
    rw [if_neg (by omega)]
    refine ⟨by first | rfl | trivial, by first | rfl | trivial, fun i hi => ?_⟩
    obtain rfl : i = 0 := by omega
    rw [gd_set, if_pos ⟨rfl, by rw [List.length_replicate]; omega⟩]
    rfl
  | succ j ih =>
    intro hj
    obtain ⟨h1, h2, h3⟩ := ih (by omega)
    have hx := hL _ (gd_mem hj)
    have e : L.take (j + 1 + 1) = L.take (j + 1) ++ [gd L (j + 1)] := by rw [gd_lt hj]; exact (take_snoc_get (List.getElem?_eq_getElem hj))
    have hlen := (opF_len n (L.take (j + 1))).1
    rw [e, opF_snoc]
    generalize opF n (L.take (j + 1)) = st at *
    have e3 : (if gd L (j + 1) < st.1 then st.2.1 ++ [(st.1, gd L (j + 1))] else st.2.1) = prs L (j + 1) := by
      rw [prs, h1, h2]
      split
      · rfl
      · simp
    refine ⟨rfl, e3, fun i hi => ?_⟩
    show gd (st.2.2.set (gd L (j + 1)).toNat ((if gd L (j + 1) < st.1 then st.2.1 ++ [(st.1, gd L (j + 1))] else st.2.1).length : Int)) (gd L i).toNat = _
    rw [e3, prs_len, gd_set, hlen]
    by_cases hij : i = j + 1
    · subst hij
      rw [if_pos ⟨rfl, by omega⟩]
    · rw [if_neg fun hc => ?_]
      · exact h3 i (by omega)
      · have hi' := hL _ (gd_mem (show i < L.length by omega))
        exact hij (nodup_gd hnd (by omega) hj (by omega))
theorem end_eq (d : List Int) : endF d = prs (ordF d) (d.length - 1) := by
  have hl := ordF_len d
  by_cases h0 : d.length = 0
  · have : d = [] := List.eq_nil_of_length_eq_zero h0
    subst this
    rfl
  · obtain ⟨h1, h2, h3⟩ := opF_at (n := d.length) (L := ordF d) (fun x hx => ordF_in.1 hx) (ordF_nodup d) (d.length - 1) (by omega)
    have e : (ordF d).take (d.length - 1 + 1) = ordF d := List.take_of_length_le (by omega)
    rw [e] at h2
    exact h2
theorem end_len (d : List Int) : (endF d).length = brk (ordF d) (d.length - 1) := by rw [end_eq, prs_len]
end Go.Proofs.YtpijeomnplmakaaGreatDoor

/- rack: Sort. -/
namespace Go.Proofs.YtpijeomnplmakaaGreatDoor
open Go.RowKit

/-- A row of a plan is wrong. -/
def rowBad (n : Nat) (boxes : Int) (x : Rw) : Bool := decide (¬ (x.2.2.length : Int) = n) || !x.2.2.all (inB 0 (boxes - 1))
def planBad (n : Nat) (boxes : Int) (rs : List Rw) : Bool := rs.any (rowBad n boxes) || decide (8 < rs.length)
/-- How slips lie after the rows. -/
def sortF (n : Nat) (rs : List Rw) : List Int := rs.foldl (fun l x => ssort (keyD x.2.2) l) (upN n)
theorem sortF_snoc (n : Nat) (rs : List Rw) (x : Rw) : sortF n (rs ++ [x]) = ssort (keyD x.2.2) (sortF n rs) := by simp [sortF]
theorem sortF_len (n : Nat) (rs : List Rw) : (sortF n rs).length = n := by
  suffices h : ∀ (l : List Int), (rs.foldl (fun l x => ssort (keyD x.2.2) l) l).length = l.length by rw [sortF, h, upN_len]
  induction rs with
  | nil => intro l; rfl
  | cons x rs ih => intro l; rw [List.foldl_cons, ih, ssort_len]
theorem sortF_mem {n : Nat} {rs : List Rw} {y : Int} : y ∈ sortF n rs ↔ 0 ≤ y ∧ y < n := by
  rw [← upN_mem, sortF]
  suffices h : ∀ (l : List Int), y ∈ rs.foldl (fun l x => ssort (keyD x.2.2) l) l ↔ y ∈ l from h _
  induction rs with
  | nil => intro l; rfl
  | cons x rs ih => intro l; rw [List.foldl_cons, ih, ssort_mem]

theorem Sort1_rack (b3 b4 : Nat) (a : Option Addr) (c : Nat) (d : List Int) (boxes : Int) (x : Rw) (w : World) (hb : 2 ≤ boxes ∧ boxes ≤ 20) [At w b3 0 [.slice a d.length c]] [At w b4 0 [.int .i64 boxes]] (hx : RowV w false 1 (encW x) (x.2.2.map intV)) :
    Ct Tryz.prog 57 [encW x, .pointer (some ⟨b3, 0, none⟩), .pointer (some ⟨b4, 0, none⟩)] w fun v _ => v = .bool (rowBad d.length boxes x) := by
  obtain ⟨ax, cx, xl⟩ := x
  replace hx : RowV w false 1 (.slice ax xl.length cx) (xl.map intV) := hx
  show Ct Tryz.prog 57 [.slice ax xl.length cx, .pointer (some ⟨b3, 0, none⟩), .pointer (some ⟨b4, 0, none⟩)] w _
  refine Ct.ofW (by simp) ?_
  by_cases hc : xl.length = d.length
  · (refine jjB ?_; refine jjC ?_; apply jJ; exact eB rfl; refine jz ?_; refine jjB ?_; refine jjC ?_; apply jI; exact eS rfl; refine jh rfl ?_; refine jN rfl rfl rfl ?_; refine jh rfl ?_; refine jjk rfl rfl (by omega) ?_; apply jI; exact eB rfl; refine jT rfl rfl rfl ?_; refine jN rfl rfl rfl ?_; refine jT rfl rfl rfl ?_; refine jZ rfl rfl (by omega) ?_; refine jT rfl rfl rfl ?_; apply jI; exact eS rfl; refine jT rfl rfl rfl ?_)
    refine jjQ (in_rack 0 (boxes - 1) _ xl _ hx) rfl rfl ?_
    rintro _ w2 hS2 rfl
    (refine jT rfl rfl rfl ?_; refine js rfl ?_; apply jL rfl; exact eB rfl; apply jJ; exact eB rfl; refine jz ?_; refine jjF ?_; refine jB rfl rfl ⟨inferInstance, ?_⟩)
    have : rowBad d.length boxes (ax, cx, xl) = !xl.all (inB 0 (boxes - 1)) := by simp [rowBad, hc]
    rw [this]; exact rfl
  · (refine jjB ?_; refine jjC ?_; apply jJ; exact eB rfl; refine jz ?_; refine jjB ?_; refine jjC ?_; apply jI; exact eS rfl; refine jh rfl ?_; refine jN rfl rfl rfl ?_; refine jh rfl ?_; refine jjj rfl rfl (by omega) ?_; apply jI; exact eB rfl; refine jU rfl rfl rfl rfl ?_; refine jU rfl rfl rfl rfl ?_; refine jU rfl rfl rfl rfl ?_; refine jU rfl rfl rfl rfl ?_; refine jU rfl rfl rfl rfl ?_; apply jK rfl; exact eB rfl; apply jJ; exact eB rfl; refine jz ?_; refine jjF ?_; refine jB rfl rfl ⟨inferInstance, ?_⟩)
    have : rowBad d.length boxes (ax, cx, xl) = true := by simp [rowBad]; omega
    rw [this]; exact rfl

theorem sort_own {w0 V : World} (bx : Nat) (a av : Option Addr) (c cv : Nat) (row l : List Int) (hl : l.length = row.length) (hm : ∀ x ∈ l, 0 ≤ x ∧ x < row.length) (hn : l.length ≤ 1000000) (hE : Ext w0 V) (hO : OwnL V w0.heap.size 3 false 1 (.slice av l.length cv) (l.map intV))
    (hb : At V bx 0 [.slice a row.length c]) (hr : RowV w0 false 1 (.slice a row.length c) (row.map intV)) (hbx : ∀ g, av = some ⟨g, 0, none⟩ → bx ≠ g) :
    Calls Tryz.prog 59 [.slice av l.length cv, .func (.func 60) #[] [Value.pointer (some ⟨bx, 0, none⟩)].toArray].toArray V fun e w' => (∃ v, e = .returned v) ∧ Ext w0 w' ∧ OwnL w' w0.heap.size 3 false 1 (.slice av l.length cv) ((ssort (keyD row) l).map intV) := by
  rcases Nat.eq_zero_or_pos l.length with h0 | h0
  · refine (SortStable_none _ l.length cv av V h0).mono fun e w' ⟨h1, h2⟩ => ⟨h1, hE.trans h2, ?_⟩
    have h3 : ssort (keyD row) l = l := by rw [List.eq_nil_of_length_eq_zero h0]; rfl
    rw [h3]; exact hO.ext h2
  · obtain ⟨g, rfl, hg, hOg⟩ := hO.self (by rw [List.length_map]; exact h0)
    have hne : (Value.slice a row.length c).ownBlock ≠ some g := fun e => by
      obtain ⟨b', o', rfl, hA⟩ := hr.place' (map_get (j := 0) (by omega))
      have := hA.lt
      simp only [Value.ownBlock, Option.some.injEq] at e
      omega
    refine (SortStable_int g l.length cv 60 [Value.pointer (some ⟨bx, 0, none⟩)] (keyD row) _ l V hn hm ⟨rfl, hOg⟩ (cmp_Sort_E bx a c g row V hb (hr.ext hE) (hbx g rfl) hne)).mono ?_
    rintro e w' ⟨h1, h2, h3⟩
    exact ⟨h1, h2.ext hE hg, h3.2.mono hg⟩

/-- What Sort answers. -/
def SortR (d : List Int) (boxes : Int) (rs : List Rw) (B : Nat) (v : Value) (w' : World) : Prop :=
  (opE d boxes ≠ 0 ∧ v = .tuple #[.slice none 0 0, .int .i64 (opE d boxes)]) ∨
  (opE d boxes = 0 ∧ planBad d.length boxes rs = true ∧ v = .tuple #[.slice none 0 0, .int .i64 62]) ∨
  (opE d boxes = 0 ∧ planBad d.length boxes rs = false ∧ ∃ av cv, v = .tuple #[.slice av d.length cv, .int .i64 0] ∧ OwnL w' B 3 false 1 (.slice av d.length cv) ((sortF d.length rs).map intV))

set_option maxHeartbeats 2000000 in
theorem Sort_rack (a pa : Option Addr) (c pc : Nat) (d : List Int) (boxes : Int) (rs : List Rw) (w : World) (hl : d.length ≤ 1000000) (hrl : rs.length ≤ 1000000) [hrow : RowI w (.slice a d.length c) false 1 (d.map intV)] [hp : RowI w (.slice pa rs.length pc) false 1 (rs.map encW)] [hrs : RowsI w rs] :
    Ct Tryz.prog 20 [.slice a d.length c, .int .i64 boxes, .slice pa rs.length pc] w fun v w' => SortR d boxes rs w.heap.size v w' := by
  refine Ct.ofW (by simp) ?_
  (refine jjB ?_; refine jjC ?_)
  (refine jy rfl ?_; intro b3 w_b3 hb_b3 hs_b3 hS_b3 hk_b3; have hA_b3 := At.ofBlock hk_b3)
  (refine jy rfl ?_; intro b4 w_b4 hb_b4 hs_b4 hS_b4 hk_b4; have hA_b4 := At.ofBlock hk_b4)
  (apply jJ; exact eS rfl; apply jJ; exact eI rfl; refine jz ?_; refine jjB ?_; refine jjB ?_; refine jjC ?_; refine jN rfl rfl rfl ?_; refine jN rfl rfl rfl ?_)
  refine jjQ (open_rack a c d boxes _ hl) rfl rfl ?_
  rintro _ w2 hS2 (⟨he, rfl⟩ | ⟨he, bb, bn, ae, ce, rfl, _, _, _, _, _⟩)
  · (apply jI; exact eU rfl; refine ju rfl rfl ?_; refine ju rfl rfl ?_; apply jJ; exact eN rfl; apply jJ; exact eI rfl; refine jz ?_; refine jjB ?_; refine jjC ?_; apply jI; exact eI rfl; refine jjj rfl rfl (by omega) ?_; refine jz ?_; refine jjJ rfl ?_; refine jjB ?_; refine jjC ?_; apply jI; exact eI rfl; apply jJ; exact eS rfl; apply jJ; exact eI rfl; refine jz ?_; refine jjF ?_; refine jC rfl rfl rfl ⟨inferInstance, ?_⟩)
    exact .inl ⟨he, rfl⟩
  have hbx : 2 ≤ boxes ∧ boxes ≤ 20 := by
    simp only [opE] at he
    split at he
    · split at he
      · rename_i h; simpa [inB] using h
      · omega
    · omega
  have hdl : d.length ≤ 60 := by
    simp only [opE] at he
    split at he
    · exact deckB_len ‹_›
    · omega
  (apply jI; exact eU rfl; refine ju rfl rfl ?_; refine ju rfl rfl ?_; apply jJ; exact eP rfl; apply jJ; exact eI rfl; refine jz ?_; refine jjB ?_; refine jjC ?_; apply jI; exact eI rfl; refine jjk rfl rfl (by omega) ?_; refine jz ?_; refine jjK rfl ?_; refine jjG ?_; refine jjB ?_; refine jjC ?_; apply jI; exact eS rfl; refine jv ?_)
  refine jjQ (ContainsFunc_Slint _ _ (.func (.func 57) #[] [.pointer (some ⟨b3, 0, none⟩), .pointer (some ⟨b4, 0, none⟩)].toArray) encW rs (rowBad d.length boxes) (hp.h.ext inferInstance) ?hp) rfl rfl ?_
  case hp =>
    refine ⟨_, _, rfl, inferInstance, fun w' y hy hs => ?_⟩
    have := (inferInstance : At w2 b3 0 _).ext hs
    have := (inferInstance : At w2 b4 0 _).ext hs
    exact Sort1_rack b3 b4 a c d boxes y w' hbx ((hrs.h y hy).ext ((inferInstance : Ext w w2).trans hs))
  rintro _ w3 hS3 rfl
  cases hany : rs.any (rowBad d.length boxes)
  rotate_left
  · (apply jJ; exact eB rfl; refine jz ?_; refine jjB ?_; refine jjB ?_; refine jjC ?_; apply jI; exact eB rfl; apply jI; exact eB rfl; refine jU rfl rfl rfl rfl ?_; refine jU rfl rfl rfl rfl ?_; refine jU rfl rfl rfl rfl ?_; apply jK rfl; exact eB rfl; refine jz ?_; refine jjJ rfl ?_; refine jjB ?_; refine jjC ?_; apply jJ; exact eS rfl; apply jJ; exact eI rfl; refine jz ?_; refine jjF ?_; refine jC rfl rfl rfl ⟨inferInstance, ?_⟩)
    exact .inr (.inl ⟨he, by simp only [planBad, hany, Bool.true_or], rfl⟩)
  by_cases h8 : 8 < rs.length
  · (apply jJ; exact eB rfl; refine jz ?_; refine jjB ?_; refine jjB ?_; refine jjC ?_; apply jI; exact eB rfl; apply jI; exact eB rfl; refine jT rfl rfl rfl ?_; apply jI; exact eS rfl; refine jT rfl rfl rfl ?_; refine jh rfl ?_; refine jT rfl rfl rfl ?_; refine jjd rfl rfl (by omega) ?_; apply jL rfl; exact eB rfl; refine jz ?_; refine jjJ rfl ?_; refine jjB ?_; refine jjC ?_; apply jJ; exact eS rfl; apply jJ; exact eI rfl; refine jz ?_; refine jjF ?_; refine jC rfl rfl rfl ⟨inferInstance, ?_⟩)
    exact .inr (.inl ⟨he, by simp [planBad, h8], rfl⟩)
  have hpb : planBad d.length boxes rs = false := by simp only [planBad, hany, Bool.false_or, decide_eq_false_iff_not]; exact h8
  (apply jJ; exact eB rfl; refine jz ?_; refine jjB ?_; refine jjB ?_; refine jjC ?_; apply jI; exact eB rfl; apply jI; exact eB rfl; refine jT rfl rfl rfl ?_; apply jI; exact eS rfl; refine jT rfl rfl rfl ?_; refine jh rfl ?_; refine jT rfl rfl rfl ?_; refine jje rfl rfl (by omega) ?_; apply jL rfl; exact eB rfl; refine jz ?_; refine jjK rfl ?_; refine jjG ?_; refine jjB ?_; refine jjC ?_; apply jJ; exact eS rfl; refine jz ?_; refine jjB ?_; refine jjB ?_; refine jjC ?_; refine jN rfl rfl rfl ?_; refine jh rfl ?_; apply jI; exact eI rfl; refine jz ?_; refine jjD ?_)
  have hE3 : Ext w w3 := inferInstance
  have z3 := hE3.size
  refine W.loop (36 :: 37 :: 12 :: 38 :: 39 :: 40 :: 41 :: 11 :: 42 :: 35 :: []) (fun g s' w' => ∃ (i : Nat) (v : Value), s' 35 = .int .i64 ((i : Nat) : Int) ∧ s' 11 = v ∧ g = d.length - i ∧ i ≤ d.length ∧ OwnL w' w3.heap.size 3 false 1 v ((upN i).map intV)) d.length ⟨0, _, rfl, rfl, rfl, Nat.zero_le _, OwnL.nil _ _ _ _ _⟩ ?_
  rintro _ sd w4 hS4 ⟨i, v, h35, h11, rfl, hi, hO1⟩
  refine W.fix h35 (W.fix (d := 11) h11 ?_)
  clear h35 h11
  have z4 := hS4.size
  repeat' (first|((first|apply jI|apply jJ); (first|exact eI rfl|exact eS rfl|exact rfl))|(refine jW ?_; refine jX rfl rfl ?_)|(refine jg ?_; refine jh rfl ?_)|refine jz ?_|(refine jjA ?_; (first|refine jjB ?_|refine jjC ?_|refine jjD ?_|refine jjE ?_|refine jjG ?_))|(refine jjA ?_; (refine jjN rfl ?_ ?_ <;> intro _)))
  · (refine jjP (v := .int _ _) rfl (by exact rfl) (by exact rfl) (by exact rfl) (by exact rfl) ?_; intro b5 w_b5 hb_b5 hs_b5 hS_b5 hk_b5; have hR_b5 := RowV.one (agg := false) (k := 1) rfl hk_b5)
    have z5 := hS_b5.size
    refine Ops.appendL (hO1.ext hS_b5.ext) (by omega) hR_b5 rfl rfl rfl rfl (one_int _) ?_ ?_ ?_
    · simp only [List.length_map, upN_len, List.length_cons, List.length_nil]; omega
    · simp only [List.length_map, upN_len, List.length_cons, List.length_nil]; omega
    intro v2 w6 hA6 hO6 _ _
    have hE6 : Ext w3 w6 := hA6.ext inferInstance (Nat.le_refl _)
    (apply jJ; exact rfl; refine jz ?_; refine jjC ?_; refine jY rfl rfl (by omega) ?_; apply jI; exact eI rfl; refine jz ?_)
    refine ⟨rfl, by ((refine Same.upd rfl ?_; refine Same.upd rfl ?_; refine Same.upd rfl ?_; refine Same.upd rfl ?_; refine Same.upd rfl ?_; refine Same.upd rfl ?_; refine Same.upd rfl ?_; refine Same.upd rfl ?_; refine Same.upd rfl ?_; refine Same.upd rfl ?_; refine Same.upd rfl ?_; refine Same.upd rfl ?_; exact Same.ovN)), d.length - (i + 1), by omega, hE6, i + 1, v2, congrArg (Value.int .i64) (by omega), rfl, rfl, by omega, ?_⟩
    rw [upN_succ, List.map_append]; exact hO6
  · have hie : i = d.length := by omega
    subst hie
    obtain ⟨av, cv, ev⟩ := hO1.slice
    rw [List.length_map, upN_len] at ev
    subst ev
    refine W.keep0 [(11, .slice av d.length cv), (43, .slice pa rs.length pc), (44, .int .i64 ((rs.length : Nat) : Int)), (45, .int .i64 ((0 : Nat) : Int))] ⟨eS rfl, eS rfl, eI rfl, eI rfl, trivial⟩ fun s0 => ?_
    have hPR : ∀ V, Ext w3 V → RowI V (.slice pa rs.length pc) false 1 (rs.map encW) := fun V hV => ⟨hp.h.ext (hE3.trans hV)⟩
    refine W.loopG (46 :: 47 :: 48 :: 14 :: 49 :: 50 :: 51 :: 52 :: 45 :: []) (fun g s' V => ∃ i : Nat, s' 45 = .int .i64 ((i : Nat) : Int) ∧ g = rs.length - i ∧ i ≤ rs.length ∧ Ext w3 V ∧ OwnL V w3.heap.size 3 false 1 (.slice av d.length cv) ((sortF d.length (rs.take i)).map intV)) rs.length ⟨0, rfl, rfl, Nat.zero_le _, hS4.ext, by rw [List.take_zero]; exact hO1⟩ ?_
    clear hO1
    rintro _ sd2 V ⟨i, h45, rfl, hi, hEV, hOV⟩
    refine W.fix h45 ?_
    clear h45
    have := hPR V hEV
    have zV := hEV.size
    repeat' (first|((first|apply jI|apply jJ); (first|exact eI rfl|exact eS rfl))|(refine jM ?_; refine jQ rfl rfl ?_)|(refine jW ?_; refine jX rfl rfl ?_)|(refine jE ?_; (refine jF rfl rfl rfl (map_get (by omega)) ?_; intro _ _ _))|refine jz ?_|(refine jjA ?_; (first|refine jjB ?_|refine jjC ?_|refine jjD ?_|refine jjE ?_|refine jjF ?_|refine jjG ?_))|(refine jjA ?_; (refine jjN rfl ?_ ?_ <;> intro _)))
    · have hi' : i < rs.length := by omega
      have hrx := hrs.h rs[i] (List.getElem_mem hi')
      have hbad : rowBad d.length boxes rs[i] = false := by
        rw [List.any_eq_false] at hany
        simpa using hany rs[i] (List.getElem_mem hi')
      have hlen : rs[i].2.2.length = d.length := by simp [rowBad] at hbad; omega
      have hgx := List.getElem?_eq_getElem hi'
      generalize hxe : rs[i] = x at *
      obtain ⟨ax, cx, xl⟩ := x
      replace hrx : RowV w false 1 (.slice ax xl.length cx) (xl.map intV) := hrx
      replace hlen : xl.length = d.length := hlen
      skip
      (apply jjR rfl; (intro _; first|exact eI rfl|exact eB rfl|exact eP rfl|exact eS rfl|exact eT rfl|exact eA rfl|exact eU rfl|exact eF rfl|exact eM rfl|exact eN rfl|exact rfl); exact rfl; exact rfl; exact rfl; exact rfl; intro b14 w_b14 hb_b14 hs_b14 hS_b14 hk_b14; have hA_b14 := Bk.of hk_b14)
      have z14 := hS_b14.size
      have hxl : (sortF d.length (rs.take i)).length = d.length := sortF_len _ _
      have hO14 : OwnL w_b14 w3.heap.size 3 false 1 (.slice av (sortF d.length (rs.take i)).length cv) ((sortF d.length (rs.take i)).map intV) := by rw [hxl]; exact hOV.ext hS_b14.ext
      have hsort := sort_own (w0 := w3) b14 ax av cx cv xl (sortF d.length (rs.take i)) (by omega) (fun y hy => by rw [sortF_mem] at hy; omega) (by omega) (hEV.trans hS_b14.ext) hO14 (Bk.toAt (h := hA_b14)) (hrx.ext hE3) (fun g e => by
        have := (hOV.block g (by rw [e]; rfl)).2
        omega)
      rw [hxl] at hsort
      (refine jz ?_; refine jjC ?_; apply jI; exact eS rfl; refine jv ?_)
      refine Ops.callR rfl (Enters.h (P := Tryz.prog) (g := 59)) rfl hsort ?_
      rintro _ V2 ⟨⟨v, rfl⟩, hE2, hO2⟩
      refine ⟨_, rfl, ?_⟩
      (refine jz ?_; refine jjC ?_; refine jY rfl rfl (by omega) ?_; apply jI; exact eI rfl; refine jz ?_)
      refine ⟨rfl, by ((refine Same.upd rfl ?_; refine Same.upd rfl ?_; refine Same.upd rfl ?_; refine Same.upd rfl ?_; refine Same.upd rfl ?_; refine Same.upd rfl ?_; refine Same.upd rfl ?_; refine Same.upd rfl ?_; refine Same.upd rfl ?_; refine Same.upd rfl ?_; exact Same.ovN)), rs.length - (i + 1), by omega, i + 1, congrArg (Value.int .i64) (by omega), rfl, by omega, hE2, ?_⟩
      rw [take_snoc_get hgx, sortF_snoc]
      exact hO2
    · have hie : i = rs.length := by omega
      subst hie
      rw [List.take_length] at hOV
      have := hE3.trans hEV
      (refine jC rfl rfl rfl ⟨inferInstance, ?_⟩)
      exact .inr (.inr ⟨he, hpb, av, cv, rfl, hOV.mono z3⟩)
end Go.Proofs.YtpijeomnplmakaaGreatDoor

/- Plain law: sorting by passes (RackSorted, RackFewest). -/
namespace Go.Proofs.YtpijeomnplmakaaGreatDoor
open Go.RowKit

theorem sort_uniq {n : Nat} {k : Int → Int} {l : List Int} (hp : l.Perm (upN n)) (h : l.Pairwise fun a b => k a < k b ∨ k a = k b ∧ a < b) : l = ssort k (upN n) :=
  perm_uniq (R := fun a b => k a < k b ∨ k a = k b ∧ a < b) (fun a b h g => by omega) (hp.trans (ssort_perm k (upN n)).symm) h (ssort_pair (upN_up n))
/-- Two stable sorts, one behind the other, are one. -/
theorem two_sorts {n : Nat} {k1 k2 : Int → Int} {B : Int} (h : ∀ x : Int, 0 ≤ x → x < n → 0 ≤ k1 x ∧ k1 x < B) : ssort k2 (ssort k1 (upN n)) = ssort (fun x => k2 x * B + k1 x) (upN n) := by
  refine sort_uniq ((ssort_perm _ _).trans (ssort_perm _ _)) ((ssort_pair (k := k2) (ssort_pair (k := k1) (upN_up n))).imp_of_mem ?_)
  intro a b ha hb hab
  have ha' := upN_mem.1 (ssort_mem.1 (ssort_mem.1 ha))
  have hb' := upN_mem.1 (ssort_mem.1 (ssort_mem.1 hb))
  have h1 := h a ha'.1 ha'.2
  have h2 := h b hb'.1 hb'.2
  rcases hab with h3 | ⟨h3, h4⟩
  · left
    have h5 : (k2 a + 1) * B ≤ k2 b * B := Int.mul_le_mul_of_nonneg_right (by omega) (by omega)
    rw [Int.add_mul, Int.one_mul] at h5
    show k2 a * B + k1 a < k2 b * B + k1 b
    omega
  · show k2 a * B + k1 a < k2 b * B + k1 b ∨ k2 a * B + k1 a = k2 b * B + k1 b ∧ a < b
    rw [h3]
    omega
def sortP (n : Nat) (P : List (List Int)) : List Int := P.foldl (fun l x => ssort (keyD x) l) (upN n)
theorem sortF_P (n : Nat) (rs : List Rw) : sortF n rs = sortP n (rs.map (·.2.2)) := by rw [sortF, sortP, List.foldl_map]
/-- The boxes of all passes as one number. -/
def cK (b : Nat) (P : List (List Int)) : Nat → Int → Int
  | 0, _ => 0
  | q + 1, x => keyD (P.getD q []) x * ((b ^ q : Nat) : Int) + cK b P q x
def PlanI (n b : Nat) (P : List (List Int)) : Prop := ∀ r ∈ P, r.length = n ∧ ∀ y ∈ r, 0 ≤ y ∧ y ≤ (b : Int) - 1
theorem radix {n b : Nat} (hb : 1 ≤ b) {P : List (List Int)} (hP : PlanI n b P) : ∀ q, q ≤ P.length → sortP n (P.take q) = ssort (cK b P q) (upN n) ∧ ∀ x : Int, 0 ≤ x → x < n → 0 ≤ cK b P q x ∧ cK b P q x < ((b ^ q : Nat) : Int) := by
  intro q
  induction q with
  | zero =>
    intro _
    refine ⟨?_, fun x _ _ => ⟨Int.le_refl _, by simp [cK]⟩⟩
    rw [List.take_zero]
    refine (ssort_of_srt ?_).symm
    exact (upN_up n).imp fun _ => Int.le_refl _
  | succ q ih =>
    intro hq
    obtain ⟨h1, h2⟩ := ih (by omega)
    have hr := hP P[q] (List.getElem_mem hq)
    have eg : P.getD q [] = P[q] := by simp [List.getD_eq_getElem?_getD, List.getElem?_eq_getElem hq]
    refine ⟨?_, fun x hx0 hxn => ?_⟩
    · rw [take_snoc_get (List.getElem?_eq_getElem hq), sortP, List.foldl_append]
      have : (P.take q).foldl (fun l x => ssort (keyD x) l) (upN n) = ssort (cK b P q) (upN n) := h1
      rw [this]
      show ssort (keyD P[q]) (ssort (cK b P q) (upN n)) = _
      rw [two_sorts h2, ← eg]
      rfl
    · obtain ⟨h3, h4⟩ := h2 x hx0 hxn
      have hk : 0 ≤ keyD P[q] x ∧ keyD P[q] x ≤ (b : Int) - 1 := by
        have hlt : x.toNat < P[q].length := by omega
        refine hr.2 _ ?_
        have : keyD P[q] x = P[q][x.toNat] := by simp [keyD, List.getD_eq_getElem?_getD, hlt]
        rw [this]
        exact List.getElem_mem hlt
      rw [cK, eg]
      have e : ((b ^ (q + 1) : Nat) : Int) = (b : Int) * ((b ^ q : Nat) : Int) := by rw [Nat.pow_succ, Nat.mul_comm]; exact Int.natCast_mul _ _
      rw [e]
      generalize ((b ^ q : Nat) : Int) = B at *
      have h5 : keyD P[q] x * B ≤ ((b : Int) - 1) * B := Int.mul_le_mul_of_nonneg_right hk.2 (by omega)
      have h6 : 0 ≤ keyD P[q] x * B := Int.mul_nonneg hk.1 (by omega)
      rw [Int.sub_mul, Int.one_mul] at h5
      omega
theorem radix_all {n b : Nat} (hb : 1 ≤ b) {P : List (List Int)} (hP : PlanI n b P) : sortP n P = ssort (cK b P P.length) (upN n) := by
  have := (radix hb hP P.length (Nat.le_refl _)).1
  rwa [List.take_length] at this
/-! ### The plan -/
/-- What sorts the deck puts together all its runs. -/
theorem fewest {d : List Int} {b : Nat} (hb : 1 ≤ b) {P : List (List Int)} (hP : PlanI d.length b P) (hs : sortP d.length P = ordF d) : (endF d).length < b ^ P.length := by
  have hl := ordF_len d
  rw [radix_all hb hP] at hs
  have hbd := (radix hb hP P.length (Nat.le_refl _)).2
  have hpw := ssort_pair (k := cK b P P.length) (upN_up d.length)
  rw [hs] at hpw
  rw [end_len]
  by_cases h0 : d.length = 0
  · rw [h0]
    exact Nat.pow_pos hb
  · have key : ∀ j, j < d.length → (brk (ordF d) j : Int) ≤ cK b P P.length (gd (ordF d) j) := by
      intro j
      induction j with
      | zero =>
        intro hj
        exact (hbd _ (ordF_rng hj).1 (ordF_rng hj).2).1
      | succ j ih =>
        intro hj
        have h1 := ih (by omega)
        have h2 := pair_gd hpw (show j < j + 1 by omega) (by omega)
        rw [brk]
        split <;> omega
    have h1 := key (d.length - 1) (by omega)
    have h2 := ordF_rng (d := d) (i := d.length - 1) (by omega)
    have h3 := (hbd _ h2.1 h2.2).2
    omega
end Go.Proofs.YtpijeomnplmakaaGreatDoor

/- Go's library: slices.Delete, Insert, Index, Compare, BinarySearch (integers). -/
namespace Go.Proofs.YtpijeomnplmakaaGreatDoor
open Go.RowKit

theorem int_fit (l : List Int) : ∀ x ∈ l.map intV, fitsV false 1 x = true := fun x hx => by obtain ⟨y, _, rfl⟩ := List.mem_map.1 hx; rfl
theorem int_one {l : List Value} {m : List Int} (h : ∀ v ∈ l, v ∈ m.map intV) : ∀ v ∈ l, v.oneCell' = true := fun v hv => by obtain ⟨y, _, rfl⟩ := List.mem_map.1 (h v hv); rfl

theorem Index_int (a : Option Addr) (c : Nat) (l : List Int) (x : Int) (w : World) (hl : l.length ≤ 1000000) [hrow : RowI w (.slice a l.length c) false 1 (l.map intV)] {i : Nat} (hi : l[i]? = some x) (hfirst : ∀ (j : Nat), j < i → l[j]? ≠ some x) :
    Ct Tryz.prog 72 [.slice a l.length c, .int .i64 x] w fun v _ => v = .int .i64 (i : Int) := by
  have hil := (List.getElem?_eq_some_iff.1 hi).1
  refine Ct.ofW (by simp) ?_
  (refine jjB ?_; refine jjC ?_; apply jJ; exact eI rfl; refine jz ?_; refine jjB ?_; refine jjB ?_; refine jjC ?_; apply jI; exact eS rfl; refine jh rfl ?_; apply jI; exact eI rfl; refine jz ?_; refine jjD ?_)
  refine W.loop (9 :: 10 :: 5 :: 11 :: 12 :: 13 :: 14 :: 15 :: 16 :: 17 :: 4 :: 18 :: 8 :: []) (fun g s' _ => ∃ j : Nat, s' 8 = .int .i64 ((j : Nat) : Int) ∧ g = l.length - j ∧ j ≤ i) l.length ⟨0, rfl, rfl, Nat.zero_le _⟩ ?_
  rintro _ sd w1 hS1 ⟨j, h8, rfl, hj⟩
  refine W.fix h8 ?_
  clear h8
  have hjl : j < l.length := by omega
  (refine jjB ?_; refine jjC ?_; refine jjZ rfl rfl (by omega) ?_; refine jz ?_; refine jjB ?_; refine jjJ rfl ?_; refine jjG ?_; refine jjB ?_; refine jjD ?_; refine jjB ?_; refine jjC ?_; apply jI; exact eI rfl; apply jJ; exact eI rfl; refine jz ?_; refine jjB ?_; refine jjC ?_; apply jI; exact eI rfl; apply jI; exact eS rfl; apply jI; exact eI rfl; refine jF rfl rfl rfl (map_get (by omega)) ?_; intro _ _ _; refine jQ rfl rfl ?_; refine jb rfl rfl ?_; refine jz ?_)
  repeat' (first|((first|apply jI|apply jJ); exact eI rfl)|(refine jW ?_; refine jY rfl rfl (by omega) ?_)|refine jz ?_|(refine jjA ?_; (first|refine jjB ?_|refine jjC ?_|refine jjF ?_|refine jjG ?_))|(refine jjA ?_; (refine jjN rfl ?_ ?_ <;> intro _))|refine jB rfl rfl ⟨inferInstance, ?_⟩)
  · have he : x = l[j] := by assumption
    have : j = i := by
      rcases Nat.lt_or_ge j i with h | h
      · exact absurd (by rw [List.getElem?_eq_getElem hjl, he]) (hfirst j h)
      · omega
    subst this
    exact rfl
  · have he : ¬ x = l[j] := by assumption
    have : j ≠ i := by
      intro e
      subst e
      rw [List.getElem?_eq_getElem hjl] at hi
      exact he (Option.some.inj hi).symm
    exact ⟨rfl, by ((refine Same.upd rfl ?_; refine Same.upd rfl ?_; refine Same.upd rfl ?_; refine Same.upd rfl ?_; refine Same.upd rfl ?_; refine Same.upd rfl ?_; refine Same.upd rfl ?_; refine Same.upd rfl ?_; refine Same.upd rfl ?_; refine Same.upd rfl ?_; refine Same.upd rfl ?_; refine Same.upd rfl ?_; exact Same.ovN)), l.length - (j + 1), by omega, inferInstance, j + 1, congrArg (Value.int .i64) (by omega), rfl, by omega⟩

set_option maxHeartbeats 1000000 in
theorem Delete_int (g n c i : Nat) (l : List Int) (w : World) {B : Nat} (hO : OwnL w B 3 false 1 (.slice (some ⟨g, 0, none⟩) n c) (l.map intV)) (hi : i < n) (hn : n ≤ 1000000) :
    Calls Tryz.prog 63 [.slice (some ⟨g, 0, none⟩) n c, .int .i64 (i : Int), .int .i64 ((i : Int) + 1)].toArray w fun e w' => e = .returned (.slice (some ⟨g, 0, none⟩) (n - 1) c) ∧ Only g w w' ∧ OwnL w' B 3 false 1 (.slice (some ⟨g, 0, none⟩) (n - 1) c) ((l.eraseIdx i).map intV) := by
  obtain ⟨cs, hB, hcl, hnc, hcm, hll, htk, hBg⟩ := hO.cells
  have hi1 : (i : Int) + 1 = ((i + 1 : Nat) : Int) := by omega
  rw [hi1]
  rw [List.length_map] at hll
  have hcs : ∀ j, j < n → cs[j]? = (l.map intV)[j]? := fun j hj => by rw [← htk, List.getElem?_take, if_pos hj]
  refine Calls.ofW (by simp) ?_
  (refine jjB ?_; refine jjC ?_; apply jJ; exact eS rfl; refine jz ?_; refine jjB ?_; refine jjC ?_; apply jI; exact eS rfl; apply jI; exact eI rfl; apply jI; exact eI rfl; apply jI; exact eS rfl; refine jh rfl ?_)
  refine Ops.slice3 rfl rfl rfl rfl rfl rfl rfl (by omega) (by omega) (by omega) ?_
  intro v3
  (refine jz ?_; refine jjB ?_; refine jjB ?_; refine jjC ?_; apply jI; exact eI rfl; apply jI; exact eI rfl; refine jji rfl rfl (by omega) ?_; refine jz ?_; refine jjK rfl ?_; refine jjG ?_; refine jjB ?_; refine jjC ?_; apply jI; exact eS rfl; refine jh rfl ?_; apply jJ; exact eI rfl; refine jz ?_; refine jjB ?_)
  refine W.draw (fun w' => Only g w w') ?_
  intro w1 hS1
  have hO1 : Only g w w1 := .ofExt hS1.ext
  have hB1 : Bk w1 g cs 3 := hB.ext hS1.ext
  have hlen : ((l.map intV).drop (i + 1)).length = n - (i + 1) := by rw [List.length_drop, List.length_map]; omega
  have hsrc : ∀ (j : Nat) v, ((l.map intV).drop (i + 1))[j]? = some v → w1.cell? (Addr.add ⟨g, if c = i + 1 then 0 else 0 + (i + 1), none⟩ j) = some v := by
    intro j v hj
    have hjl := (List.getElem?_eq_some_iff.1 hj).1
    rw [hlen] at hjl
    rw [if_neg (by omega), Addr.add_lit]
    rw [List.getElem?_drop, ← hcs _ (by omega)] at hj
    have := hB1.cellO hj
    rwa [Nat.zero_add]
  have hone : ∀ v ∈ (l.map intV).drop (i + 1), v.oneCell' = true := int_one fun v hv => List.mem_of_mem_drop hv
  refine jjV [0, 1, 2, 3, 4, 5] (by decide +kernel) hO1 ?_
  ((repeat' (first|(apply jjT; exact rfl)|rintro w' hq|(apply jI; (first|exact eI rfl|exact eS rfl))|refine jz ?_|exact ⟨rfl, rfl⟩|refine jjU ?_)))
  · refine Ops.sliceXH (hi := i) rfl rfl rfl (by omega) ?_
    refine jz ?_
    exact ⟨rfl, rfl⟩
  · refine Ops.sliceXL (lo := i + 1) rfl rfl rfl (by omega) ?_
    refine jz ?_
    exact ⟨rfl, rfl⟩
  apply jjW 6 (by decide +kernel) rfl hO1
  refine Ops.appendRoom hB1 rfl rfl hlen hsrc hone (by omega) (by omega) ?_
  intro w2 hp2
  refine jz ?_
  have hO2 : Only g w w2 := hO1.trans (.ofPut hp2)
  have hB2 : Bk w2 g (cs.take i ++ (l.map intV).drop (i + 1) ++ cs.drop (i + (n - (i + 1)))) 3 := ⟨hp2.new⟩
  have ha : i + (n - (i + 1)) = n - 1 := by omega
  rw [ha] at hB2 ⊢
  have hti : cs.take i ++ (l.map intV).drop (i + 1) = (l.eraseIdx i).map intV := by
    rw [List.eraseIdx_eq_take_drop_succ, List.map_append, List.map_take, List.map_drop]
    congr 1
    rw [← htk, List.take_take, Nat.min_eq_left (by omega)]
  have hel : ((l.eraseIdx i).map intV).length = n - 1 := by rw [List.length_map, List.length_eraseIdx]; split <;> omega
  rw [hti] at hB2
  have hdl : (cs.drop (n - 1)).length = c - (n - 1) := by rw [List.length_drop]; omega
  refine jjV [7] (by decide +kernel) hO2 ?_
  (((apply jjT; exact rfl; rintro w' hq; apply jJ; exact eS rfl; refine jz ?_; exact ⟨rfl, rfl⟩; refine jjU ?_)))
  refine jjX (by decide +kernel) hO2 ?_
  (refine jjB ?_; refine jjC ?_; apply jI; exact eS rfl; apply jI; exact eS rfl; refine jh rfl ?_; apply jI; exact eI rfl)
  refine Ops.sliceXLH (lo := n - 1) (hi := n) rfl rfl rfl rfl rfl (by omega) (by omega) (by omega) ?_
  skip
  refine Ops.clearB hB2 rfl (by omega) (by rw [List.length_append, hel, hdl]; omega) rfl rfl ?_
  intro w3 hp3
  have hO3 : Only g w w3 := hO2.trans (.ofPut hp3)
  have hB3 : Bk w3 g _ 3 := ⟨hp3.new⟩
  (refine jz ?_; refine jjB ?_; refine jjC ?_; apply jI; exact eS rfl; apply jJ; exact eS rfl; refine jz ?_; refine jjF ?_)
  refine jB rfl rfl ⟨rfl, hO3, OwnL.ofCells hB3 ?_ (by omega) hcm ?_ (by omega) hBg (int_fit _)⟩
  · simp only [List.length_append, List.length_take, List.length_drop, List.length_replicate, hel, hdl]; omega
  · rw [List.append_assoc, List.take_append_of_le_length (by simp only [List.length_append, List.length_take, hel]; omega), List.take_take, Nat.zero_add, Nat.min_self, List.take_append_of_le_length (by omega), List.take_of_length_le (by omega)]

theorem overlaps_int (g b o n c : Nat) (w : World) (x : Int) {cs : List Value} (hB : Bk w g cs 3) (hb : Bk w b [intV x] 3) (hne : b ≠ g) (h0 : 0 < cs.length) :
    (callFunc 96 [.slice (some ⟨b, 0, none⟩) 1 1, .slice (some ⟨g, o, none⟩) n c].toArray).run Tryz.prog w = .ok (.value (.bool false)) w := by
  have hz : TS Tryz.prog 3 _ 1 _ := inferInstance
  have h1 : w.shape? b = some (3, 1) := by simp [World.shape?, hb.h]
  have h2 : w.shape? g = some (3, cs.length) := by simp [World.shape?, hB.h]
  have h3 : w.frozen? ⟨b, 0, none⟩ = false := by simp [World.frozen?, hb.h]
  have h4 : w.frozen? { block := b, off := 1 } = false := by simp [World.frozen?, hb.h]
  rw [run_callFunc_extern Tryz.func96 (by kernel_rfl) (by kernel_rfl) (by kernel_rfl) (e := Extern.SlicesOverlaps.overlaps #[ 26, 26 ] #[ 4 ]) (by kernel_rfl)]
  have := Lib.run_overlaps_apart (P := Tryz.prog) w 26 4 3 Tryz.underlying26 1 (fun w => run_sizeOf' w hz) ⟨b, 0, none⟩ ⟨g, o, none⟩ 1 1 n c hne 3 3 1 cs.length h1 h2 (by omega) h3 h4
  rw [show ([.slice (some ⟨b, 0, none⟩) 1 1, .slice (some ⟨g, o, none⟩) n c] : List Value).toArray = #[.slice (some ⟨b, 0, none⟩) 1 1, .slice (some ⟨g, o, none⟩) n c] from rfl, this]
  rfl

set_option maxHeartbeats 1000000 in
theorem Insert_int (g b n c i : Nat) (l : List Int) (x : Int) (w : World) {B : Nat} (hO : OwnL w B 3 false 1 (.slice (some ⟨g, 0, none⟩) n c) (l.map intV)) (hb : Bk w b [intV x] 3) (hne : b ≠ g) (hi : i ≤ n) (hnc : n + 1 ≤ c) (hn : n ≤ 1000000) :
    Calls Tryz.prog 62 [.slice (some ⟨g, 0, none⟩) n c, .int .i64 (i : Int), .slice (some ⟨b, 0, none⟩) 1 1].toArray w fun e w' => e = .returned (.slice (some ⟨g, 0, none⟩) (n + 1) c) ∧ Only g w w' ∧ OwnL w' B 3 false 1 (.slice (some ⟨g, 0, none⟩) (n + 1) c) ((l.take i ++ x :: l.drop i).map intV) := by
  obtain ⟨cs, hB, hcl, _, hcm, hll, htk, hBg⟩ := hO.cells
  rw [List.length_map] at hll
  have hcs : ∀ j, j < n → cs[j]? = (l.map intV)[j]? := fun j hj => by rw [← htk, List.getElem?_take, if_pos hj]
  have hm63 : maxLen = 9223372036854775807 := rfl
  have hvs : ∀ w' : World, Bk w' b [intV x] 3 → ∀ (j : Nat) v, [intV x][j]? = some v → w'.cell? (Addr.add ⟨b, 0, none⟩ j) = some v := fun w' h j v hj => by
    rw [Addr.add_lit, Nat.zero_add]; exact h.cellO hj
  have hone : ∀ v ∈ [intV x], v.oneCell' = true := by simp; rfl
  refine Calls.ofW (by simp) ?_
  (refine jjB ?_; refine jjC ?_; apply jJ; exact eS rfl; refine jz ?_; refine jjB ?_; refine jjC ?_; apply jI; exact eS rfl; apply jI; exact eI rfl)
  refine Ops.sliceXL (lo := i) rfl rfl rfl hi ?_
  by_cases hin : i = n
  · subst hin
    (refine jz ?_; refine jjB ?_; refine jjC ?_; apply jI; exact eS rfl; refine jh rfl ?_; apply jJ; exact eI rfl; refine jz ?_; refine jjB ?_; refine jjB ?_; refine jjC ?_; apply jI; exact eI rfl; refine jji rfl rfl (by omega) ?_; refine jz ?_; refine jjK rfl ?_; refine jjG ?_; refine jjB ?_; refine jjC ?_; apply jI; exact eS rfl; refine jh rfl ?_; apply jJ; exact eI rfl; refine jz ?_; refine jjB ?_; refine jjB ?_; refine jjC ?_; apply jI; exact eI rfl; apply jI; exact eI rfl; refine jjh rfl rfl (by omega) ?_; refine jz ?_; refine jjJ rfl ?_; refine jjB ?_; refine jjC ?_; apply jI; exact eS rfl; apply jI; exact eS rfl)
    refine Ops.appendRoom (us := [intV x]) hB rfl rfl rfl (hvs _ hb) hone hnc (by omega) ?_
    intro w2 hp2
    have hB2 : Bk w2 g _ 3 := ⟨hp2.new⟩
    (apply jJ; exact eS rfl; refine jz ?_; refine jjF ?_)
    refine jB rfl rfl ⟨rfl, .ofPut hp2, OwnL.ofCells hB2 ?_ hnc hcm ?_ (by omega) hBg (int_fit _)⟩
    · simp only [List.length_append, List.length_take, List.length_drop, List.length_cons, List.length_nil]; omega
    · rw [List.take_of_length_le (l := l) (by omega), List.drop_of_length_le (l := l) (by omega), htk, List.map_append]
      rw [List.take_append_of_le_length (by simp; omega), List.take_of_length_le (by simp; omega)]
      rfl
  · have hlt : i < n := by omega
    (refine jz ?_; refine jjB ?_; refine jjC ?_; apply jI; exact eS rfl; refine jh rfl ?_; apply jJ; exact eI rfl; refine jz ?_; refine jjB ?_; refine jjB ?_; refine jjC ?_; apply jI; exact eI rfl; refine jji rfl rfl (by omega) ?_; refine jz ?_; refine jjK rfl ?_; refine jjG ?_; refine jjB ?_; refine jjC ?_; apply jI; exact eS rfl; refine jh rfl ?_; apply jJ; exact eI rfl; refine jz ?_; refine jjB ?_; refine jjB ?_; refine jjC ?_; apply jI; exact eI rfl; apply jI; exact eI rfl; refine jji rfl rfl (by omega) ?_; refine jz ?_; refine jjK rfl ?_; refine jjG ?_; refine jjB ?_; refine jjB ?_; refine jjC ?_; apply jI; exact eI rfl; apply jI; exact eI rfl; refine jY rfl rfl (by omega) ?_; apply jI; exact eS rfl; refine jl rfl ?_; refine jje rfl rfl (by omega) ?_; refine jz ?_; refine jjK rfl ?_; refine jjG ?_; refine jjB ?_; refine jjC ?_; apply jI; exact eS rfl; apply jI; exact eI rfl; apply jI; exact eI rfl; refine jY rfl rfl (by omega) ?_)
    refine Ops.sliceXH (hi := n + 1) rfl rfl rfl hnc ?_
    (apply jJ; exact eS rfl; refine jz ?_; refine jjB ?_; refine jjB ?_; refine jjC ?_; apply jI; exact eS rfl; apply jI; exact eS rfl; apply jI; exact eI rfl; apply jI; exact eI rfl; refine jY rfl rfl (by omega) ?_)
    refine Ops.sliceXL2 (lo := i + 1) rfl rfl rfl (by omega) (by omega) ?_
    skip
    refine Ops.callX rfl rfl (overlaps_int g b _ _ _ w x hB hb hne (by omega)) ?_
    (refine jq rfl ?_; refine jz ?_; refine jjJ rfl ?_; refine jjB ?_)
    refine W.draw (fun w' => Only g w w') ?_
    intro w1 hS1
    have hO1 : Only g w w1 := .ofExt hS1.ext
    have hB1 : Bk w1 g cs 3 := hB.ext hS1.ext
    refine jjV [0, 1, 2, 3, 4, 5, 6, 7] (by decide +kernel) hO1 ?_
    ((repeat' (first|(apply jjT; exact rfl)|rintro w' hq|(apply jI; (first|exact eI rfl|exact eS rfl))|(refine jW ?_; refine jY rfl rfl (by omega) ?_)|refine jz ?_|exact ⟨rfl, rfl⟩|refine jjU ?_)))
    · refine Ops.sliceXL2 (lo := i + 1) rfl rfl rfl (by omega) (by omega) ?_
      refine jz ?_
      exact ⟨rfl, rfl⟩
    · refine Ops.sliceXL2 (lo := i) rfl rfl rfl (by omega) (by omega) ?_
      refine jz ?_
      exact ⟨rfl, rfl⟩
    have hdl : ((l.map intV).drop i).length = n - i := by rw [List.length_drop, List.length_map]; omega
    have hsrc : ∀ (j : Nat) v, ((l.map intV).drop i)[j]? = some v → w1.cell? (Addr.add ⟨g, 0 + i, none⟩ j) = some v := by
      intro j v hj
      have hjl := (List.getElem?_eq_some_iff.1 hj).1
      rw [hdl] at hjl
      rw [Addr.add_lit]
      rw [List.getElem?_drop, ← hcs _ (by omega)] at hj
      have := hB1.cellO hj
      rwa [Nat.zero_add]
    have hone2 : ∀ v ∈ (l.map intV).drop i, v.oneCell' = true := int_one fun v hv => List.mem_of_mem_drop hv
    apply jjW 8 (by decide +kernel) rfl hO1
    refine Ops.copyB (us := (l.map intV).drop i) hB1 rfl rfl (by rw [hdl]; omega) hsrc hone2 (by rw [hdl]; omega) ?_
    intro w2 hp2
    refine jz ?_
    have hO2 : Only g w w2 := hO1.trans (.ofPut hp2)
    have hB2 : Bk w2 g _ 3 := ⟨hp2.new⟩
    have hb2 : Bk w2 b [intV x] 3 := hp2.bk (hb.ext hS1.ext) hne
    refine jjX (by decide +kernel) hO2 ?_
    (refine jjB ?_; refine jjC ?_; apply jI; exact eS rfl; apply jI; exact eI rfl)
    refine Ops.sliceXL2 (lo := i) rfl rfl rfl (by omega) (by omega) ?_
    (apply jI; exact eS rfl)
    refine Ops.copyB (us := [intV x]) hB2 rfl rfl (by simp; omega) (hvs _ hb2) hone (by simp only [List.length_append, List.length_take, List.length_drop, List.length_cons, List.length_nil, hdl]; omega) ?_
    intro w3 hp3
    have hO3 : Only g w w3 := hO2.trans (.ofPut hp3)
    have hB3 : Bk w3 g _ 3 := ⟨hp3.new⟩
    (refine jz ?_; refine jjB ?_; refine jjC ?_; apply jI; exact eS rfl; apply jJ; exact eS rfl; refine jz ?_; refine jjF ?_)
    refine jB rfl rfl ⟨rfl, hO3, OwnL.ofCells hB3 ?_ hnc hcm ?_ (by omega) hBg (int_fit _)⟩
    · simp only [List.length_append, List.length_take, List.length_drop, List.length_cons, List.length_nil, List.length_map]; omega
    · have h1 : ((l.map intV).drop i).length = l.length - i := by rw [List.length_drop, List.length_map]
      rw [Nat.zero_add, Nat.zero_add]
      generalize hA : cs.take (i + 1) ++ (l.map intV).drop i ++ cs.drop (i + 1 + ((l.map intV).drop i).length) = A
      have hA1 : A.take i = cs.take i := by rw [← hA, List.append_assoc, List.take_append_of_le_length (by rw [List.length_take]; omega), List.take_take, Nat.min_eq_left (by omega)]
      have hA2 : (A.drop (i + 1)).take (n - i) = (l.map intV).drop i := by
        rw [← hA, List.append_assoc, List.drop_append_of_le_length (by rw [List.length_take]; omega), List.drop_of_length_le (by rw [List.length_take]; omega), List.nil_append, List.take_append_of_le_length (by omega), List.take_of_length_le (by omega)]
      have hA3 : cs.take i = (l.take i).map intV := by rw [List.map_take, ← htk, List.take_take, Nat.min_eq_left (by omega)]
      rw [hA1, hA3, List.map_append, List.map_cons, List.map_drop, ← hA2]
      have h2 : ((l.take i).map intV).length = i := by rw [List.length_map, List.length_take]; omega
      rw [List.append_assoc, List.take_append, h2, List.take_of_length_le (by omega)]
      congr 1
      have : n + 1 - i = (n - i) + 1 := by omega
      rw [this]
      rfl

theorem Less_int (x y : Int) (w : World) : Ct Tryz.prog 106 [.int .i64 x, .int .i64 y] w fun v _ => v = .bool (decide (x < y)) := by
  refine Ct.ofW (by simp) ?_
  (refine jjB ?_; refine jjC ?_; apply jJ; exact eB rfl; refine jz ?_; refine jjB ?_; refine jjC ?_; apply jI; exact eI rfl)
  refine jjQ (isNaN_cmp x _) rfl rfl ?_
  rintro _ w2 hS2 rfl
  (apply jI; exact eB rfl; refine jU rfl rfl rfl rfl ?_; refine jU rfl rfl rfl rfl ?_; refine jU rfl rfl rfl rfl ?_; apply jL rfl; exact eB rfl; apply jI; exact eB rfl; refine jT rfl rfl rfl ?_; apply jI; exact eI rfl; refine jT rfl rfl rfl ?_; apply jI; exact eI rfl; refine jT rfl rfl rfl ?_; refine jX rfl rfl ?_; apply jL rfl; exact eB rfl; apply jJ; exact eB rfl; refine jz ?_; refine jjF ?_; refine jB rfl rfl ⟨inferInstance, ?_⟩)
  exact rfl
theorem isNaN_slices (x : Int) (w : World) : Ct Tryz.prog 107 [.int .i64 x] w fun v _ => v = .bool false := by
  refine Ct.ofW (by simp) ?_
  (refine jjB ?_; refine jjC ?_; apply jJ; exact eB rfl; refine jz ?_; refine jjB ?_; refine jjC ?_; apply jI; exact eI rfl; apply jI; exact eI rfl; refine jc rfl rfl ?_; apply jJ; exact eB rfl; refine jz ?_; refine jjF ?_; refine jB rfl rfl ⟨inferInstance, ?_⟩)
  exact congrArg Value.bool (by simp)

set_option maxHeartbeats 1000000 in
theorem BinarySearch_int (a : Option Addr) (c : Nat) (l : List Int) (x : Int) (w : World) (hl : l.length ≤ 1000000) [hrow : RowI w (.slice a l.length c) false 1 (l.map intV)] (hs : ∀ (i j : Nat) (hi : i < l.length) (hj : j < l.length), i ≤ j → l[i] ≤ l[j]) :
    Ct Tryz.prog 75 [.slice a l.length c, .int .i64 x] w fun v _ => ∃ (p : Nat) (q : Bool), v = .tuple #[.int .i64 (p : Int), .bool q] ∧ p ≤ l.length ∧ (∀ (j : Nat) (hj : j < l.length), j < p → l[j] < x) ∧ ∀ (j : Nat) (hj : j < l.length), p ≤ j → x ≤ l[j] := by
  refine Ct.ofW (by simp) ?_
  (refine jjB ?_; refine jjC ?_; apply jJ; exact eI rfl; apply jJ; exact eB rfl; refine jz ?_; refine jjB ?_; refine jjC ?_; apply jI; exact eS rfl; refine jh rfl ?_; apply jJ; exact eI rfl; refine jz ?_; refine jjB ?_; refine jjC ?_; apply jI; exact eI rfl; apply jJ; exact eI rfl; apply jJ; exact eI rfl; refine jz ?_; refine jjB ?_; refine jjD ?_)
  refine W.loop (13 :: 14 :: 15 :: 16 :: 17 :: 18 :: 19 :: 20 :: 21 :: 9 :: 22 :: 23 :: 24 :: 25 :: 26 :: 27 :: 28 :: 29 :: 7 :: 30 :: 8 :: []) (fun g s' _ => ∃ p r : Nat, s' 7 = .int .i64 ((p : Nat) : Int) ∧ s' 8 = .int .i64 ((r : Nat) : Int) ∧ g = r - p ∧ p ≤ r ∧ r ≤ l.length ∧ (∀ (j : Nat) (hj : j < l.length), j < p → l[j] < x) ∧ ∀ (j : Nat) (hj : j < l.length), r ≤ j → x ≤ l[j]) l.length ⟨0, l.length, rfl, rfl, rfl, by omega, by omega, by intros; omega, by intros; omega⟩ ?_
  rintro _ sd w1 hS1 ⟨p, r, h7, h8, rfl, hpr, hrl, hlo, hhi⟩
  refine W.fix h7 (W.fix (d := 8) h8 ?_)
  clear h7 h8
  by_cases hlt : p < r
  · (refine jjB ?_; refine jjB ?_; refine jjC ?_; apply jI; exact eI rfl; apply jI; exact eI rfl; refine jjZ rfl rfl (by omega) ?_; refine jz ?_; refine jjJ rfl ?_; refine jjG ?_; refine jjD ?_; refine jjB ?_; refine jjC ?_; apply jI; exact eI rfl; apply jI; exact eI rfl; refine jY rfl rfl (by omega) ?_)
    refine Ops.convI rfl rfl (wrap64 (by omega) (by omega)) ?_
    refine Ops.half (a := p + r) rfl (by omega) rfl ?_
    refine Ops.convI rfl rfl (wrapi (by omega) (by omega)) ?_
    obtain ⟨q, hq⟩ : ∃ q, (p + r) / 2 = q := ⟨_, rfl⟩
    have hq1 : p ≤ q := by omega
    have hq2 : q < r := by omega
    refine Ops.fix (d := 21) (v := .int .i64 ((q : Nat) : Int)) (congrArg (Value.int .i64) (congrArg Nat.cast hq)) ?_
    clear hq
    have hql : q < l.length := by omega
    (apply jJ; exact eI rfl; refine jz ?_; refine jjB ?_; refine jjC ?_; apply jI; exact eS rfl; apply jI; exact eI rfl; refine jF rfl rfl rfl (map_get (by omega)) ?_; intro _ _ _; refine jQ rfl rfl ?_; apply jI; exact eI rfl)
    refine jjQ (Less_int l[q] x _) rfl rfl ?_
    rintro _ w2 hS2 rfl
    repeat' (first|((first|apply jI|apply jJ); exact eI rfl)|(refine jW ?_; refine jY rfl rfl (by omega) ?_)|refine jz ?_|(refine jjA ?_; refine jjC ?_)|(refine jjA ?_; (refine jjN rfl ?_ ?_ <;> intro _)))
    · have hlx : l[q] < x := by assumption
      refine ⟨rfl, by ((refine Same.upd rfl ?_; refine Same.upd rfl ?_; refine Same.upd rfl ?_; refine Same.upd rfl ?_; refine Same.upd rfl ?_; refine Same.upd rfl ?_; refine Same.upd rfl ?_; refine Same.upd rfl ?_; refine Same.upd rfl ?_; refine Same.upd rfl ?_; refine Same.upd rfl ?_; refine Same.upd rfl ?_; refine Same.upd rfl ?_; refine Same.upd rfl ?_; refine Same.upd rfl ?_; refine Same.upd rfl ?_; refine Same.upd rfl ?_; refine Same.upd rfl ?_; refine Same.upd rfl ?_; refine Same.upd rfl ?_; refine Same.upd rfl ?_; refine Same.upd rfl ?_; exact Same.ovN)), r - (q + 1), by omega, inferInstance, q + 1, r, congrArg (Value.int .i64) (by omega), rfl, rfl, by omega, hrl, fun j hj hjq => ?_, hhi⟩
      have := hs j q hj hql (by omega)
      omega
    · have hlx : ¬ l[q] < x := by assumption
      refine ⟨rfl, by ((refine Same.upd rfl ?_; refine Same.upd rfl ?_; refine Same.upd rfl ?_; refine Same.upd rfl ?_; refine Same.upd rfl ?_; refine Same.upd rfl ?_; refine Same.upd rfl ?_; refine Same.upd rfl ?_; refine Same.upd rfl ?_; refine Same.upd rfl ?_; refine Same.upd rfl ?_; refine Same.upd rfl ?_; refine Same.upd rfl ?_; refine Same.upd rfl ?_; refine Same.upd rfl ?_; refine Same.upd rfl ?_; refine Same.upd rfl ?_; refine Same.upd rfl ?_; refine Same.upd rfl ?_; refine Same.upd rfl ?_; refine Same.upd rfl ?_; exact Same.ovN)), q - p, by omega, inferInstance, p, q, rfl, rfl, rfl, by omega, by omega, hlo, fun j hj hjq => ?_⟩
      have := hs q j hql hj (by omega)
      omega
  · obtain rfl : p = r := by omega
    by_cases hpl : p < l.length
    · by_cases hx : l[p] = x
      · (refine jjB ?_; refine jjB ?_; refine jjC ?_; apply jI; exact eI rfl; apply jI; exact eI rfl; refine jja rfl rfl (by omega) ?_; refine jz ?_; refine jjK rfl ?_; refine jjE ?_; refine jjB ?_; refine jjC ?_; apply jI; exact eI rfl; apply jI; exact eI rfl; apply jI; exact eI rfl; refine jjZ rfl rfl (by omega) ?_; apply jI; exact eB rfl; refine jT rfl rfl rfl ?_; apply jI; exact eS rfl; refine jT rfl rfl rfl ?_; apply jI; exact eI rfl; refine jT rfl rfl rfl ?_; refine jF rfl rfl rfl (map_get (by omega)) ?_; intro _ _ _; refine jT rfl rfl rfl ?_; refine jQ rfl rfl ?_; refine jT rfl rfl rfl ?_; apply jI; exact eI rfl; refine jT rfl rfl rfl ?_; refine jjh rfl rfl (by omega) ?_; refine jT rfl rfl rfl ?_; apply jI; exact eB rfl; refine jU rfl rfl rfl rfl ?_; refine jU rfl rfl rfl rfl ?_; refine jU rfl rfl rfl rfl ?_; refine jU rfl rfl rfl rfl ?_; refine jU rfl rfl rfl rfl ?_; refine jU rfl rfl rfl rfl ?_; refine jV rfl rfl ?_; refine jV rfl rfl ?_; refine jU rfl rfl rfl rfl ?_; refine jT rfl rfl rfl ?_; apply jK rfl; exact eB rfl; apply jK rfl; exact eB rfl; apply jJ; exact eI rfl; apply jJ; exact eB rfl; refine jz ?_; refine jjF ?_; refine jC rfl rfl rfl ⟨inferInstance, ?_⟩)
        exact ⟨p, true, rfl, hrl, hlo, hhi⟩
      · (refine jjB ?_; refine jjB ?_; refine jjC ?_; apply jI; exact eI rfl; apply jI; exact eI rfl; refine jja rfl rfl (by omega) ?_; refine jz ?_; refine jjK rfl ?_; refine jjE ?_; refine jjB ?_; refine jjC ?_; apply jI; exact eI rfl; apply jI; exact eI rfl; apply jI; exact eI rfl; refine jjZ rfl rfl (by omega) ?_; apply jI; exact eB rfl; refine jT rfl rfl rfl ?_; apply jI; exact eS rfl; refine jT rfl rfl rfl ?_; apply jI; exact eI rfl; refine jT rfl rfl rfl ?_; refine jF rfl rfl rfl (map_get (by omega)) ?_; intro _ _ _; refine jT rfl rfl rfl ?_; refine jQ rfl rfl ?_; refine jT rfl rfl rfl ?_; apply jI; exact eI rfl; refine jT rfl rfl rfl ?_; refine jji rfl rfl (by omega) ?_; refine jT rfl rfl rfl ?_; apply jI; exact eB rfl; refine jT rfl rfl rfl ?_; apply jI; exact eS rfl; refine jT rfl rfl rfl ?_; apply jI; exact eI rfl; refine jT rfl rfl rfl ?_; refine jF rfl rfl rfl (map_get (by omega)) ?_; intro _ _ _; refine jT rfl rfl rfl ?_; refine jQ rfl rfl ?_; refine jT rfl rfl rfl ?_)
        refine jjQ (isNaN_slices l[p] _) rfl rfl ?_
        rintro _ w2 hS2 rfl
        (refine jT rfl rfl rfl ?_; apply jI; exact eB rfl; refine jU rfl rfl rfl rfl ?_; refine jU rfl rfl rfl rfl ?_; refine jT rfl rfl rfl ?_; apply jL rfl; exact eB rfl; refine jT rfl rfl rfl ?_; apply jL rfl; exact eB rfl; apply jK rfl; exact eB rfl; apply jJ; exact eI rfl; apply jJ; exact eB rfl; refine jz ?_; refine jjF ?_; refine jC rfl rfl rfl ⟨inferInstance, ?_⟩)
        exact ⟨p, _, rfl, hrl, hlo, hhi⟩
    · (refine jjB ?_; refine jjB ?_; refine jjC ?_; apply jI; exact eI rfl; apply jI; exact eI rfl; refine jja rfl rfl (by omega) ?_; refine jz ?_; refine jjK rfl ?_; refine jjE ?_; refine jjB ?_; refine jjC ?_; apply jI; exact eI rfl; apply jI; exact eI rfl; apply jI; exact eI rfl; refine jja rfl rfl (by omega) ?_; apply jI; exact eB rfl; refine jU rfl rfl rfl rfl ?_; refine jU rfl rfl rfl rfl ?_; refine jU rfl rfl rfl rfl ?_; refine jU rfl rfl rfl rfl ?_; refine jU rfl rfl rfl rfl ?_; refine jU rfl rfl rfl rfl ?_; refine jU rfl rfl rfl rfl ?_; refine jV rfl rfl ?_; refine jV rfl rfl ?_; refine jV rfl rfl ?_; refine jV rfl rfl ?_; refine jV rfl rfl ?_; refine jV rfl rfl ?_; refine jV rfl rfl ?_; refine jV rfl rfl ?_; refine jV rfl rfl ?_; refine jU rfl rfl rfl rfl ?_; apply jL rfl; exact eB rfl; apply jJ; exact eI rfl; apply jJ; exact eB rfl; refine jz ?_; refine jjF ?_; refine jC rfl rfl rfl ⟨inferInstance, ?_⟩)
      exact ⟨p, _, rfl, hrl, hlo, hhi⟩

/-- How two rows of numbers compare. -/
def lexC : List Int → List Int → Int
  | [], [] => 0
  | [], _ :: _ => -1
  | _ :: _, [] => 1
  | x :: xs, y :: ys => if x < y then -1 else if y < x then 1 else lexC xs ys
theorem lexC_drop {l m : List Int} {j : Nat} (h1 : j < l.length) (h2 : j < m.length) : lexC (l.drop j) (m.drop j) = if l[j] < m[j] then -1 else if m[j] < l[j] then 1 else lexC (l.drop (j + 1)) (m.drop (j + 1)) := by
  rw [List.drop_eq_getElem_cons h1, List.drop_eq_getElem_cons h2, lexC]
theorem lexC_end1 {l m : List Int} {j : Nat} (h1 : l.length ≤ j) (h2 : j < m.length) : lexC (l.drop j) (m.drop j) = -1 := by
  rw [List.drop_of_length_le h1, List.drop_eq_getElem_cons h2, lexC]
theorem lexC_end2 {l m : List Int} {j : Nat} (h1 : j < l.length) (h2 : m.length ≤ j) : lexC (l.drop j) (m.drop j) = 1 := by
  rw [List.drop_of_length_le h2, List.drop_eq_getElem_cons h1, lexC]
theorem lexC_end3 {l m : List Int} {j : Nat} (h1 : l.length ≤ j) (h2 : m.length ≤ j) : lexC (l.drop j) (m.drop j) = 0 := by
  rw [List.drop_of_length_le h2, List.drop_of_length_le h1, lexC]

set_option maxHeartbeats 1000000 in
theorem CompareS_int (a b : Option Addr) (c e : Nat) (l m : List Int) (w : World) (hl : l.length ≤ 1000000) [h1 : RowI w (.slice a l.length c) false 1 (l.map intV)] [h2 : RowI w (.slice b m.length e) false 1 (m.map intV)] :
    Ct Tryz.prog 103 [.slice a l.length c, .slice b m.length e] w fun v _ => v = .int .i64 (lexC l m) := by
  refine Ct.ofW (by simp) ?_
  (refine jjB ?_; refine jjC ?_; apply jJ; exact eI rfl; refine jz ?_; refine jjB ?_; refine jjB ?_; refine jjC ?_; apply jI; exact eS rfl; refine jh rfl ?_; apply jI; exact eI rfl; refine jz ?_; refine jjD ?_)
  refine W.loop (12 :: 13 :: 14 :: 15 :: 5 :: 6 :: 16 :: 17 :: 18 :: 19 :: 4 :: 20 :: 21 :: 22 :: 23 :: 7 :: 24 :: 25 :: 26 :: 8 :: 27 :: 28 :: 29 :: 30 :: 11 :: []) (fun g s' _ => ∃ j : Nat, s' 11 = .int .i64 ((j : Nat) : Int) ∧ g = l.length - j ∧ j ≤ l.length ∧ j ≤ m.length ∧ lexC l m = lexC (l.drop j) (m.drop j)) l.length ⟨0, rfl, rfl, by omega, by omega, rfl⟩ ?_
  rintro _ sd w1 hS1 ⟨j, h11, rfl, hj, hjm, he⟩
  refine W.fix h11 ?_
  clear h11
  rw [he]
  by_cases hjl : j < l.length
  · by_cases hm : j < m.length
    · rw [lexC_drop hjl hm]
      by_cases c1 : l[j] < m[j]
      · rw [if_pos c1]
        (refine jjB ?_; refine jjC ?_; refine jjZ rfl rfl (by omega) ?_; refine jz ?_; refine jjB ?_; refine jjJ rfl ?_; refine jjG ?_; refine jjB ?_; refine jjD ?_; refine jjB ?_; refine jjC ?_; apply jI; exact eI rfl; refine jF rfl rfl rfl (map_get (by omega)) ?_; intro _ _ _; refine jQ rfl rfl ?_; apply jJ; exact eI rfl; apply jJ; exact eI rfl; refine jz ?_; refine jjB ?_; refine jjB ?_; refine jjC ?_; apply jI; exact eI rfl; apply jI; exact eS rfl; refine jh rfl ?_; refine jjg rfl rfl (by omega) ?_; refine jz ?_; refine jjK rfl ?_; refine jjG ?_; refine jjB ?_; refine jjC ?_; apply jI; exact eS rfl; apply jI; exact eI rfl; refine jF rfl rfl rfl (map_get (by omega)) ?_; intro _ _ _; refine jQ rfl rfl ?_; apply jJ; exact eI rfl; refine jz ?_; refine jjB ?_; refine jjC ?_; apply jI; exact eI rfl; apply jI; exact eI rfl)
        refine jjQ ((Compare_int l[j] m[j] _).mono fun v _ _ e' => e'.trans (by rw [if_pos c1])) rfl rfl ?_
        rintro _ w2 hS2 rfl
        (apply jJ; exact eI rfl; refine jz ?_; refine jjB ?_; refine jjC ?_; apply jI; exact eI rfl; refine jjj rfl rfl (by omega) ?_; refine jz ?_; refine jjJ rfl ?_; refine jjB ?_; refine jjC ?_; apply jI; exact eI rfl; apply jJ; exact eI rfl; refine jz ?_; refine jjF ?_; refine jB rfl rfl ⟨inferInstance, ?_⟩)
        exact rfl
      · rw [if_neg c1]
        by_cases c2 : m[j] < l[j]
        · rw [if_pos c2]
          (refine jjB ?_; refine jjC ?_; refine jjZ rfl rfl (by omega) ?_; refine jz ?_; refine jjB ?_; refine jjJ rfl ?_; refine jjG ?_; refine jjB ?_; refine jjD ?_; refine jjB ?_; refine jjC ?_; apply jI; exact eI rfl; refine jF rfl rfl rfl (map_get (by omega)) ?_; intro _ _ _; refine jQ rfl rfl ?_; apply jJ; exact eI rfl; apply jJ; exact eI rfl; refine jz ?_; refine jjB ?_; refine jjB ?_; refine jjC ?_; apply jI; exact eI rfl; apply jI; exact eS rfl; refine jh rfl ?_; refine jjg rfl rfl (by omega) ?_; refine jz ?_; refine jjK rfl ?_; refine jjG ?_; refine jjB ?_; refine jjC ?_; apply jI; exact eS rfl; apply jI; exact eI rfl; refine jF rfl rfl rfl (map_get (by omega)) ?_; intro _ _ _; refine jQ rfl rfl ?_; apply jJ; exact eI rfl; refine jz ?_; refine jjB ?_; refine jjC ?_; apply jI; exact eI rfl; apply jI; exact eI rfl)
          refine jjQ ((Compare_int l[j] m[j] _).mono fun v _ _ e' => e'.trans (by rw [if_neg c1, if_pos c2])) rfl rfl ?_
          rintro _ w2 hS2 rfl
          (apply jJ; exact eI rfl; refine jz ?_; refine jjB ?_; refine jjC ?_; apply jI; exact eI rfl; refine jjj rfl rfl (by omega) ?_; refine jz ?_; refine jjJ rfl ?_; refine jjB ?_; refine jjC ?_; apply jI; exact eI rfl; apply jJ; exact eI rfl; refine jz ?_; refine jjF ?_; refine jB rfl rfl ⟨inferInstance, ?_⟩)
          exact rfl
        · rw [if_neg c2]
          (refine jjB ?_; refine jjC ?_; refine jjZ rfl rfl (by omega) ?_; refine jz ?_; refine jjB ?_; refine jjJ rfl ?_; refine jjG ?_; refine jjB ?_; refine jjD ?_; refine jjB ?_; refine jjC ?_; apply jI; exact eI rfl; refine jF rfl rfl rfl (map_get (by omega)) ?_; intro _ _ _; refine jQ rfl rfl ?_; apply jJ; exact eI rfl; apply jJ; exact eI rfl; refine jz ?_; refine jjB ?_; refine jjB ?_; refine jjC ?_; apply jI; exact eI rfl; apply jI; exact eS rfl; refine jh rfl ?_; refine jjg rfl rfl (by omega) ?_; refine jz ?_; refine jjK rfl ?_; refine jjG ?_; refine jjB ?_; refine jjC ?_; apply jI; exact eS rfl; apply jI; exact eI rfl; refine jF rfl rfl rfl (map_get (by omega)) ?_; intro _ _ _; refine jQ rfl rfl ?_; apply jJ; exact eI rfl; refine jz ?_; refine jjB ?_; refine jjC ?_; apply jI; exact eI rfl; apply jI; exact eI rfl)
          refine jjQ ((Compare_int l[j] m[j] _).mono fun v _ _ e' => e'.trans (by rw [if_neg c1, if_neg c2])) rfl rfl ?_
          rintro _ w2 hS2 rfl
          (apply jJ; exact eI rfl; refine jz ?_; refine jjB ?_; refine jjC ?_; apply jI; exact eI rfl; refine jjk rfl rfl (by omega) ?_; refine jz ?_; refine jjK rfl ?_; refine jjG ?_; refine jjC ?_; refine jY rfl rfl (by omega) ?_; apply jI; exact eI rfl; refine jz ?_)
          refine ⟨rfl, by ((refine Same.upd rfl ?_; refine Same.upd rfl ?_; refine Same.upd rfl ?_; refine Same.upd rfl ?_; refine Same.upd rfl ?_; refine Same.upd rfl ?_; refine Same.upd rfl ?_; refine Same.upd rfl ?_; refine Same.upd rfl ?_; refine Same.upd rfl ?_; refine Same.upd rfl ?_; refine Same.upd rfl ?_; refine Same.upd rfl ?_; refine Same.upd rfl ?_; refine Same.upd rfl ?_; refine Same.upd rfl ?_; refine Same.upd rfl ?_; refine Same.upd rfl ?_; refine Same.upd rfl ?_; refine Same.upd rfl ?_; refine Same.upd rfl ?_; refine Same.upd rfl ?_; refine Same.upd rfl ?_; refine Same.upd rfl ?_; exact Same.ovN)), l.length - (j + 1), by omega, inferInstance, j + 1, congrArg (Value.int .i64) (by omega), rfl, by omega, by omega, ?_⟩
          rfl
    · rw [lexC_end2 hjl (by omega)]
      (refine jjB ?_; refine jjC ?_; refine jjZ rfl rfl (by omega) ?_; refine jz ?_; refine jjB ?_; refine jjJ rfl ?_; refine jjG ?_; refine jjB ?_; refine jjD ?_; refine jjB ?_; refine jjC ?_; apply jI; exact eI rfl; refine jF rfl rfl rfl (map_get (by omega)) ?_; intro _ _ _; refine jQ rfl rfl ?_; apply jJ; exact eI rfl; apply jJ; exact eI rfl; refine jz ?_; refine jjB ?_; refine jjB ?_; refine jjC ?_; apply jI; exact eI rfl; apply jI; exact eS rfl; refine jh rfl ?_; refine jjf rfl rfl (by omega) ?_; refine jz ?_; refine jjJ rfl ?_; refine jjB ?_; refine jjC ?_; apply jJ; exact eI rfl; refine jz ?_; refine jjF ?_; refine jB rfl rfl ⟨inferInstance, ?_⟩)
      exact rfl
  · by_cases hm : j < m.length
    · rw [lexC_end1 (by omega) hm]
      (refine jjB ?_; refine jjC ?_; refine jja rfl rfl (by omega) ?_; refine jz ?_; refine jjB ?_; refine jjK rfl ?_; refine jjE ?_; refine jjB ?_; refine jjB ?_; refine jjC ?_; apply jI; exact eS rfl; refine jh rfl ?_; apply jI; exact eS rfl; refine jh rfl ?_; refine jjZ rfl rfl (by omega) ?_; refine jz ?_; refine jjJ rfl ?_; refine jjB ?_; refine jjC ?_; apply jJ; exact eI rfl; refine jz ?_; refine jjF ?_; refine jB rfl rfl ⟨inferInstance, ?_⟩)
      exact rfl
    · rw [lexC_end3 (by omega) (by omega)]
      (refine jjB ?_; refine jjC ?_; refine jja rfl rfl (by omega) ?_; refine jz ?_; refine jjB ?_; refine jjK rfl ?_; refine jjE ?_; refine jjB ?_; refine jjB ?_; refine jjC ?_; apply jI; exact eS rfl; refine jh rfl ?_; apply jI; exact eS rfl; refine jh rfl ?_; refine jja rfl rfl (by omega) ?_; refine jz ?_; refine jjK rfl ?_; refine jjG ?_; refine jjB ?_; refine jjC ?_; apply jJ; exact eI rfl; refine jz ?_; refine jjF ?_; refine jB rfl rfl ⟨inferInstance, ?_⟩)
      exact rfl
end Go.Proofs.YtpijeomnplmakaaGreatDoor

/- What is kept, in plain Lean. -/
namespace Go.Proofs.YtpijeomnplmakaaGreatDoor
open Go.RowKit

/-- How many slips whose ranks do not fall begin with each one, at most. -/
structure BegR (d C : List Int) : Prop where
  len : C.length = d.length
  pos : ∀ i, i < d.length → 1 ≤ gd C i
  up : ∀ i k, i < k → k < d.length → gd d i ≤ gd d k → gd C k + 1 ≤ gd C i
  ex : ∀ i, i < d.length → gd C i = 1 ∨ ∃ k, i < k ∧ k < d.length ∧ gd d i ≤ gd d k ∧ gd C i = gd C k + 1
theorem BegR.uniq {d C C' : List Int} (h : BegR d C) (g : BegR d C') : C = C' := by
  refine ext_gd (h.len.trans g.len.symm) fun i hi => ?_
  rw [h.len] at hi
  obtain ⟨m, hm⟩ : ∃ m, m = d.length - i := ⟨_, rfl⟩
  induction m using Nat.strongRecOn generalizing i with
  | ind m ih =>
    have h1 : gd C i ≤ gd C' i := by
      rcases h.ex i hi with e | ⟨k, hk, hk2, hd, e⟩
      · have := g.pos i hi; omega
      · have := g.up i k hk hk2 hd
        have := ih (d.length - k) (by omega) k hk2 rfl; omega
    have h2 : gd C' i ≤ gd C i := by
      rcases g.ex i hi with e | ⟨k, hk, hk2, hd, e⟩
      · have := h.pos i hi; omega
      · have := h.up i k hk hk2 hd
        have := ih (d.length - k) (by omega) k hk2 rfl; omega
    omega
theorem BegR.le {d C : List Int} (h : BegR d C) : ∀ i, i < d.length → gd C i ≤ d.length - i := by
  intro i hi
  obtain ⟨m, hm⟩ : ∃ m, m = d.length - i := ⟨_, rfl⟩
  induction m using Nat.strongRecOn generalizing i with
  | ind m ih =>
    rcases h.ex i hi with e | ⟨k, hk, hk2, hd, e⟩
    · omega
    · have := ih (d.length - k) (by omega) k hk2 rfl; omega

/-- The numbers from i to before n. -/
abbrev upR (i n : Nat) : List Nat := List.range' i (n - i)
theorem upR_nil {i n : Nat} (h : n ≤ i) : upR i n = [] := by rw [upR, Nat.sub_eq_zero_of_le h]; rfl
theorem upR_mem {i n k : Nat} : k ∈ upR i n ↔ i ≤ k ∧ k < n := by rw [upR, List.mem_range'_1]; omega
/-- Slip k comes behind slip i, of as many as are left. -/
def nxB (d C : List Int) (last : Option Nat) (left : Int) (k : Nat) : Bool := decide (gd C k = left) && (match last with | none => true | some j => decide (gd d j ≤ gd d k))
def nextK (d C : List Int) (i : Nat) : Option Nat := (upR (i + 1) d.length).find? (nxB d C (some i) (gd C i - 1))
theorem nextK_some {d C : List Int} {i k : Nat} (h : nextK d C i = some k) : i < k ∧ k < d.length ∧ gd C k = gd C i - 1 ∧ gd d i ≤ gd d k := by
  have h1 := upR_mem.1 (List.mem_of_find?_eq_some h)
  have h2 := List.find?_some h
  simp only [nxB, Bool.and_eq_true, decide_eq_true_eq] at h2
  exact ⟨by omega, h1.2, h2.1, h2.2⟩
def pathF (d C : List Int) : Nat → Nat → List Int
  | 0, _ => []
  | f + 1, i => (i : Int) :: (match nextK d C i with | none => [] | some k => pathF d C f k)
theorem pathF_stable (d C : List Int) : ∀ (m i f g : Nat), d.length - i = m → m ≤ f → m ≤ g → i < d.length → pathF d C f i = pathF d C g i := by
  intro m
  induction m using Nat.strongRecOn with
  | ind m ih =>
    intro i f g hm hf hg hi
    obtain ⟨f', rfl⟩ : ∃ f', f = f' + 1 := ⟨f - 1, by omega⟩
    obtain ⟨g', rfl⟩ : ∃ g', g = g' + 1 := ⟨g - 1, by omega⟩
    rw [pathF, pathF]
    cases hk : nextK d C i with
    | none => rfl
    | some k =>
      have := nextK_some hk
      simp only
      rw [ih (d.length - k) (by omega) k f' g' rfl (by omega) (by omega) this.2.1]
/-- The best slips that begin with slip i. -/
def pathK (d C : List Int) (i : Nat) : List Int := pathF d C d.length i
theorem pathK_eq {d C : List Int} {i : Nat} (hi : i < d.length) : pathK d C i = (i : Int) :: ((nextK d C i).map (pathK d C)).getD [] := by
  obtain ⟨n, hn⟩ : ∃ n, d.length = n + 1 := ⟨d.length - 1, by omega⟩
  rw [pathK, hn, pathF]
  cases hk : nextK d C i with
  | none => rfl
  | some k =>
    have := nextK_some hk
    simp only [Option.map_some, Option.getD_some]
    rw [pathK, pathF_stable d C (d.length - k) k n d.length rfl (by omega) (by omega) this.2.1]
theorem find_none {p : Nat → Bool} {i n : Nat} (h : (upR i n).find? p = none) : ∀ k, i ≤ k → k < n → p k = false := by
  intro k h1 h2
  rw [List.find?_eq_none] at h
  simpa using h k (upR_mem.2 ⟨h1, h2⟩)
theorem nextK_none {d C : List Int} (h : BegR d C) {i : Nat} (hi : i < d.length) (hn : nextK d C i = none) : gd C i = 1 := by
  rcases h.ex i hi with e | ⟨k, hk, hk2, hd, e⟩
  · exact e
  · have := find_none hn k (by omega) hk2
    simp only [nxB, Bool.and_eq_false_iff, decide_eq_false_iff_not] at this
    rcases this with this | this
    · omega
    · exact absurd hd this
theorem pathK_len {d C : List Int} (h : BegR d C) : ∀ i, i < d.length → ((pathK d C i).length : Int) = gd C i := by
  intro i hi
  obtain ⟨m, hm⟩ : ∃ m, m = d.length - i := ⟨_, rfl⟩
  induction m using Nat.strongRecOn generalizing i with
  | ind m ih =>
    rw [pathK_eq hi]
    cases hk : nextK d C i with
    | none => rw [nextK_none h hi hk]; rfl
    | some k =>
      have h1 := nextK_some hk
      have := ih (d.length - k) (by omega) k h1.2.1 rfl
      simp only [Option.map_some, Option.getD_some, List.length_cons]
      omega

/-- A row is better: longer, or as long and lower. -/
def longB (a b : List Int) : Bool := decide (b.length < a.length) || (decide (a.length = b.length) && decide (lexC a b < 0))
def betS (b x : List Int) : List Int := if longB x b then x else b
/-- The first one of rows of which none is better. -/
def firstF : List (List Int) → List Int
  | [] => []
  | x :: xs => xs.foldl betS x
theorem longB_longer {a b : List Int} (h : b.length < a.length) : longB a b = true := by simp [longB, h]
theorem longB_shorter {a b : List Int} (h : a.length < b.length) : longB a b = false := by
  simp only [longB, Bool.or_eq_false_iff, decide_eq_false_iff_not, Bool.and_eq_false_iff]
  exact ⟨by omega, .inl (by omega)⟩
theorem longB_first {a b : List Int} {x y : Int} (h : a.length = b.length) (hxy : y < x) : longB (x :: a) (y :: b) = false := by
  simp only [longB, Bool.or_eq_false_iff, decide_eq_false_iff_not, Bool.and_eq_false_iff, List.length_cons]
  refine ⟨by omega, .inr ?_⟩
  rw [lexC, if_neg (by omega), if_pos hxy]; omega

section
variable {d C : List Int} (h : BegR d C)
include h
theorem fold_low {T : Nat} : ∀ (ks : List Nat) (b : List Int), (∀ k ∈ ks, k < d.length ∧ gd C k < T) → b.length < T → ((ks.map (pathK d C)).foldl betS b).length < T := by
  intro ks
  induction ks with
  | nil => intro b _ hb; exact hb
  | cons k ks ih =>
    intro b hk hb
    rw [List.map_cons, List.foldl_cons]
    refine ih _ (fun x hx => hk x (List.mem_cons_of_mem _ hx)) ?_
    have h1 := hk k List.mem_cons_self
    have := pathK_len h k h1.1
    rw [betS]
    split <;> omega
theorem fold_top {T : Nat} {m : Nat} (hm : m < d.length) (hT : gd C m = T) : ∀ (ks : List Nat), (∀ k ∈ ks, m < k ∧ k < d.length ∧ gd C k ≤ T) → (ks.map (pathK d C)).foldl betS (pathK d C m) = pathK d C m := by
  intro ks
  induction ks with
  | nil => intro _; rfl
  | cons k ks ih =>
    intro hk
    rw [List.map_cons, List.foldl_cons]
    have h1 := hk k List.mem_cons_self
    have e1 := pathK_len h k h1.2.1
    have e2 := pathK_len h m hm
    have hb : longB (pathK d C k) (pathK d C m) = false := by
      rcases Int.lt_or_eq_of_le h1.2.2 with h2 | h2
      · exact longB_shorter (by omega)
      · rw [pathK_eq h1.2.1] at e1 ⊢
        rw [pathK_eq hm] at e2 ⊢
        simp only [List.length_cons] at e1 e2
        exact longB_first (by omega) (by omega)
    rw [betS, hb]
    exact ih fun x hx => hk x (List.mem_cons_of_mem _ hx)
/-- The best one of several is the first one of the longest. -/
theorem first_find {T : Nat} (hT : 1 ≤ T) {i n : Nat} (hn : n ≤ d.length) {p : Nat → Bool} {m : Nat} (hle : ∀ k, i ≤ k → k < n → p k = true → gd C k ≤ T) (hf : (upR i n).find? (fun k => p k && decide (gd C k = T)) = some m) :
    firstF ([] :: ((upR i n).filter p).map (pathK d C)) = pathK d C m := by
  have hf' : ((upR i n).filter p).find? (fun k => decide (gd C k = T)) = some m := by
    rw [List.find?_filter, ← hf]
    congr 1
    funext k
    cases p k <;> simp
  rw [List.find?_eq_some_iff_append] at hf'
  obtain ⟨h1, us, vs, h2, h3⟩ := hf'
  rw [firstF, h2, List.map_append, List.foldl_append, List.map_cons, List.foldl_cons]
  have hmem : ∀ k, k ∈ us ++ m :: vs → i ≤ k ∧ k < n ∧ p k = true := fun k hk => by
    rw [← h2, List.mem_filter, upR_mem] at hk
    exact ⟨hk.1.1, hk.1.2, hk.2⟩
  have hsort : (us ++ m :: vs).Pairwise (· < ·) := by
    rw [← h2]
    exact (List.pairwise_lt_range' (s := i) (n := n - i)).filter _
  rw [List.pairwise_append, List.pairwise_cons] at hsort
  have hm := hmem m (by simp)
  simp only [decide_eq_true_eq] at h1
  have hlow := fold_low h (T := T) us [] (fun k hk => by
    have := hmem k (by simp [hk])
    have h4 := h3 k hk
    simp only [Bool.not_eq_true', decide_eq_false_iff_not] at h4
    have := hle k this.1 this.2.1 this.2.2
    exact ⟨by omega, by omega⟩) (by simp; omega)
  have e2 := pathK_len h m (by omega)
  rw [betS, longB_longer (by omega), if_pos rfl]
  exact fold_top h (by omega) h1 vs fun k hk => by
    have := hmem k (by simp [hk])
    have := hle k this.1 this.2.1 this.2.2
    exact ⟨hsort.2.1.1 k hk, by omega, this⟩
/-- What the recursion makes. -/
theorem pathK_first {i : Nat} (hi : i < d.length) : pathK d C i = (i : Int) :: firstF ([] :: ((upR (i + 1) d.length).filter fun k => decide (gd d i ≤ gd d k)).map (pathK d C)) := by
  rw [pathK_eq hi]
  congr 1
  cases hk : nextK d C i with
  | none =>
    have h1 := nextK_none h hi hk
    have : (upR (i + 1) d.length).filter (fun k => decide (gd d i ≤ gd d k)) = [] := by
      rw [List.filter_eq_nil_iff]
      intro k hk
      rw [upR_mem] at hk
      simp only [decide_eq_true_eq]
      intro hd
      have := h.up i k (by omega) hk.2 hd
      have := h.pos k hk.2
      omega
    rw [this]; rfl
  | some m =>
    have h1 := nextK_some hk
    have hp := h.pos m h1.2.1
    obtain ⟨T, hT⟩ : ∃ T : Nat, gd C i - 1 = (T : Int) := ⟨(gd C i - 1).toNat, by omega⟩
    refine (first_find h (T := T) (by omega) (Nat.le_refl _) (fun k h2 h3 h4 => ?_) ?_).symm
    · simp only [decide_eq_true_eq] at h4
      have := h.up i k (by omega) h3 h4
      omega
    · rw [← hk, nextK]
      congr 1
      funext k
      simp only [nxB, ← hT]
      rw [Bool.and_comm]
end
theorem firstF_snoc {l : List (List Int)} (h : l ≠ []) (y : List Int) : firstF (l ++ [y]) = betS (firstF l) y := by
  cases l with
  | nil => exact absurd rfl h
  | cons x l => simp [firstF]
theorem upR_snoc {i k : Nat} (h : i ≤ k) : upR i (k + 1) = upR i k ++ [k] := by
  rw [upR, upR, show k + 1 - i = (k - i) + 1 by omega, List.range'_concat]
  congr 2; omega
/-- What is kept. -/
def keepK (d C : List Int) : List Int := firstF ([] :: (upR 0 d.length).map (pathK d C))
def maxC (C : List Int) : Int := C.foldl max 0
theorem maxC_ge (C : List Int) : 0 ≤ maxC C ∧ ∀ x ∈ C, x ≤ maxC C := by
  suffices h : ∀ (C : List Int) (m : Int), m ≤ C.foldl max m ∧ ∀ x ∈ C, x ≤ C.foldl max m from h C 0
  intro C
  induction C with
  | nil => intro m; simp
  | cons y C ih =>
    intro m
    have := ih (max m y)
    simp only [List.foldl_cons, List.mem_cons]
    refine ⟨by omega, fun x hx => ?_⟩
    rcases hx with rfl | hx
    · omega
    · exact this.2 x hx
theorem maxC_mem (C : List Int) : maxC C = 0 ∨ maxC C ∈ C := by
  suffices h : ∀ (C : List Int) (m : Int), C.foldl max m = m ∨ C.foldl max m ∈ C from h C 0
  intro C
  induction C with
  | nil => intro m; simp
  | cons y C ih =>
    intro m
    simp only [List.foldl_cons, List.mem_cons]
    rcases ih (max m y) with e | e
    · rw [e]
      rcases Int.le_total m y with h | h
      · rw [Int.max_eq_right h]; exact .inr (.inl rfl)
      · rw [Int.max_eq_left h]; exact .inl rfl
    · exact .inr (.inr e)
/-- What comes yet. -/
def restK (d C : List Int) (last : Option Nat) (left : Int) (i : Nat) : List Int := (((upR i d.length).find? (nxB d C last left)).map (pathK d C)).getD []
theorem restK_end (d C : List Int) (last : Option Nat) (left : Int) {i : Nat} (hi : d.length ≤ i) : restK d C last left i = [] := by rw [restK, upR_nil hi]; rfl
section
variable {d C : List Int} (h : BegR d C)
include h
theorem keepK_rest : keepK d C = restK d C none (maxC C) 0 := by
  have hmem : ∀ k, k < d.length → gd C k ∈ C := fun k hk => by rw [gd_lt (by rw [h.len]; exact hk)]; exact List.getElem_mem _
  rcases Nat.eq_zero_or_pos d.length with h0 | h0
  · rw [restK_end d C none _ (by omega), keepK, upR_nil (by omega)]; rfl
  · have h1 := h.pos 0 h0
    have h2 := (maxC_ge C).2 _ (hmem 0 h0)
    obtain ⟨T, hT⟩ : ∃ T : Nat, maxC C = (T : Int) := ⟨(maxC C).toNat, by omega⟩
    have hex : ∃ m, (upR 0 d.length).find? (nxB d C none (maxC C)) = some m := by
      cases hf : (upR 0 d.length).find? (nxB d C none (maxC C)) with
      | some m => exact ⟨m, rfl⟩
      | none =>
        exfalso
        rcases maxC_mem C with e | e
        · omega
        · obtain ⟨k, hk, e2⟩ := List.mem_iff_getElem.1 e
          have := find_none hf k (Nat.zero_le _) (by rw [← h.len]; exact hk)
          simp only [nxB, Bool.and_true, decide_eq_false_iff_not] at this
          rw [gd_lt hk] at this
          exact this e2
    obtain ⟨m, hm⟩ := hex
    rw [restK, hm, keepK]
    have hfi : (upR 0 d.length).filter (fun _ => true) = upR 0 d.length := by simp
    rw [← hfi]
    refine first_find h (T := T) (by omega) (Nat.le_refl _) (p := fun _ => true) (fun k _ hk _ => ?_) ?_
    · rw [← hT]; exact (maxC_ge C).2 _ (hmem k hk)
    · rw [← hm]
      congr 1
      funext k
      simp only [nxB, hT, Bool.true_and, Bool.and_true]
end
end Go.Proofs.YtpijeomnplmakaaGreatDoor

/- Plain law: runs; a slip behind all others (RackRuns, RackBoxes). -/
namespace Go.Proofs.YtpijeomnplmakaaGreatDoor
open Go.RowKit

/-! ### Passes -/
theorem PassR.zero {b m p : Nat} (h : PassR b m p) : p = 0 ↔ m = 0 := by
  constructor
  · intro e; subst e; have := h.1; simpa using this
  · intro e
    refine Decidable.by_contra fun hp => ?_
    have := h.2 0 (by omega)
    simp at this; omega
theorem PassR.one {b m p : Nat} (h : PassR b m p) (hm : 0 < m) : p = 1 ↔ m < b := by
  have hz := h.zero
  constructor
  · intro e; subst e; have := h.1; simpa using this
  · intro hlt
    refine Decidable.by_contra fun hp => ?_
    have := h.2 1 (by omega)
    simp at this; omega
theorem PassR.more {b b' m p p' : Nat} (h : PassR b m p) (g : PassR b' m p') (hb : b ≤ b') : p' ≤ p := by
  refine Decidable.by_contra fun hc => ?_
  have h1 := g.2 p (by omega)
  have h2 : b ^ p ≤ b' ^ p := Nat.pow_le_pow_left hb _
  have := h.1
  omega
/-! ### One more slip behind all others -/
section
variable {d : List Int} {r : Int} (hr : ∀ x ∈ d, x ≤ r)
include hr
end
end Go.Proofs.YtpijeomnplmakaaGreatDoor

/- Plain law: a deck that fell is put right by the fewest moves (RackMended, RackChains, RackFell). -/
namespace Go.Proofs.YtpijeomnplmakaaGreatDoor
open Go.RowKit

/-! ### Moves -/
/-! ### The moves that put a deck right -/
end Go.Proofs.YtpijeomnplmakaaGreatDoor

/- Plain law: chains; a part of a deck that fell (RackChains, RackFell). -/
namespace Go.Proofs.YtpijeomnplmakaaGreatDoor
open Go.RowKit

/-! ### A part of a deck that lay right -/
/-- Ranks that do not fall, but for those from a to b, which lie between the others. -/
def FellI (d : List Int) (a b : Nat) : Prop := ∀ i j, i < j → j < d.length → (i < a ∨ b < i ∨ j < a ∨ b < j) → gd d i ≤ gd d j
/-- Two ranks of the part change their places. -/
theorem FellI.swap {d : List Int} {a b i k : Nat} (hf : FellI d a b) (hi : a ≤ i ∧ i ≤ b) (hk : a ≤ k ∧ k ≤ b) (hb : b < d.length) : FellI ((d.set i (gd d k)).set k (gd d i)) a b := by
  intro x y hxy hy ho
  have hl : ((d.set i (gd d k)).set k (gd d i)).length = d.length := by simp
  rw [hl] at hy
  have g : ∀ z, gd ((d.set i (gd d k)).set k (gd d i)) z = if z = k then gd d i else if z = i then gd d k else gd d z := fun z => by
    rw [gd_set, gd_set, List.length_set]
    by_cases e1 : z = k
    · rw [if_pos ⟨e1, by omega⟩, if_pos e1]
    · rw [if_neg (fun h => e1 h.1), if_neg e1]
      by_cases e2 : z = i
      · rw [if_pos ⟨e2, by omega⟩, if_pos e2]
      · rw [if_neg (fun h => e2 h.1), if_neg e2]
  rw [g, g]
  have key : ∀ z, ∃ z', gd d z' = (if z = k then gd d i else if z = i then gd d k else gd d z) ∧ ((z < a ∨ b < z) → z' = z) ∧ ((a ≤ z ∧ z ≤ b) → a ≤ z' ∧ z' ≤ b) := fun z => by
    by_cases e1 : z = k
    · exact ⟨i, by rw [if_pos e1], by omega, by omega⟩
    · by_cases e2 : z = i
      · exact ⟨k, by rw [if_neg e1, if_pos e2], by omega, by omega⟩
      · exact ⟨z, by rw [if_neg e1, if_neg e2], fun _ => rfl, fun h => h⟩
  obtain ⟨x', x1, x2, x3⟩ := key x
  obtain ⟨y', y1, y2, y3⟩ := key y
  rw [← x1, ← y1]
  refine hf x' y' ?_ ?_ ?_ <;> omega
end Go.Proofs.YtpijeomnplmakaaGreatDoor

/- The references: lists of numbers that are the same. -/
namespace Go.Proofs.YtpijeomnplmakaaGreatDoor
open Go.RowKit

theorem RowV.place {w : World} {agg : Bool} {k l c j : Nat} {a : Option Addr} {xs : List Value} {x : Value} (h : RowV w agg k (.slice a l c) xs) (hj : xs[j]? = some x) : ∃ b o, a = some ⟨b, o, none⟩ ∧ At w b (o + j * k) x.cells.toList := by
  rcases h.at_ with ⟨rfl, _⟩ | ⟨b, o, c', hv, hl, hc⟩
  · simp at hj
  · simp only [Value.slice.injEq] at hv
    exact ⟨b, o, hv.1, hc j x hj⟩
theorem list_ne_len {α : Type} {xs ys : List α} (h : xs.length ≠ ys.length) : xs ≠ ys := fun e => h (by rw [e])
theorem list_ne_get {α : Type} {xs ys : List α} {k : Nat} (hk : k < xs.length) (hk' : k < ys.length) (h : xs[k] ≠ ys[k]) : xs ≠ ys := fun e => by subst e; exact h rfl
theorem list_eq_get {α : Type} {xs ys : List α} (hl : xs.length = ys.length) (h : ∀ k (h1 : k < xs.length) (h2 : k < ys.length), xs[k] = ys[k]) : xs = ys := List.ext_getElem hl h

theorem SameInts_ref (a1 a2 : Option Addr) (c1 c2 : Nat) (xs ys : List Int) (w : World) [h1 : RowI w (.slice a1 xs.length c1) false 1 (xs.map intV)] [h2 : RowI w (.slice a2 ys.length c2) false 1 (ys.map intV)] :
    Ct Tryz.prog 34 [.slice a1 xs.length c1, .slice a2 ys.length c2] w fun v _ => v = .bool (decide (xs = ys)) := by
  have hl1 := h1.h.len
  simp only [List.length_map] at hl1
  refine Ct.ofW (by simp) ?_
  repeat' (first|((first|apply jI|apply jJ); (first|exact eI rfl|exact eB rfl|exact eS rfl))|(refine jW ?_; refine jc rfl rfl ?_)|(refine jg ?_; refine jh rfl ?_)|refine jz ?_|(refine jjA ?_; (first|refine jjB ?_|refine jjC ?_|refine jjD ?_|refine jjF ?_|refine jjG ?_))|(refine jjA ?_; (refine jjN rfl ?_ ?_ <;> intro _))|refine jB rfl rfl ⟨inferInstance, ?_⟩)
  · exact congrArg Value.bool (decide_eq_false (list_ne_len (by omega))).symm
  · refine W.loop (11 :: 12 :: 13 :: 14 :: 17 :: 18 :: 19 :: 20 :: 21 :: 22 :: 23 :: 24 :: 25 :: 4 :: 15 :: 16 :: 5 :: []) (fun g s' _ => ∃ k : Nat, s' 5 = .int .i64 k ∧ g = xs.length - k ∧ k ≤ xs.length ∧ ∀ (j : Nat) (q1 : j < xs.length) (q2 : j < ys.length), j < k → xs[j] = ys[j]) xs.length ⟨0, rfl, rfl, by omega, by intros; omega⟩ ?_
    rintro _ d w' hS ⟨k, h5, rfl, hk, hpre⟩
    refine W.fix h5 ?_
    repeat' (first|((first|apply jI|apply jJ); (first|exact eI rfl|exact eB rfl|exact eS rfl))|(refine jW ?_; refine jX rfl rfl ?_)|(refine jg ?_; refine jh rfl ?_)|refine jz ?_|(refine jjA ?_; (first|refine jjB ?_|refine jjC ?_|refine jjD ?_|refine jjE ?_|refine jjF ?_|refine jjG ?_))|(refine jjA ?_; (refine jjN rfl ?_ ?_ <;> intro _))|refine jB rfl rfl ⟨inferInstance, ?_⟩)
    · have k1 : k < xs.length := by omega
      have k2 : k < ys.length := by omega
      refine W.draw (fun w'' => Ext w' w'') ?_
      intro V1 hS1
      obtain ⟨q1, o1, rfl, hA1⟩ := (h1.h.ext hS.ext).place (map_get k1)
      obtain ⟨q2, o2, rfl, hA2⟩ := (h2.h.ext hS.ext).place (map_get k2)
      rw [Nat.mul_one] at hA1 hA2
      refine jjV [0, 1, 2, 3, 4, 5, 6, 7, 8] (by decide +kernel) hS1.ext ?_
      (((apply jjT; exact rfl; rintro w' hq; have := hq.toStep; apply jI; exact eS rfl; refine jz ?_; exact ⟨rfl, rfl⟩; apply jjT; exact rfl; rintro w' hq; have := hq.toStep; apply jI; exact eI rfl; refine jz ?_; exact ⟨rfl, rfl⟩; apply jjT; exact rfl; rintro w' hq; have := hq.toStep; refine jG rfl rfl rfl (by omega) ?_; refine jz ?_; exact ⟨rfl, rfl⟩; apply jjT; exact rfl; rintro w' hq; have := hq.toStep; refine jQ rfl rfl ?_; refine jz ?_; exact ⟨rfl, rfl⟩; apply jjT; exact rfl; rintro w' hq; have := hq.toStep; apply jI; exact eS rfl; refine jz ?_; exact ⟨rfl, rfl⟩; apply jjT; exact rfl; rintro w' hq; have := hq.toStep; apply jI; exact eI rfl; refine jz ?_; exact ⟨rfl, rfl⟩; apply jjT; exact rfl; rintro w' hq; have := hq.toStep; refine jG rfl rfl rfl (by omega) ?_; refine jz ?_; exact ⟨rfl, rfl⟩; apply jjT; exact rfl; rintro w' hq; have := hq.toStep; refine jQ rfl rfl ?_; refine jz ?_; exact ⟨rfl, rfl⟩; apply jjT; exact rfl; rintro w' hq; have := hq.toStep; refine jc rfl rfl ?_; refine jz ?_; exact ⟨rfl, rfl⟩; refine jjU ?_)))
      refine jjX (by decide +kernel) hS1.ext ?_
      repeat' (first|((first|apply jI|apply jJ); (first|exact eI rfl|exact eB rfl))|(refine jW ?_; refine jY rfl rfl (by omega) ?_)|refine jz ?_|(refine jjA ?_; (first|refine jjB ?_|refine jjC ?_|refine jjF ?_|refine jjG ?_))|(refine jjA ?_; (refine jjN rfl ?_ ?_ <;> intro _))|refine jB rfl rfl ⟨inferInstance, ?_⟩)
      · exact congrArg Value.bool (decide_eq_false (list_ne_get k1 k2 ‹_›)).symm
      · refine ⟨rfl, by ((refine Same.upd rfl ?_; refine Same.upd rfl ?_; refine Same.upd rfl ?_; refine Same.upd rfl ?_; refine Same.upd rfl ?_; refine Same.upd rfl ?_; refine Same.upd rfl ?_; refine Same.upd rfl ?_; refine Same.upd rfl ?_; refine Same.upd rfl ?_; refine Same.upd rfl ?_; refine Same.upd rfl ?_; refine Same.upd rfl ?_; refine Same.upd rfl ?_; refine Same.upd rfl ?_; refine Same.upd rfl ?_; refine Same.upd rfl ?_; exact Same.ovN)), xs.length - (k + 1), by omega, inferInstance, k + 1, congrArg (Value.int .i64) (by omega), rfl, by omega, fun j q1 q2 hj => ?_⟩
        by_cases e : j = k
        · subst e; exact Decidable.not_not.1 ‹_›
        · exact hpre j q1 q2 (by omega)
    · exact congrArg Value.bool (decide_eq_true (list_eq_get (by omega) fun j q1 q2 => hpre j q1 q2 (by omega))).symm

end Go.Proofs.YtpijeomnplmakaaGreatDoor

/- The reference of rack: Deck, Great, twin. -/
namespace Go.Proofs.YtpijeomnplmakaaGreatDoor
open Go.RowKit

section
variable (a : Option Addr) (c : Nat) (d : List Int) (w : World) [hrow : RowI w (.slice a d.length c) false 1 (d.map intV)]
end

end Go.Proofs.YtpijeomnplmakaaGreatDoor

/- The proof engine, part 28: literals of slices of however many elements. -/
namespace Go.Proofs.YtpijeomnplmakaaGreatDoor
open Go.RowKit

/-- Zero cells of so many elements. -/
def zeroL (z : Value) (m : Nat) : List Value := (List.range m).map fun i => z.cells[i % z.cells.size]!
section rules
variable {P : Program} {ro : Option Nat} {n : Nat} {all rest : List Oper} {K : Sl → World → Prop} {s : Sl} {w : World} {d : Nat} {ty : Nat} {pos : String} {af : Array Edge} {t e : Nat}
theorem Ops.buildSliceF {len size bytes : Nat} {z : Value} {parts : Array (Nat × Operand)} {cells : List Value} [ht : TSl P t e] [hz : TS P e z size bytes] (h0 : Nat.blt 0 (len * size) = true) (h1 : Nat.blt (len * size) 10000 = true)
    (hf : fillL (fun i => some (i * size, size)) (zeroL z (len * size)) (parts.toList.map fun (i, x) => (i, ev n s x)) = some cells)
    (h : ∀ b w', b = w.heap.size → w'.heap.size = w.heap.size + 1 → Step w w' → Bk w' b cells e → Ops P ro n all rest K (upd s d (.slice (some ⟨b, 0, none⟩) len len)) w') :
    Ops P ro n all (⟨some d, .buildSlice t len parts, ty, pos, af, none⟩ :: rest) K s w := by
  have h0' : 0 < len * size := by simpa using h0
  have h1' : len * size < 10000 := by simpa using h1
  have hf2 := fillL_eq _ _ _ _ hf
  have e1 : (zeroL z (len * size)).toArray = (Array.range (len * size)).map (z.cells[· % z.cells.size]!) := by
    apply Array.ext'
    simp [zeroL]
  rw [e1] at hf2
  have e2 : (parts.map fun (p : Nat × Operand) => (p.1, ev n s p.2)).toList = parts.toList.map fun (i, x) => (i, ev n s x) := by simp
  refine Ops.ofRun (w' := w.alloc (.cells cells.toArray e)) rfl ?_ (h w.heap.size _ rfl (by simp) ⟨(Below.refl _ w).alloc (Nat.le_refl _) _⟩ (Bk.of (World.alloc_heap_new w _)))
  have hne : ¬ len * size = 0 := by omega
  have hbig : ¬ (16777216 < len * size) := by omega
  simp only [execOp, Instr.buildSlice, Sem.run_bind, run_underlying ht.h, run_sizeOf' w hz, Result.andThen_ok]
  simp [hbig, run_zeroValue' w hz, newRow]
  have hf3 : Instr.fill (fun i => some (i * size, size)) (Array.map (fun x => z.cells[x % z.cells.size]!) (Array.range (len * size))) (parts.toList.map fun p => (p.1, ev n s p.2)) = some cells.toArray := hf2
  simp [hf3]
  intro hc; exact absurd hc hne
end rules
/-- What such a literal reads as. -/
theorem Bk.rows {w : World} {b e k : Nat} {agg : Bool} {xs : List Value} (h : Bk w b (xs.flatMap (·.cells.toList)) e) (hf : ∀ x ∈ xs, fitsV agg k x = true) (hl : xs.length ≤ 140737488355328) : RowV w agg k (.slice (some ⟨b, 0, none⟩) xs.length xs.length) xs := by
  refine ⟨hl, hf, .inr ⟨b, 0, xs.length, rfl, Nat.le_refl _, fun j x hx => ⟨fun i v hv => ?_⟩⟩⟩
  have := flat_get (k := k) (xs := xs) (fun y hy => fitsV_cells (hf y hy)) hx hv
  have hc := (Bk.toAt (h := h)).h _ _ this
  rw [show 0 + j * k + i = 0 + (j * k + i) by omega]; exact hc
end Go.Proofs.YtpijeomnplmakaaGreatDoor

/- Helpers of postillaw06. -/
namespace Go.Proofs.YtpijeomnplmakaaGreatDoor
open Go.RowKit

theorem same_law6 (a1 a2 : Option Addr) (c1 c2 : Nat) (xs ys : List Int) (w : World) [h1 : RowI w (.slice a1 xs.length c1) false 1 (xs.map intV)] [h2 : RowI w (.slice a2 ys.length c2) false 1 (ys.map intV)] :
    Ct Tryz.prog 51 [.slice a1 xs.length c1, .slice a2 ys.length c2] w fun v _ => v = .bool (decide (xs = ys)) := by
  refine Ct.ofW (by simp) ?_
  (refine jjB ?_; refine jjC ?_; apply jJ; exact eB rfl; refine jz ?_; refine jjB ?_; refine jjC ?_; apply jI; exact eS rfl; apply jI; exact eS rfl)
  refine jjQ (SameInts_ref a1 a2 c1 c2 xs ys _) rfl rfl ?_
  rintro _ w2 hS2 rfl
  (apply jJ; exact eB rfl; refine jz ?_; refine jjF ?_; refine jB rfl rfl ⟨inferInstance, ?_⟩)
  exact rfl
/-- The deck of the examples. -/
def exD : List Int := [3, 1, 2, 1]
theorem deck_law6 (w : World) : Ct Tryz.prog 15 [] w fun v w' => ∃ b, v = .slice (some ⟨b, 0, none⟩) 4 4 ∧ RowV w' false 1 (.slice (some ⟨b, 0, none⟩) 4 4) (exD.map intV) := by
  refine Ct.ofW (by simp) ?_
  (refine jjB ?_; refine jjC ?_; apply jJ; exact eS rfl; refine jz ?_; refine jjB ?_; refine jjC ?_)
  refine Ops.buildSliceF (cells := [.int .i64 3, .int .i64 1, .int .i64 2, .int .i64 1]) rfl rfl rfl ?_
  intro b w2 hb2 hs2 hS2 hk2
  have hr : RowV w2 false 1 (.slice (some ⟨b, 0, none⟩) 4 4) (exD.map intV) := hk2.row (fun x hx => by simp at hx; rcases hx with rfl | rfl | rfl | rfl <;> rfl) (by simp)
  (apply jJ; exact eS rfl; refine jz ?_; refine jjF ?_; refine jB rfl rfl ⟨inferInstance, ?_⟩)
  exact ⟨b, rfl, hr⟩
end Go.Proofs.YtpijeomnplmakaaGreatDoor

/- Plain facts: the examples' deck; what File answers. -/
namespace Go.Proofs.YtpijeomnplmakaaGreatDoor
open Go.RowKit

theorem exD_open : opE exD 2 = 0 ∧ opE exD 3 = 0 ∧ deckB exD = true := by decide +kernel
theorem exD_num : numF exD = [2, 0, 1, 0] := by decide +kernel
theorem exD_end : endF exD = [(3, 2), (2, 0)] := by decide +kernel
theorem pass_is {b m p q : Nat} (h : PassR b m p) (g1 : m < b ^ q) (g2 : ∀ i, i < q → b ^ i ≤ m) : p = q := h.uniq ⟨g1, g2⟩
theorem exD_pass2 {p : Nat} (h : PassR 2 (endF exD).length p) : p = 2 := pass_is (by rw [exD_end] at h; exact h) (by decide) (by decide)
theorem exD_pass3 {p : Nat} (h : PassR 3 (endF exD).length p) : p = 1 := pass_is (by rw [exD_end] at h; exact h) (by decide) (by decide)
theorem exD_plan2 : planP 2 2 (numF exD) = [[0, 0, 1, 0], [1, 0, 0, 0]] := by decide +kernel
theorem exD_plan3 : planP 3 1 (numF exD) = [[2, 0, 1, 0]] := by decide +kernel
theorem exD_sort : sortP 4 [[0, 0, 1, 0], [1, 0, 0, 0]] = [1, 3, 2, 0] := by decide +kernel
theorem exD_beg : BegR exD [1, 2, 1, 1] where
  len := rfl
  pos := by decide
  up i k h1 h2 := (show ∀ k, k < 4 → ∀ i, i < k → gd exD i ≤ gd exD k → gd [1, 2, 1, 1] k + 1 ≤ gd [1, 2, 1, 1] i by decide) k h2 i h1
  ex i hi := by
    rcases (show ∀ i, i < 4 → gd [1, 2, 1, 1] i = 1 ∨ i = 1 by decide) i hi with h | rfl
    · exact .inl h
    · exact .inr ⟨2, by decide⟩
theorem exD_chain : ChainR exD [0, 0, 1, 1] where
  len := rfl
  pos := by decide
  up i hi k h1 := (show ∀ i, i < 4 → ∀ k, k < i → gd exD k ≤ gd exD i → gd [0, 0, 1, 1] k + 1 ≤ gd [0, 0, 1, 1] i by decide) i hi k h1
  ex i hi := by
    rcases (show ∀ i, i < 4 → gd [0, 0, 1, 1] i = 0 ∨ i = 2 ∨ i = 3 by decide) i hi with h | rfl | rfl
    · exact .inl h
    · exact .inr ⟨1, by decide⟩
    · exact .inr ⟨1, by decide⟩
theorem exD_keep {C : List Int} (h : BegR exD C) : keepK exD C = [1, 2] := by
  obtain rfl := h.uniq exD_beg
  decide +kernel
theorem exD_mend {C : List Int} (h : BegR exD C) : (mendF exD (keepK exD C) exD.length).2.2 = [(0, 3), (2, 1)] := by
  rw [exD_keep h]
  decide +kernel
theorem exD_moved : movedF 4 [(0, 3), (2, 1)] = [1, 3, 2, 0] := by decide +kernel

/-! What File answers. -/
def fileE (l : List Slp) (by_ boxes : Int) : Int := if (ranksR l by_).2 = 0 then opE (ranksR l by_).1 boxes else (ranksR l by_).2
def fileL (l : List Slp) (by_ boxes : Int) : List Slp := if fileE l by_ boxes = 0 then (ordF (ranksR l by_).1).map fun i => l.getD i.toNat ((0, 0, 0), ⟨#[]⟩, ⟨#[]⟩, ⟨#[]⟩) else []
def FileR (l : List Slp) (by_ boxes : Int) (B : Nat) (v : Value) (w' : World) : Prop :=
  ∃ (p : Nat) (a : Option Addr) (c : Nat), (if fileE l by_ boxes = 0 then PassR boxes.toNat (endF (ranksR l by_).1).length p else p = 0) ∧
    v = .tuple #[.slice a (fileL l by_ boxes).length c, .int .i64 (p : Int), .int .i64 (fileE l by_ boxes)] ∧ OwnL w' B 49 true 6 (.slice a (fileL l by_ boxes).length c) ((fileL l by_ boxes).map encSl)

abbrev xSea : ByteArray := ⟨#[115, 101, 97]⟩
abbrev xOld : ByteArray := ⟨#[111, 108, 100]⟩
abbrev xIs : ByteArray := ⟨#[105, 115]⟩
abbrev xAnd : ByteArray := ⟨#[97, 110, 100]⟩
def exS : List Slp := [((0, 0, 0), xSea, ⟨#[]⟩, ⟨#[]⟩), ((0, 0, 0), xOld, ⟨#[]⟩, ⟨#[]⟩), ((0, 0, 0), xSea, ⟨#[]⟩, xIs), ((0, 0, 0), xAnd, ⟨#[]⟩, ⟨#[]⟩)]
theorem exS_right : exS.all slipB = true := by decide +kernel
theorem exS_small : ∀ s ∈ exS, SmallS s := by unfold SmallS; decide +kernel
theorem exS_ranks : ranksR exS 2 = ([2, 1, 2, 0], 0) := by
  rw [ranksR_ok (by decide) exS_right (by decide)]
  decide +kernel
theorem exS_ranks5 : ranksR exS 5 = ([], 2) := by
  rw [ranksR, if_neg (by decide), if_neg (by simp [exS_right]), if_pos (by decide)]
theorem exS_err : fileE exS 2 2 = 0 := by rw [fileE, exS_ranks]; decide +kernel
theorem exS_err21 : fileE exS 2 21 = 61 := by rw [fileE, exS_ranks]; decide +kernel
theorem exS_file : fileL exS 2 2 = [((0, 0, 0), xAnd, ⟨#[]⟩, ⟨#[]⟩), ((0, 0, 0), xOld, ⟨#[]⟩, ⟨#[]⟩), ((0, 0, 0), xSea, ⟨#[]⟩, ⟨#[]⟩), ((0, 0, 0), xSea, ⟨#[]⟩, xIs)] := by
  rw [fileL, if_pos exS_err, exS_ranks]
  decide +kernel
theorem exS_pass {p : Nat} (h : if fileE exS 2 2 = 0 then PassR (2 : Int).toNat (endF (ranksR exS 2).1).length p else p = 0) : p = 2 := by
  rw [if_pos exS_err, exS_ranks] at h
  refine pass_is (m := 2) (b := 2) ?_ (by decide) (by decide)
  have e : (endF [2, 1, 2, 0]).length = 2 := by decide +kernel
  rw [← e]; exact h
end Go.Proofs.YtpijeomnplmakaaGreatDoor
