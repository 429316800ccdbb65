/- Texts of the proof, part 7: Lg2, Eng18, Pc1, Sm1, Eng31, LawSp. -/
import Derived.ChangeKeysEq
import Derived.Laws.Cover1
import Derived.Laws.BitsAllLaws
import Derived.Test.YtgnjjocafmofaaaGreatDoorSP6
/- leaf: Words, PlaceOf. -/
namespace Go.Proofs.YtgnjjocafmofaaaGreatDoor
open Go.RowKit

def wordsR (t : Tx) : Int × Int := if textB t then ((allW t t.length).length, 0) else (0, 10)
theorem allW_small {cs : List Ch} (ht : textB (txF cs) = true) : (allW (txF cs) (txF cs).length).length ≤ 600 := by
  have h := allS_len (side := 1) (wd := 12) ht
  rw [allS, List.length_map] at h
  rw [allW_len]; exact h
section
variable (a : Option Addr) (c : Nat) (cs : List Ch) (w : World) [hrow : RowI w (.slice a cs.length c) true 2 (cs.map encCh)] [hT : TextI w cs]
set_option maxHeartbeats 2000000 in
theorem Words_leaf (hs : SmallT cs) : Ct Tryz.prog 46 [.agg #[.slice a cs.length c]] w fun v _ => v = .tuple #[.int .i64 (wordsR (txF cs)).1, .int .i64 (wordsR (txF cs)).2] := by
  refine Ct.ofWM (by simp) ?_
  (refine jjB ?_; refine jjC ?_)
  (refine jy rfl ?_; intro b1 w_b1 hb_b1 hs_b1 hS_b1 hk_b1; have hA_b1 := At.ofBlock hk_b1)
  (apply jJ; exact eI rfl; apply jJ; exact eI rfl; refine jz ?_; refine jjB ?_; refine jjC ?_; refine jO rfl rfl rfl rfl ?_)
  obtain ⟨B, hB⟩ : ∃ B, textB (txF cs) = B := ⟨_, rfl⟩
  refine jjQ ((open_leaf a c cs _ hs).mono fun v _ _ h => by rw [hB] at h; exact h) rfl rfl ?_
  rintro _ w2 hS2 ⟨o, rfl, ho⟩
  have hE2 : Ext w w2 := inferInstance
  rw [wordsR, hB]
  cases B with
  | false =>
    (apply jI; exact eU rfl; refine ju rfl rfl ?_; refine ju rfl rfl ?_; apply jJ; exact rfl; apply jJ; exact eI rfl; refine jz ?_; refine jjB ?_; refine jjB ?_; refine jjC ?_; apply jI; exact eI rfl; refine jc rfl rfl ?_; refine jz ?_; refine jjJ rfl ?_; refine jjB ?_; refine jjC ?_; apply jI; exact eI rfl; apply jJ; exact eI rfl; apply jJ; exact eI rfl; refine jz ?_; refine jjF ?_)
    refine fin2M rfl rfl rfl inferInstance fun w' g => ⟨hE2.ofGrow g (Nat.le_refl _), rfl⟩
  | true =>
  obtain ⟨bk, hbk, rfl, hAk⟩ := ho rfl
  have hal := allW_small hB
  rw [if_pos rfl]
  (apply jI; exact eU rfl; refine ju rfl rfl ?_; refine ju rfl rfl ?_; apply jJ; exact eP rfl; apply jJ; exact eI rfl; refine jz ?_; refine jjB ?_; refine jjB ?_; refine jjC ?_; apply jI; exact eI rfl; refine jc rfl rfl ?_; refine jz ?_; refine jjK rfl ?_; refine jjG ?_; refine jjB ?_; refine jjC ?_)
  (apply jjR rfl; (intro _; first|exact eI rfl|exact eB rfl|exact eP rfl|exact eS rfl|exact eT rfl|exact eA rfl|exact eU rfl|exact eF rfl|exact eM rfl|exact eN rfl|exact rfl); exact rfl; exact rfl; exact rfl; exact rfl; intro b6 w_b6 hb_b6 hs_b6 hS_b6 hk_b6; have hA_b6 := Bk.of hk_b6)
  (refine jz ?_; refine jjB ?_; refine jjB ?_; refine jjC ?_; apply jI; exact eP rfl)
  refine jjQ (all_leaf bk _) rfl rfl ?_
  rintro _ w7 hS7 ⟨bx, rfl, hbx, hAx⟩
  (refine jz ?_; refine jjD ?_)
  have hE7 : Ext w w7 := inferInstance
  have zz := hE7.size
  have z2 := hE2.size
  have z6 := hS_b6.size
  have z7 := hS7.size
  have hB6 : Bk w7 b6 [.int .i64 0] 3 := inferInstance
  have hAk7 : At w7 bk 0 [.slice a cs.length c] := (hAk.ext hS_b6.ext).ext hS7.ext
  have hlk := hAk.lt
  have hlx := hAx.lt
  refine W.range w.heap.size (allW (txF cs) (txF cs).length) encPW (all1_leaf bx bk a c cs hs) rfl (fun _ => rfl) trivial inferInstance hE7.size
    (fun i V => Ext w V ∧ w7.heap.size ≤ V.heap.size ∧ Bk V b6 [.int .i64 ((i : Nat) : Int)] 3 ∧ At V bx 0 [.pointer (some ⟨bk, 0, none⟩)] ∧ At V bk 0 [.slice a cs.length c])
    (fun _ _ _ => False) ?hJ (fun _ _ _ _ h _ => h) ?hF ?h0 (fun x s' _ => s' 6 = .pointer (some ⟨b6, 0, none⟩)) (fun _ _ _ _ h _ => h) ?hassign ?hbody ?hdone (fun _ _ _ _ _ _ _ h => h.elim)
  case hJ =>
    rintro i V V' ⟨h1, h2, h3, h4, h5⟩ g
    exact ⟨h1.ofGrow g zz, Nat.le_trans h2 g.size, h3.grow g, h4.grow g, h5.grow g⟩
  case hF =>
    rintro i V ⟨h1, h2, h3, h4, h5⟩
    exact ⟨h2, h4, h5, hrow.h.ext h1, hT.ext h1⟩
  case h0 => exact ⟨hE7, Nat.le_refl _, hB6, hAx, hAk7⟩
  case hassign =>
    intro l i x V hx hJ hl hr
    (refine jjG ?_)
    exact ⟨rfl, Tr.refl _, Fr.refl _ _, hJ, rfl⟩
  case hbody =>
    rintro l i x s' V hx ⟨h1, h2, h3, h4, h5⟩ ha6 hl hr
    have hlt := (List.getElem?_eq_some_iff.1 hx).1
    refine W.fix (d := 6) ha6 ?_
    (refine jjD ?_; refine jjC ?_; refine jN rfl rfl rfl ?_; refine jY rfl rfl (by omega) ?_)
    refine Ops.store rfl rfl rfl rfl rfl ?_
    intro V2 hp2
    (refine jz ?_)
    refine ⟨hp2.tr ⟨_, h3.h, rfl⟩, hp2.frS (by omega), hp2.ext h1 (by omega), by rw [hp2.size]; exact h2, ?_, hp2.at_ h4 (by omega), hp2.at_ h5 (by omega)⟩
    have e : (((i + 1 : Nat) : Nat) : Int) = (i : Int) + 1 := by omega
    rw [e]; exact ⟨hp2.new⟩
  case hdone =>
    rintro ds' V hmk htr ⟨h1, h2, h3, h4, h5⟩
    (refine jjB ?_; refine jjC ?_; refine jN rfl rfl rfl ?_; apply jJ; exact eI rfl; apply jJ; exact eI rfl; refine jz ?_; refine jjF ?_)
    refine fin2M rfl rfl rfl hmk fun w' g => ⟨h1.ofGrow g (Nat.le_refl _), rfl⟩
set_option maxHeartbeats 4000000 in
theorem PlaceOf_leaf (hs : SmallT cs) (ht : textB (txF cs) = true) (m : Nat) (p : Pl) (hm : (allP (txF cs) (txF cs).length)[m]? = some p) : Ct Tryz.prog 53 [.agg #[.slice a cs.length c], .int .i64 (m : Int)] w fun v _ => v = .tuple #[encPl p, .int .i64 0] := by
  have hml := (List.getElem?_eq_some_iff.1 hm).1
  have hal := allW_small ht
  have hll := allW_len (txF cs) (txF cs).length
  refine Ct.ofWM (by simp) ?_
  (refine jjB ?_; refine jjC ?_)
  (refine jy rfl ?_; intro b2 w_b2 hb_b2 hs_b2 hS_b2 hk_b2; have hA_b2 := At.ofBlock hk_b2)
  skip
  (refine jy rfl ?_; intro b3 w_b3 hb_b3 hs_b3 hS_b3 hk_b3; have hA_b3 := At.ofBlock hk_b3)
  ((skip); refine jjY ?_; intro b4 w_b4 hb_b4 hs_b4 hS_b4 hk_b4; have hA_b4 := Bk.of hk_b4)
  ((skip); refine jjY ?_; intro b5 w_b5 hb_b5 hs_b5 hS_b5 hk_b5; have hA_b5 := Bk.of hk_b5)
  (refine jz ?_; refine jjB ?_; refine jjC ?_; refine jO rfl rfl rfl rfl ?_)
  refine jjQ ((open_leaf a c cs _ hs).mono fun v _ _ h => by rw [ht] at h; exact h) rfl rfl ?_
  rintro _ w6 hS6 ⟨o, rfl, ho⟩
  obtain ⟨bk, hbk, rfl, hAk⟩ := ho rfl
  rw [if_pos rfl]
  (apply jI; exact eU rfl; refine ju rfl rfl ?_; refine ju rfl rfl ?_; apply jJ; exact eP rfl; apply jJ; exact eI rfl; refine jz ?_; refine jjB ?_; refine jjB ?_; refine jjC ?_; apply jI; exact eI rfl; refine jjk rfl rfl (by omega) ?_; refine jz ?_; refine jjK rfl ?_; refine jjG ?_; refine jjB ?_; refine jjB ?_; refine jjC ?_; apply jI; exact eP rfl)
  refine jjQ (all_leaf bk _) rfl rfl ?_
  rintro _ w7 hS7 ⟨bx, rfl, hbx, hAx⟩
  have hE7 : Ext w w7 := inferInstance
  have zz := hE7.size
  have z2 := hS_b2.size
  have z3 := hS_b3.size
  have z4 := hS_b4.size
  have z5 := hS_b5.size
  have z6 := hS6.size
  have z7 := hS7.size
  have hk3 : Bk w_b3 b3 [.int .i64 (m : Int)] 3 := Bk.of hk_b3
  have hB3 : Bk w7 b3 [.int .i64 (m : Int)] 3 := ((((hk3.ext hS_b4.ext).ext hS_b5.ext).ext hS6.ext).ext hS7.ext)
  have hB4 : Bk w7 b4 [.int .i64 0, .int .i64 0, .int .i64 0] 43 := inferInstance
  have hB5 : Bk w7 b5 [.int .i64 0] 32 := inferInstance
  have hAk7 : At w7 bk 0 [.slice a cs.length c] := hAk.ext hS7.ext
  have hlk := hAk.lt
  have hlx := hAx.lt
  (refine jz ?_; refine jjD ?_)
  refine W.range w.heap.size (allW (txF cs) (txF cs).length) encPW (all1_leaf bx bk a c cs hs) rfl (fun _ => rfl) trivial inferInstance hE7.size
    (fun i V => Ext w V ∧ w7.heap.size ≤ V.heap.size ∧ (i ≤ m ∧ Bk V b3 [.int .i64 ((m : Int) - (i : Int))] 3) ∧ (∃ u1 u2 u3, Bk V b4 [.int .i64 u1, .int .i64 u2, .int .i64 u3] 43) ∧ (∃ u, Bk V b5 [.int .i64 u] 32) ∧ At V bx 0 [.pointer (some ⟨bk, 0, none⟩)] ∧ At V bk 0 [.slice a cs.length c])
    (fun cc _ V => cc = .ret ∧ Ext w V ∧ Bk V b4 (encPl p).cells.toList 43 ∧ Bk V b5 [.int .i64 0] 32) ?hJ ?hJx ?hF ?h0 (fun x s' V => ∃ b, s' 3 = .pointer (some ⟨b3, 0, none⟩) ∧ s' 4 = .pointer (some ⟨b4, 0, none⟩) ∧ s' 5 = .pointer (some ⟨b5, 0, none⟩) ∧ s' 8 = .pointer (some ⟨b, 0, none⟩) ∧ Bk V b (encPl x.1).cells.toList 43) (fun x s V V' ⟨b, h1, h2, h3, h4, h5⟩ g => ⟨b, h1, h2, h3, h4, h5.grow g⟩) ?hassign ?hbody ?hdone ?hstop
  case hJ =>
    rintro i V V' ⟨h1, h2, ⟨hi, h3⟩, ⟨u1, u2, u3, h4⟩, ⟨u, h5⟩, h6, h7⟩ g
    exact ⟨h1.ofGrow g zz, Nat.le_trans h2 g.size, ⟨hi, h3.grow g⟩, ⟨u1, u2, u3, h4.grow g⟩, ⟨u, h5.grow g⟩, h6.grow g, h7.grow g⟩
  case hJx =>
    rintro cc i V V' ⟨h0, h1, h2, h3⟩ g
    exact ⟨h0, h1.ofGrow g zz, h2.grow g, h3.grow g⟩
  case hF =>
    rintro i V ⟨h1, h2, h3, h4, h5, h6, h7⟩
    exact ⟨h2, h6, h7, hrow.h.ext h1, hT.ext h1⟩
  case h0 => exact ⟨hE7, Nat.le_refl _, ⟨Nat.zero_le _, by rw [show (m : Int) - ((0 : Nat) : Int) = (m : Int) by omega]; exact hB3⟩, ⟨_, _, _, hB4⟩, ⟨_, hB5⟩, hAx, hAk7⟩
  case hassign =>
    rintro l i x V hx ⟨h1, h2, ⟨hi, h3⟩, ⟨u1, u2, u3, h4⟩, ⟨u, h5⟩, h6, h7⟩ hl hr
    (refine jjC ?_)
    (apply jjR rfl; (intro _; first|exact eI rfl|exact eB rfl|exact eP rfl|exact eS rfl|exact eT rfl|exact eA rfl|exact eU rfl|exact eF rfl|exact eM rfl|exact eN rfl|exact rfl); exact rfl; exact rfl; exact rfl; exact rfl; intro b8 w_b8 hb_b8 hs_b8 hS_b8 hk_b8; have hA_b8 := Bk.of hk_b8)
    (refine jz ?_)
    have e8 := hS_b8.ext
    have y8 := e8.size
    exact ⟨rfl, e8.tr, Fr.ext e8, ⟨h1.trans e8, by omega, ⟨hi, h3.ext e8⟩, ⟨u1, u2, u3, h4.ext e8⟩, ⟨u, h5.ext e8⟩, h6.ext e8, h7.ext e8⟩, b8, rfl, rfl, rfl, rfl, inferInstance⟩
  case hbody =>
    rintro l i x s' V hx ⟨h1, h2, ⟨hi, h3⟩, ⟨u1, u2, u3, h4⟩, ⟨u, h5⟩, h6, h7⟩ ⟨b8, ha3, ha4, ha5, ha8, hb8⟩ hl hr
    refine W.fix (d := 3) ha3 (W.fix (d := 4) ha4 (W.fix (d := 5) ha5 (W.fix (d := 8) ha8 ?_)))
    have hx8 : At V b8 0 [.int .i64 x.1.1, .int .i64 x.1.2.1, .int .i64 x.1.2.2] := Bk.toAt (h := hb8)
    by_cases him : i = m
    · have hxp : x.1 = p := by
        have e1 := congrArg (·[i]?) (allW_fst (txF cs) (txF cs).length)
        simp only [List.getElem?_map, hx, Option.map_some] at e1
        rw [him, hm] at e1
        exact Option.some.inj e1
      have hz0 : (m : Int) - (i : Int) = 0 := by omega
      rw [hz0] at h3
      (refine jjD ?_; refine jjB ?_; refine jjB ?_; refine jjC ?_; refine jN rfl rfl rfl ?_; refine jjh rfl rfl (by omega) ?_; refine jz ?_; refine jjJ rfl ?_; refine jjB ?_; refine jjC ?_; refine jO rfl rfl rfl rfl ?_)
      refine Ops.store rfl rfl rfl rfl rfl ?_
      intro V2 hp2
      have h5' := hp2.bk h5 (by omega)
      skip
      refine Ops.store rfl rfl rfl rfl rfl ?_
      intro V3 hp3
      (refine jz ?_; refine jjF ?_)
      have m4 : Bk V2 b4 (encPl x.1).cells.toList 43 := ⟨hp2.new⟩
      refine ⟨(hp2.tr ⟨_, h4.h, rfl⟩).trans (hp3.tr ⟨_, h5'.h, rfl⟩), rfl, hp3.ext (hp2.ext h1 (by omega)) (by omega), ?_, ⟨hp3.new⟩⟩
      rw [← hxp]; exact hp3.bk m4 (by omega)
    · have hne : ¬ (m : Int) - (i : Int) = 0 := by omega
      (refine jjD ?_; refine jjB ?_; refine jjB ?_; refine jjC ?_; refine jN rfl rfl rfl ?_; refine jji rfl rfl (by omega) ?_; refine jz ?_; refine jjK rfl ?_; refine jjG ?_; refine jjC ?_; refine jN rfl rfl rfl ?_; refine jZ rfl rfl (by omega) ?_)
      refine Ops.store rfl rfl rfl rfl rfl ?_
      intro V2 hp2
      (refine jz ?_)
      refine ⟨hp2.tr ⟨_, h3.h, rfl⟩, hp2.frS (by omega), hp2.ext h1 (by omega), by rw [hp2.size]; exact h2, ⟨by omega, ?_⟩, ⟨u1, u2, u3, hp2.bk h4 (by omega)⟩, ⟨u, hp2.bk h5 (by omega)⟩, hp2.at_ h6 (by omega), hp2.at_ h7 (by omega)⟩
      have e : (m : Int) - ((i + 1 : Nat) : Int) = (m : Int) - (i : Int) - 1 := by omega
      rw [e]; exact ⟨hp2.new⟩
  case hdone =>
    rintro ds' V hmk htr ⟨h1, h2, ⟨hi, h3⟩, _⟩
    omega
  case hstop =>
    rintro ds' cc i V hmk htr hi ⟨rfl, h1, h2, h3⟩
    refine jjF ?_
    exact fin2CCM rfl rfl rfl rfl rfl h2 h3 rfl rfl rfl hmk fun w' g => ⟨h1.ofGrow g (Nat.le_refl _), rfl⟩
end
end Go.Proofs.YtgnjjocafmofaaaGreatDoor

/- The proof engine, part 18: division of numbers that are not negative; equality of pairs. -/
namespace Go.Proofs.YtgnjjocafmofaaaGreatDoor
open Go.RowKit

section rules
variable {P : Program} {ro : Option Nat} {n : Nat} {all rest : List Oper} {K : Sl → World → Prop} {s : Sl} {w : World} {d : Nat} {ty : Nat} {pos : String} {af : Array Edge} {x y : Operand} {t t' : Nat} {a b : Int}
theorem Ops.rem (hx : ev n s x = .int .i64 a) (hy : ev n s y = .int .i64 b) (h0 : 0 ≤ a) (h1 : 0 < b) (h : Ops P ro n all rest K (upd s d (.int .i64 (a % b))) w) :
    Ops P ro n all (⟨some d, .binOp .rem t x y t', ty, pos, af, none⟩ :: rest) K s w :=
  Ops.ofRun rfl (by
    have e1 : Int.tmod a b = a % b := Int.tmod_eq_emod_of_nonneg h0
    have e3 : ¬ b = 0 := by omega
    simp [execOp, hx, hy, go_sem, Op.intDiv, e1, e3]) h
theorem Ops.quo (hx : ev n s x = .int .i64 a) (hy : ev n s y = .int .i64 b) (h0 : 0 ≤ a) (h0' : a ≤ 9223372036854775807) (h1 : 0 < b) (h : Ops P ro n all rest K (upd s d (.int .i64 (a / b))) w) :
    Ops P ro n all (⟨some d, .binOp .quo t x y t', ty, pos, af, none⟩ :: rest) K s w :=
  Ops.ofRun rfl (by
    have e1 : Int.tdiv a b = a / b := Int.tdiv_eq_ediv_of_nonneg h0
    have e2 : IntKind.i64.wrap (a / b) = a / b := by
      have := Int.ediv_nonneg h0 (Int.le_of_lt h1)
      have := Int.ediv_le_self b h0
      rw [IntKind.wrap_i64]; omega
    have e3 : ¬ b = 0 := by omega
    simp [execOp, hx, hy, go_sem, Op.intDiv, e1, e2, e3]) h
theorem Ops.neqTN {α : Type} [DecidableEq α] {enc : α → Value} (u : α) [he : EqT P t enc] (hx : ev n s x = enc u) (hy : ev n s y = enc u) (h : Ops P ro n all rest K (upd s d (.bool false)) w) :
    Ops P ro n all (⟨some d, .binOp .neq t x y t', ty, pos, af, none⟩ :: rest) K s w :=
  Ops.neqT u u hx hy (by rw [decide_eq_false (by simp)]; exact h)
end rules

theorem eqT_arr2 {P : Program} {t e bytes : Nat} {z : Value} (hu : P.underlying t = some (.array 2 e)) (u0 : TU P e (.int .i64)) (hz : TS P e z 1 bytes) (hg : P.eqGuardType P.depth t = false) : EqT P t encII where
  eq w a b := by
    obtain ⟨i, hi, _, hs, _⟩ := hz.info
    have hc : P.cellsOf e = 1 := by simp [Program.cellsOf, hi, hs]
    simp only [encII, Op.equal, Op.maxDepth]
    rw [run_equalIn_array w 9999 _ _ hu hi, hc]
    have e0 : (Op.equalIn 9999 e (.int .i64 a.1) (.int .i64 b.1)).run P w = .ok (a.1 == b.1) w := run_equalIn_int (P := P) w 9998 e .i64 .i64 a.1 b.1 u0.h
    have e1 : (Op.equalIn 9999 e (.int .i64 a.2) (.int .i64 b.2)).run P w = .ok (a.2 == b.2) w := run_equalIn_int (P := P) w 9998 e .i64 .i64 a.2 b.2 u0.h
    obtain ⟨a1, a2⟩ := a
    obtain ⟨b1, b2⟩ := b
    simp only at e0 e1
    have p0 : ∀ c1 c2 : Int, (part e #[Value.int .i64 c1, Value.int .i64 c2] 0).run P w = .ok (.int .i64 c1) w := fun c1 c2 => by simp [part, run_isAgg w u0, TypeDesc.isAgg]
    have p1 : ∀ c1 c2 : Int, (part e #[Value.int .i64 c1, Value.int .i64 c2] 1).run P w = .ok (.int .i64 c2) w := fun c1 c2 => by simp [part, run_isAgg w u0, TypeDesc.isAgg]
    have hr : List.range 2 = [0, 1] := by decide
    rw [hr]
    simp only [Op.eqItems, Nat.zero_mul, Nat.one_mul, Sem.run_bind, p0, Result.andThen_ok, e0]
    by_cases c0 : a1 = b1
    · subst c0
      by_cases c1 : a2 = b2
      · subst c1; simp [p1, e1]
      · have c1' : (a2 == b2) = false := by simpa using c1
        simp [c1, p1, e1, c1']
    · simp [c0]
  guard op x y w a b := by
    cases op <;> simp [encII, eqGuard, hg]
  kind a b := ⟨fun w => by simp [encII, binOp], fun w => by simp [encII, binOp]⟩
end Go.Proofs.YtgnjjocafmofaaaGreatDoor

/- place: a place of a valid text by a number. -/
namespace Go.Proofs.YtgnjjocafmofaaaGreatDoor
open Go.RowKit

theorem pick_pos {α : Type} {l : List α} (h : 0 < l.length) (m : Nat) : ∃ p, l[m % l.length]? = some p := ⟨_, List.getElem?_eq_getElem (Nat.mod_lt _ h)⟩
section
variable (a : Option Addr) (c : Nat) (cs : List Ch) (w : World) [hrow : RowI w (.slice a cs.length c) true 2 (cs.map encCh)] [hT : TextI w cs]
set_option maxHeartbeats 4000000 in
theorem place_law3 (hs : SmallT cs) (ht : textB (txF cs) = true) (m : Nat) (hm : m ≤ 65535) (p : Pl) (hp : (allP (txF cs) (txF cs).length)[m % (allP (txF cs) (txF cs).length).length]? = some p) : Ct Tryz.prog 40 [.agg #[.slice a cs.length c], .int .u16 (m : Int)] w fun v _ => v = .tuple #[encPl p, .bool true] := by
  have hlt := (List.getElem?_eq_some_iff.1 hp).1
  have hll := allW_len (txF cs) (txF cs).length
  have hal := allW_small ht
  have hpb : placeC cs p = true := (placeC_B cs p).trans (placeB_mem.2 (List.mem_of_getElem? hp))
  refine Ct.ofW (by simp) ?_
  (refine jjB ?_; refine jjC ?_)
  (refine jy rfl ?_; intro b2 w_b2 hb_b2 hs_b2 hS_b2 hk_b2; have hA_b2 := At.ofBlock hk_b2)
  skip
  ((skip); refine jjY ?_; intro b4 w_b4 hb_b4 hs_b4 hS_b4 hk_b4; have hA_b4 := Bk.of hk_b4)
  (apply jJ; exact eB rfl; refine jz ?_; refine jjB ?_; refine jjC ?_; refine jO rfl rfl rfl rfl ?_)
  refine jjQ ((Words_leaf a c cs _ hs).mono fun v _ _ h => h.trans (by rw [wordsR, if_pos ht, hll])) rfl rfl ?_
  rintro _ w5 hS5 rfl
  generalize hL : (allP (txF cs) (txF cs).length).length = L at *
  (apply jI; exact eU rfl; refine ju rfl rfl ?_; refine ju rfl rfl ?_; apply jJ; exact eI rfl; apply jJ; exact eI rfl; refine jz ?_; refine jjB ?_; refine jjB ?_; refine jjC ?_; apply jI; exact eI rfl; refine jjk rfl rfl (by omega) ?_; apply jI; exact eB rfl; refine jT rfl rfl rfl ?_; apply jI; exact eI rfl; refine jT rfl rfl rfl ?_; refine jja rfl rfl (by omega) ?_; apply jL rfl; exact eB rfl; refine jz ?_; refine jjK rfl ?_; refine jjG ?_; refine jjB ?_)
  have hrem : (m : Int) % (L : Int) = ((m % L : Nat) : Int) := by omega
  have hE5 : Ext w w5 := inferInstance
  have hA2 : At w5 b2 0 [.slice a cs.length c] := inferInstance
  have hB4 : Bk w5 b4 [.int .i64 0, .int .i64 0, .int .i64 0] 43 := inferInstance
  have hr5 : RowI w5 (.slice a cs.length c) true 2 (cs.map encCh) := inferInstance
  have ht5 : TextI w5 cs := inferInstance
  have hlt2 := hA2.lt
  have z4 : w.heap.size ≤ b4 := by
    have := hS_b2.size
    omega
  have hlt4 : b4 < w5.heap.size := by
    have := hS5.size
    omega
  have hlt2 : b2 < b4 := by omega
  refine W.keep0 [(1, .int .u16 (m : Int)), (2, .pointer (some ⟨b2, 0, none⟩)), (4, .pointer (some ⟨b4, 0, none⟩)), (6, .int .i64 (L : Int))] ⟨eI rfl, eP rfl, eP rfl, eI rfl, trivial⟩ fun s0 => ?_
  refine W.draw (fun w' => Ext w5 w') ?_
  intro w6 hS6
  refine AnyS.mono (K' := fun s w' => s 2 = .pointer (some ⟨b2, 0, none⟩) ∧ s 4 = .pointer (some ⟨b4, 0, none⟩) ∧ s 9 = .int .i64 0 ∧ (∃ b8, s 8 = .pointer (some ⟨b8, 0, none⟩) ∧ w5.heap.size ≤ b8 ∧ At w' b8 0 (encPl p).cells.toList) ∧ Ext w5 w') ?_ ?_
  rotate_left
  · refine jjV [0, 1, 2, 3, 4] (by decide +kernel) inferInstance ?_
    ((apply jjT; exact rfl; rintro w' hq; have := hq.toStep; refine jO rfl rfl rfl rfl ?_; refine jz ?_; exact ⟨rfl, rfl⟩; apply jjT; exact rfl; rintro w' hq; have := hq.toStep; apply jI; exact eI rfl; refine jz ?_; exact ⟨rfl, rfl⟩; apply jjT; exact rfl; rintro w' hq; have := hq.toStep; refine Ops.convI rfl rfl (wrapi (by omega) (by omega)) ?_; refine jz ?_; exact ⟨rfl, rfl⟩; apply jjT; exact rfl; rintro w' hq; have := hq.toStep; apply jI; exact eI rfl; refine jz ?_; exact ⟨rfl, rfl⟩; apply jjT; exact rfl; rintro w' hq; have := hq.toStep; refine Ops.rem rfl rfl (by omega) (by omega) ?_; rw [hrem]; refine jz ?_; exact ⟨rfl, rfl⟩; refine jjU ?_))
    repeat' ( first
      | (refine jjl 5 9 (by decide +kernel) rfl rfl inferInstance ?_ ?_)
      | ((apply jjW 5; (decide +kernel); exact rfl; (exact inferInstance)))
      | ((apply jjW 9; (decide +kernel); exact rfl; (exact inferInstance)))
      | (refine jjQ (PlaceOf_leaf a c cs _ hs ht (m % L) p hp) rfl rfl ?_; rintro _ v5 hv5 rfl; refine jz ?_; (refine jjV [6, 7, 8] ?_ ?_ ?_; (decide +kernel); (exact inferInstance); ((repeat' (first|(apply jjT; exact rfl)|rintro w' hq|(apply jI; exact eU rfl)|refine ju rfl rfl ?_|refine jz ?_|exact ⟨rfl, rfl⟩|refine jjU ?_)))))
      | (refine jjY ?_; intro b8 v8 hb8 hs8 hv8 hk8; have k8 := Bk.of hk8; have z8 : w5.heap.size ≤ b8 := (by rw [hb8]; exact Ext.size inferInstance); refine jz ?_)
      | ((apply jjW 10; (decide +kernel); exact rfl; (exact inferInstance)); refine Ops.store rfl rfl rfl rfl rfl ?_; intro V2 hp2; have e2 : Ext w5 V2 := hp2.ext inferInstance z8; refine jz ?_; (refine jjV [11] ?_ ?_ ?_; (decide +kernel); (exact e2); ((repeat' (first|(apply jjT; exact rfl)|rintro w' hq|(apply jJ; exact eI rfl)|refine jz ?_|exact ⟨rfl, rfl⟩|refine jjU ?_)))); refine jjX (by decide +kernel) e2 ?_; exact ⟨rfl, rfl, rfl, ⟨b8, rfl, z8, Bk.toAt (h := Bk.of hp2.new)⟩, e2⟩))
  rintro s w7 ⟨h2, h4, h9, ⟨b8, h8, hb8, hA8'⟩, x7⟩
  have hA8 : At w7 b8 0 [.int .i64 p.1, .int .i64 p.2.1, .int .i64 p.2.2] := hA8'
  have hB47 : Bk w7 b4 [.int .i64 0, .int .i64 0, .int .i64 0] 43 := hB4.ext x7
  have hA27 : At w7 b2 0 [.slice a cs.length c] := hA2.ext x7
  have hE7 : Ext w w7 := hE5.trans x7
  refine W.keep0 [(2, .pointer (some ⟨b2, 0, none⟩)), (4, .pointer (some ⟨b4, 0, none⟩)), (8, .pointer (some ⟨b8, 0, none⟩)), (9, .int .i64 0)] ⟨h2, h4, h8, h9, trivial⟩ fun s1 => ?_
  clear h2 h4 h8 h9
  ((refine jjB ?_))
  refine W.draw (fun w' => Ext w w' ∧ At w' b2 0 [.slice a cs.length c] ∧ At w' b8 0 [.int .i64 p.1, .int .i64 p.2.1, .int .i64 p.2.2]) ?_
  intro w8 hS8
  refine AnyS.mono (K' := fun s w' => s 4 = .pointer (some ⟨b4, 0, none⟩) ∧ s 5 = .bool true ∧ At w' b4 0 (encPl p).cells.toList ∧ Ext w w') ?_ ?_
  rotate_left
  · skip
    refine jjV [0, 1, 2, 3, 4, 5] (by decide +kernel) ⟨inferInstance, inferInstance, inferInstance⟩ ?_
    ((apply jjT; exact rfl; rintro w' ⟨q1, q2, q3⟩; refine jO rfl rfl rfl rfl ?_; refine jz ?_; exact ⟨rfl, rfl⟩; apply jjT; exact rfl; rintro w' ⟨q1, q2, q3⟩; apply jI; exact eI rfl; refine jz ?_; exact ⟨rfl, rfl⟩; apply jjT; exact rfl; rintro w' ⟨q1, q2, q3⟩; refine jjh rfl rfl (by omega) ?_; refine jz ?_; exact ⟨rfl, rfl⟩; apply jjT; exact rfl; rintro w' ⟨q1, q2, q3⟩; apply jI; exact eB rfl; refine jz ?_; exact ⟨rfl, rfl⟩; apply jjT; exact rfl; rintro w' ⟨q1, q2, q3⟩; refine jT rfl rfl rfl ?_; refine jO rfl rfl rfl rfl ?_; refine jz ?_; exact ⟨rfl, rfl⟩; apply jjT; exact rfl; rintro w' ⟨q1, q2, q3⟩; refine jT rfl rfl rfl ?_; refine jO rfl rfl rfl rfl ?_; refine jz ?_; exact ⟨rfl, rfl⟩; refine jjU ?_))
    (apply jjW 6; (decide +kernel); exact rfl; (exact ⟨inferInstance, inferInstance, inferInstance⟩))
    have hE8 : Ext w w8 := inferInstance
    have i8 : RowI w8 (.slice a cs.length c) true 2 (cs.map encCh) := ⟨hrow.h.ext hE8⟩
    have j8 : TextI w8 cs := hT.ext hE8
    refine jT rfl rfl rfl ?_
    refine jjQ ((Place_ref1 a c cs _ p hs).mono fun v _ _ h => h.trans (by rw [hpb])) rfl rfl ?_
    rintro _ w9 hS9 rfl
    refine jz ?_
    have hE9 : Ext w w9 := inferInstance
    have hA29 : At w9 b2 0 [.slice a cs.length c] := inferInstance
    have hA89 : At w9 b8 0 [.int .i64 p.1, .int .i64 p.2.1, .int .i64 p.2.2] := inferInstance
    refine jjV [7] (by decide +kernel) ⟨hE9, hA29, hA89⟩ ?_
    ((apply jjT; exact rfl; rintro w' ⟨q1, q2, q3⟩; apply jK rfl; exact eB rfl; refine jz ?_; exact ⟨rfl, rfl⟩; refine jjU ?_))
    (apply jjW 8; (decide +kernel); exact rfl; (exact ⟨hE9, hA29, hA89⟩))
    refine Ops.store rfl rfl rfl rfl rfl ?_
    intro V2 hp2
    refine jz ?_
    have hE10 : Ext w V2 := hp2.ext hE9 z4
    have hA210 : At V2 b2 0 [.slice a cs.length c] := hp2.at_ hA29 (by omega)
    have hA810 : At V2 b8 0 [.int .i64 p.1, .int .i64 p.2.1, .int .i64 p.2.2] := hp2.at_ hA89 (by omega)
    refine jjV [9] (by decide +kernel) ⟨hE10, hA210, hA810⟩ ?_
    ((apply jjT; exact rfl; rintro w' ⟨q1, q2, q3⟩; apply jJ; exact eB rfl; refine jz ?_; exact ⟨rfl, rfl⟩; refine jjU ?_))
    refine jjX (by decide +kernel) ⟨hE10, hA210, hA810⟩ ?_
    exact ⟨rfl, rfl, Bk.toAt (h := Bk.of hp2.new), hE10⟩
  rintro s w9 ⟨h4, h5, hA4, x9⟩
  have hA49 : At w9 b4 0 [.int .i64 p.1, .int .i64 p.2.1, .int .i64 p.2.2] := hA4
  refine W.keep0 [(4, .pointer (some ⟨b4, 0, none⟩)), (5, .bool true)] ⟨h4, h5, trivial⟩ fun s2 => ?_
  (refine jjF ?_)
  refine fin2C rfl rfl rfl rfl rfl rfl ⟨x9, rfl⟩
end
end Go.Proofs.YtgnjjocafmofaaaGreatDoor

/- The reference: the same list of slips. -/
namespace Go.Proofs.YtgnjjocafmofaaaGreatDoor
open Go.RowKit

set_option maxHeartbeats 2000000 in
theorem SameSl_yes (a1 a2 : Option Addr) (c1 c2 : Nat) (l : List Slp) (w : World) (hl : l.length ≤ 1000000) [h1 : RowI w (.slice a1 l.length c1) true 6 (l.map encSl)] [h2 : RowI w (.slice a2 l.length c2) true 6 (l.map encSl)] :
    Ct Tryz.prog 48 [.slice a1 l.length c1, .slice a2 l.length c2] w fun v _ => v = .bool true := by
  refine Ct.ofW (by simp) ?_
  (refine jjB ?_; refine jjC ?_; apply jJ; exact eB rfl; refine jz ?_; refine jjB ?_; refine jjB ?_; refine jjC ?_; apply jI; exact eS rfl; refine jh rfl ?_; apply jI; exact eS rfl; refine jh rfl ?_; refine jjk rfl rfl (by omega) ?_; refine jz ?_; refine jjK rfl ?_; refine jjG ?_; refine jjB ?_; refine jjB ?_; refine jjC ?_; apply jJ; exact eI rfl; refine jz ?_; refine jjD ?_)
  refine W.loop (11 :: 12 :: 13 :: 14 :: 17 :: 18 :: 19 :: 20 :: 21 :: 22 :: 23 :: 24 :: 25 :: 4 :: 15 :: 16 :: 5 :: []) (fun g s' V => ∃ k : Nat, s' 5 = .int .i64 ((k : Nat) : Int) ∧ g = l.length - k ∧ k ≤ l.length) l.length ⟨0, rfl, rfl, Nat.zero_le _⟩ ?_
  rintro _ sd w1 hS1 ⟨k, h5, rfl, hk⟩
  refine W.fix h5 ?_
  clear h5
  by_cases k1 : k < l.length
  · (refine jjB ?_; refine jjB ?_; refine jjC ?_; apply jI; exact eI rfl; apply jI; exact eS rfl; refine jh rfl ?_; refine jjZ rfl rfl (by omega) ?_; refine jz ?_; refine jjJ rfl ?_; refine jjG ?_; refine jjB ?_; refine jjD ?_; refine jjB ?_)
    refine W.draw (fun w' => Ext w1 w') ?_
    intro w2 hS2
    have hz := (h1.h.ext hS1.ext).place' (map_get k1)
    obtain ⟨q1, o1, rfl, hA1⟩ := hz
    have hz := (h2.h.ext hS1.ext).place' (map_get k1)
    obtain ⟨q2, o2, rfl, hA2⟩ := hz
    refine jjV [0, 1, 2, 3, 4, 5, 6, 7] (by decide +kernel) hS2.ext ?_
    (((apply jjT; exact rfl; rintro w' hq; have := hq.toStep; apply jI; exact eS rfl; refine jz ?_; exact ⟨rfl, rfl⟩; apply jjT; exact rfl; rintro w' hq; have := hq.toStep; apply jI; exact eI rfl; refine jz ?_; exact ⟨rfl, rfl⟩; apply jjT; exact rfl; rintro w' hq; have := hq.toStep; refine jH _ rfl rfl rfl (by omega) ?_; refine jz ?_; exact ⟨rfl, rfl⟩; apply jjT; exact rfl; rintro w' hq; have := hq.toStep; refine jQ rfl rfl ?_; refine jz ?_; exact ⟨rfl, rfl⟩; apply jjT; exact rfl; rintro w' hq; have := hq.toStep; apply jI; exact eS rfl; refine jz ?_; exact ⟨rfl, rfl⟩; apply jjT; exact rfl; rintro w' hq; have := hq.toStep; apply jI; exact eI rfl; refine jz ?_; exact ⟨rfl, rfl⟩; apply jjT; exact rfl; rintro w' hq; have := hq.toStep; refine jH _ rfl rfl rfl (by omega) ?_; refine jz ?_; exact ⟨rfl, rfl⟩; apply jjT; exact rfl; rintro w' hq; have := hq.toStep; refine jQ rfl rfl ?_; refine jz ?_; exact ⟨rfl, rfl⟩; refine jjU ?_)))
    apply jjW 8 (by decide +kernel) rfl hS2.ext
    refine Ops.neqTN (enc := encSl) l[k] rfl rfl ?_
    refine jz ?_
    refine jjX (by decide +kernel) hS2.ext ?_
    (refine jjK rfl ?_; refine jjG ?_; refine jjC ?_; apply jI; exact eI rfl; refine jY rfl rfl (by omega) ?_; apply jJ; exact eI rfl; refine jz ?_)
    exact ⟨rfl, by ((refine Same.upd rfl ?_; refine Same.upd rfl ?_; refine Same.upd rfl ?_; refine Same.upd rfl ?_; refine Same.upd rfl ?_; refine Same.upd rfl ?_; refine Same.upd rfl ?_; refine Same.upd rfl ?_; refine Same.upd rfl ?_; refine Same.upd rfl ?_; refine Same.upd rfl ?_; refine Same.upd rfl ?_; refine Same.upd rfl ?_; refine Same.upd rfl ?_; refine Same.upd rfl ?_; refine Same.upd rfl ?_; refine Same.upd rfl ?_; exact Same.ovN)), l.length - (k + 1), by omega, hS1.ext.trans hS2.ext, k + 1, congrArg (Value.int .i64) (by omega), rfl, by omega⟩
  · (refine jjB ?_; refine jjB ?_; refine jjC ?_; apply jI; exact eI rfl; apply jI; exact eS rfl; refine jh rfl ?_; refine jja rfl rfl (by omega) ?_; refine jz ?_; refine jjK rfl ?_; refine jjE ?_; refine jjB ?_; refine jjC ?_; apply jJ; exact eB rfl; refine jz ?_; refine jjF ?_; refine jB rfl rfl ⟨inferInstance, ?_⟩)
    exact rfl
end Go.Proofs.YtgnjjocafmofaaaGreatDoor

/- The proof engine, part 31: min and max of three integers; integers of 16 bits. -/
namespace Go.Proofs.YtgnjjocafmofaaaGreatDoor
open Go.RowKit
theorem wrap16 {i : Int} (h0 : 0 ≤ i) (h1 : i ≤ 65535) : IntKind.wrap .u16 i = i := by
  rw [IntKind.wrap_u16]; omega
section rules
variable {P : Program} {ro : Option Nat} {n : Nat} {all rest : List Oper} {K : Sl → World → Prop} {s : Sl} {w : World} {d : Nat} {ty : Nat} {pos : String} {af : Array Edge}
variable {x y z : Operand} {at_ : Array Nat}
theorem Ops.min3 {a b c : Int} {k : IntKind} (hx : ev n s x = .int k a) (hy : ev n s y = .int k b) (hz : ev n s z = .int k c) (h : Ops P ro n all rest K (upd s d (.int k (min (min a b) c))) w) :
    Ops P ro n all (⟨some d, .call { callee := .builtin .min, args := #[x, y, z], argTypes := at_ }, ty, pos, af, none⟩ :: rest) K s w :=
  Ops.ofRun rfl (by
    have e : min (min a b) c = if c < (if b < a then b else a) then c else (if b < a then b else a) := by (repeat' split) <;> omega
    rw [e]
    simp [execOp, resolve, invoke, builtin, hx, hy, hz, run_min_int3]) h
theorem Ops.max3 {a b c : Int} {k : IntKind} (hx : ev n s x = .int k a) (hy : ev n s y = .int k b) (hz : ev n s z = .int k c) (h : Ops P ro n all rest K (upd s d (.int k (max (max a b) c))) w) :
    Ops P ro n all (⟨some d, .call { callee := .builtin .max, args := #[x, y, z], argTypes := at_ }, ty, pos, af, none⟩ :: rest) K s w :=
  Ops.ofRun rfl (by
    have e : max (max a b) c = if c > (if b > a then b else a) then c else (if b > a then b else a) := by (repeat' split) <;> omega
    rw [e]
    simp [execOp, resolve, invoke, builtin, hx, hy, hz, run_max_int3]) h
end rules
end Go.Proofs.YtgnjjocafmofaaaGreatDoor

/- The law: the slips of two parts, one behind the other, are those of both together. -/
namespace Go.Proofs.YtgnjjocafmofaaaGreatDoor
open Go.RowKit

theorem all_slP (l : List Slp) : (l.map encSl).all (fun v => v.cells.toList.all (·.oneCell')) = true := by
  rw [List.all_eq_true]; intro x hx; obtain ⟨y, _, rfl⟩ := List.mem_map.1 hx; rfl
section
variable (a : Option Addr) (c : Nat) (cs : List Ch) (wd side : Int) (w : World) [hrow : RowI w (.slice a cs.length c) true 2 (cs.map encCh)] [hT : TextI w cs] [hgs : At w 1 0 sidesC] [hgk : At w 0 0 kindsC] [hmx : MxI w]
set_option maxRecDepth 20000 in
set_option maxHeartbeats 16000000 in
theorem SlipParts_law (hd : 0 ≤ side ∧ side ≤ 255) (x1 x2 x3 : Nat) (hx1 : x1 ≤ 65535) (hx2 : x2 ≤ 65535) (hx3 : x3 ≤ 65535) : Ct Tryz.prog 10 [.agg #[.slice a cs.length c], encCut wd side, .int .u16 (x1 : Int), .int .u16 (x2 : Int), .int .u16 (x3 : Int)] w fun v _ => v = .bool true := by
  refine Ct.ofW (by simp) ?_
  (refine jjB ?_; refine jjC ?_)
  (refine jy rfl ?_; intro b5 w_b5 hb_b5 hs_b5 hS_b5 hk_b5; have hA_b5 := At.ofBlock hk_b5)
  skip
  (refine jy rfl ?_; intro b6 w_b6 hb_b6 hs_b6 hS_b6 hk_b6; have hA_b6 := At.ofBlock hk_b6)
  (apply jJ; exact eB rfl; refine jz ?_; refine jjB ?_; refine jjC ?_)
  refine jjQ (alive_law3 _) rfl rfl ?_
  rintro _ w6 hS6 rfl
  obtain ⟨R, hR⟩ : ∃ R, readyB (txF cs) wd side = R := ⟨_, rfl⟩
  (apply jJ; exact eB rfl; refine jz ?_; refine jjB ?_; refine jjB ?_; refine jjC ?_; refine jO rfl rfl rfl rfl ?_; refine jO rfl rfl rfl rfl ?_)
  refine jjQ ((ready_law3 a c cs wd side _ hd).mono fun v _ _ h => h.trans (by rw [hR])) rfl rfl ?_
  rintro _ w7 hS7 rfl
  cases R with
  | false =>
    (refine jq rfl ?_; apply jI; exact eB rfl; refine jU rfl rfl rfl rfl ?_; refine jU rfl rfl rfl rfl ?_; apply jK rfl; exact eB rfl; refine jz ?_; refine jjJ rfl ?_; refine jjB ?_; refine jjC ?_; apply jI; exact eB rfl; apply jJ; exact eB rfl; refine jz ?_; refine jjF ?_; refine jB rfl rfl ⟨inferInstance, ?_⟩)
    exact rfl
  | true =>
  obtain ⟨hG, ht, hc⟩ := readyB_yes hR
  have hs := small_of_great hG
  have ha : askE (txF cs) wd side = 0 := askE_yes ht hc
  have hpos := allP_pos ht
  have hll := allW_len (txF cs) (txF cs).length
  have hlS := allS_lenP (txF cs) side wd
  have hal := allW_small ht
  (refine jp rfl ?_; apply jI; exact eB rfl; refine jT rfl rfl rfl ?_; apply jI; exact eB rfl; refine jT rfl rfl rfl ?_; refine jp rfl ?_; apply jL rfl; exact eB rfl; refine jz ?_; refine jjK rfl ?_; refine jjG ?_; refine jjB ?_; refine jjC ?_; refine jO rfl rfl rfl rfl ?_)
  refine jjQ ((Words_leaf a c cs _ hs).mono fun v _ _ h => h.trans (by rw [wordsR, if_pos ht, hll])) rfl rfl ?_
  rintro _ w8 hS8 rfl
  obtain ⟨L, hL⟩ : ∃ L, (allP (txF cs) (txF cs).length).length = L := ⟨_, rfl⟩
  rw [hL] at hpos hll hlS ⊢
  rw [hll] at hal
  (apply jI; exact eU rfl; refine ju rfl rfl ?_; refine ju rfl rfl ?_; apply jJ; exact eI rfl; apply jJ; exact eI rfl; refine jz ?_; refine jjB ?_; refine jjB ?_; refine jjC ?_; apply jI; exact eI rfl; refine jjk rfl rfl (by omega) ?_; apply jI; exact eB rfl; refine jT rfl rfl rfl ?_; apply jI; exact eI rfl; refine jT rfl rfl rfl ?_; refine jja rfl rfl (by omega) ?_; apply jL rfl; exact eB rfl; refine jz ?_; refine jjK rfl ?_; refine jjG ?_; refine jjB ?_; refine jjC ?_; refine jO rfl rfl rfl rfl ?_; refine jO rfl rfl rfl rfl ?_)
  refine jjQ ((All_slip a c cs wd side _ hs hd).mono fun v _ _ h => by rw [ha, allR, if_pos ha] at h; exact h) rfl rfl ?_
  rintro _ w9 hS9 ⟨sv, rfl, hO⟩
  obtain ⟨la, lc, rfl⟩ := hO.slice
  rw [List.length_map] at hO ⊢
  (apply jI; exact eU rfl; refine ju rfl rfl ?_; refine ju rfl rfl ?_; apply jJ; exact eS rfl; apply jJ; exact eI rfl; refine jz ?_; refine jjB ?_)
  have hr1 : (x1 : Int) % (L : Int) = ((x1 % L : Nat) : Int) := by omega
  have hr2 : (x2 : Int) % (L : Int) = ((x2 % L : Nat) : Int) := by omega
  have hr3 : (x3 : Int) % (L : Int) = ((x3 % L : Nat) : Int) := by omega
  have hX := Nat.mod_lt x1 hpos
  have hY := Nat.mod_lt x2 hpos
  have hZ := Nat.mod_lt x3 hpos
  generalize x1 % L = X at *
  generalize x2 % L = Y at *
  generalize x3 % L = Z at *
  refine W.draw (fun w' => Ext w9 w') ?_
  intro w10 hS10
  refine jjV [0, 1, 2, 3, 4, 5, 6, 7, 8, 9, 10, 11, 12, 13, 14] (by decide +kernel) hS10.ext ?_
  ((apply jjT; exact rfl; rintro w' hq; have := hq.toStep; apply jI; exact eI rfl; refine jz ?_; exact ⟨rfl, rfl⟩; apply jjT; exact rfl; rintro w' hq; have := hq.toStep; refine Ops.convI rfl rfl (wrapi (by omega) (by omega)) ?_; refine jz ?_; exact ⟨rfl, rfl⟩; apply jjT; exact rfl; rintro w' hq; have := hq.toStep; apply jI; exact eI rfl; refine jz ?_; exact ⟨rfl, rfl⟩; apply jjT; exact rfl; rintro w' hq; have := hq.toStep; refine Ops.rem rfl rfl (by omega) (by omega) ?_; rw [hr1]; refine jz ?_; exact ⟨rfl, rfl⟩; apply jjT; exact rfl; rintro w' hq; have := hq.toStep; apply jI; exact eI rfl; refine jz ?_; exact ⟨rfl, rfl⟩; apply jjT; exact rfl; rintro w' hq; have := hq.toStep; refine Ops.convI rfl rfl (wrapi (by omega) (by omega)) ?_; refine jz ?_; exact ⟨rfl, rfl⟩; apply jjT; exact rfl; rintro w' hq; have := hq.toStep; apply jI; exact eI rfl; refine jz ?_; exact ⟨rfl, rfl⟩; apply jjT; exact rfl; rintro w' hq; have := hq.toStep; refine Ops.rem rfl rfl (by omega) (by omega) ?_; rw [hr2]; refine jz ?_; exact ⟨rfl, rfl⟩; apply jjT; exact rfl; rintro w' hq; have := hq.toStep; apply jI; exact eI rfl; refine jz ?_; exact ⟨rfl, rfl⟩; apply jjT; exact rfl; rintro w' hq; have := hq.toStep; refine Ops.convI rfl rfl (wrapi (by omega) (by omega)) ?_; refine jz ?_; exact ⟨rfl, rfl⟩; apply jjT; exact rfl; rintro w' hq; have := hq.toStep; apply jI; exact eI rfl; refine jz ?_; exact ⟨rfl, rfl⟩; apply jjT; exact rfl; rintro w' hq; have := hq.toStep; refine Ops.rem rfl rfl (by omega) (by omega) ?_; rw [hr3]; refine jz ?_; exact ⟨rfl, rfl⟩; apply jjT; exact rfl; rintro w' hq; have := hq.toStep; apply jJ; exact eI rfl; refine jz ?_; exact ⟨rfl, rfl⟩; apply jjT; exact rfl; rintro w' hq; have := hq.toStep; apply jJ; exact eI rfl; refine jz ?_; exact ⟨rfl, rfl⟩; apply jjT; exact rfl; rintro w' hq; have := hq.toStep; apply jJ; exact eI rfl; refine jz ?_; exact ⟨rfl, rfl⟩; refine jjU ?_))
  refine jjX (by decide +kernel) hS10.ext ?_
  obtain ⟨F, hF⟩ : ∃ F : Nat, min (min (X : Int) Y) Z = (F : Int) := ⟨min (min X Y) Z, by omega⟩
  obtain ⟨T, hTT⟩ : ∃ T : Nat, max (max (X : Int) Y) Z = (T : Int) := ⟨max (max X Y) Z, by omega⟩
  obtain ⟨M, hM⟩ : ∃ M : Nat, (X : Int) + Y + Z - F - T = (M : Int) := ⟨X + Y + Z - F - T, by omega⟩
  have hFM : F ≤ M ∧ M ≤ T ∧ T < L := by omega
  (refine jjB ?_; refine jjC ?_; apply jI; exact eI rfl; apply jI; exact eI rfl; apply jI; exact eI rfl)
  refine Ops.min3 rfl rfl rfl ?_
  rw [hF]
  (apply jI; exact eI rfl; apply jI; exact eI rfl; apply jI; exact eI rfl)
  refine Ops.max3 rfl rfl rfl ?_
  rw [hTT]
  (apply jJ; exact eI rfl; apply jJ; exact eI rfl; refine jz ?_; refine jjB ?_; refine jjC ?_; apply jI; exact eI rfl; apply jI; exact eI rfl; refine jY rfl rfl (by omega) ?_; apply jI; exact eI rfl; refine jY rfl rfl (by omega) ?_; apply jI; exact eI rfl; refine jZ rfl rfl (by omega) ?_; apply jI; exact eI rfl; refine jZ rfl rfl (by omega) ?_; apply jJ; exact eI rfl; refine jz ?_; refine jjB ?_; refine jjC ?_; refine jO rfl rfl rfl rfl ?_; apply jI; exact eI rfl)
  rw [hM]
  clear hF hTT hM hr1 hr2 hr3 hX hY hZ
  obtain ⟨hF, hMT, hTL⟩ := hFM
  have gp : ∀ q, q < L → ∃ p, (allP (txF cs) (txF cs).length)[q % (allP (txF cs) (txF cs).length).length]? = some p ∧ (allP (txF cs) (txF cs).length)[q]? = some p := fun q hq => by
    have hq' : q < (allP (txF cs) (txF cs).length).length := by omega
    exact ⟨_, by rw [Nat.mod_eq_of_lt hq', List.getElem?_eq_getElem hq'], List.getElem?_eq_getElem hq'⟩
  have gpart : ∀ (x y : Nat) (p q : Pl), (allP (txF cs) (txF cs).length)[x]? = some p → (allP (txF cs) (txF cs).length)[y]? = some q → x ≤ y → partR (txF cs) wd side p q = (((allS (txF cs) side wd).take (y + 1)).drop x, 0) := fun x y p q hp hq hxy => by
    obtain ⟨h1, rfl⟩ := List.getElem?_eq_some_iff.1 hp
    obtain ⟨h2, rfl⟩ := List.getElem?_eq_some_iff.1 hq
    exact part_seg ha h1 h2 hxy
  obtain ⟨pF, hpF, hpF'⟩ := gp F (by omega)
  obtain ⟨pM, hpM, hpM'⟩ := gp M (by omega)
  obtain ⟨pT, hpT, hpT'⟩ := gp T (by omega)
  refine Ops.convI rfl rfl (wrap16 (by omega) (by omega)) ?_
  skip
  refine jjQ (place_law3 a c cs _ hs ht F (by omega) pF hpF) rfl rfl ?_
  rintro _ w11 hS11 rfl
  (apply jI; exact eU rfl; refine ju rfl rfl ?_; refine ju rfl rfl ?_)
  (apply jjR rfl; (intro _; first|exact eI rfl|exact eB rfl|exact eP rfl|exact eS rfl|exact eT rfl|exact eA rfl|exact eU rfl|exact eF rfl|exact eM rfl|exact eN rfl|exact rfl); exact rfl; exact rfl; exact rfl; exact rfl; intro b22 w_b22 hb_b22 hs_b22 hS_b22 hk_b22; have hA_b22 := Bk.of hk_b22)
  (apply jJ; exact eB rfl; refine jz ?_; refine jjB ?_; refine jjC ?_; refine jO rfl rfl rfl rfl ?_; apply jI; exact eI rfl)
  refine Ops.convI rfl rfl (wrap16 (by omega) (by omega)) ?_
  skip
  refine jjQ (place_law3 a c cs _ hs ht M (by omega) pM hpM) rfl rfl ?_
  rintro _ w12 hS12 rfl
  (apply jI; exact eU rfl; refine ju rfl rfl ?_; refine ju rfl rfl ?_)
  (apply jjR rfl; (intro _; first|exact eI rfl|exact eB rfl|exact eP rfl|exact eS rfl|exact eT rfl|exact eA rfl|exact eU rfl|exact eF rfl|exact eM rfl|exact eN rfl|exact rfl); exact rfl; exact rfl; exact rfl; exact rfl; intro b24 w_b24 hb_b24 hs_b24 hS_b24 hk_b24; have hA_b24 := Bk.of hk_b24)
  (apply jJ; exact eB rfl; refine jz ?_; refine jjB ?_; refine jjC ?_; refine jO rfl rfl rfl rfl ?_; apply jI; exact eI rfl)
  refine Ops.convI rfl rfl (wrap16 (by omega) (by omega)) ?_
  skip
  refine jjQ (place_law3 a c cs _ hs ht T (by omega) pT hpT) rfl rfl ?_
  rintro _ w13 hS13 rfl
  (apply jI; exact eU rfl; refine ju rfl rfl ?_; refine ju rfl rfl ?_)
  (apply jjR rfl; (intro _; first|exact eI rfl|exact eB rfl|exact eP rfl|exact eS rfl|exact eT rfl|exact eA rfl|exact eU rfl|exact eF rfl|exact eM rfl|exact eN rfl|exact rfl); exact rfl; exact rfl; exact rfl; exact rfl; intro b26 w_b26 hb_b26 hs_b26 hS_b26 hk_b26; have hA_b26 := Bk.of hk_b26)
  have hx22 : At w_b26 b22 0 [.int .i64 pF.1, .int .i64 pF.2.1, .int .i64 pF.2.2] := (Bk.toAt (h := hA_b22)).ext inferInstance
  have hx24 : At w_b26 b24 0 [.int .i64 pM.1, .int .i64 pM.2.1, .int .i64 pM.2.2] := (Bk.toAt (h := hA_b24)).ext inferInstance
  have hx26 : At w_b26 b26 0 [.int .i64 pT.1, .int .i64 pT.2.1, .int .i64 pT.2.2] := Bk.toAt (h := hA_b26)
  (apply jJ; exact eB rfl; refine jz ?_; refine jjB ?_; refine jjC ?_; refine jO rfl rfl rfl rfl ?_; refine jO rfl rfl rfl rfl ?_; refine jO rfl rfl rfl rfl ?_; refine jO rfl rfl rfl rfl ?_)
  refine jjQ ((Part_slip a c cs wd side _ pF pT hs hd).mono fun v _ _ h => by rw [gpart F T pF pT hpF' hpT' (by omega)] at h; exact h) rfl rfl ?_
  rintro _ w14 hS14 ⟨sv1, rfl, hO1⟩
  (apply jI; exact eU rfl; refine ju rfl rfl ?_; refine ju rfl rfl ?_; apply jJ; exact rfl; apply jJ; exact eI rfl; refine jz ?_; refine jjB ?_; refine jjC ?_; refine jO rfl rfl rfl rfl ?_; refine jO rfl rfl rfl rfl ?_; refine jO rfl rfl rfl rfl ?_; refine jO rfl rfl rfl rfl ?_)
  refine jjQ ((Part_slip a c cs wd side _ pF pM hs hd).mono fun v _ _ h => by rw [gpart F M pF pM hpF' hpM' (by omega)] at h; exact h) rfl rfl ?_
  rintro _ w15 hS15 ⟨sv2, rfl, hO2⟩
  obtain ⟨l, hl⟩ : ∃ l, allS (txF cs) side wd = l := ⟨_, rfl⟩
  rw [hl] at hO hO1 hO2 hlS ⊢
  obtain ⟨ma, mc, rfl⟩ := hO1.slice
  obtain ⟨na, nc, rfl⟩ := hO2.slice
  have hn1 : ((l.take (T + 1)).drop F).length = T + 1 - F := by rw [List.length_drop, List.length_take]; omega
  have hn2 : ((l.take (M + 1)).drop F).length = M + 1 - F := by rw [List.length_drop, List.length_take]; omega
  rw [List.length_map] at hO1 hO2
  simp only [List.length_map]
  obtain ⟨g1, hg1⟩ : ∃ g, (l.take (T + 1)).drop F = g := ⟨_, rfl⟩
  obtain ⟨g2, hg2⟩ : ∃ g, (l.take (M + 1)).drop F = g := ⟨_, rfl⟩
  rw [hg1] at hO1 hn1 ⊢
  rw [hg2] at hO2 hn2 ⊢
  have iW : RowI w15 (.slice ma g1.length mc) true 6 (g1.map encSl) := RowI.mk (hO1.row.ext hS15.ext)
  have iO : RowI w15 (.slice na g2.length nc) true 6 (g2.map encSl) := RowI.mk hO2.row
  have hE15 : Ext w9 w15 := inferInstance
  have iL : RowV w15 true 6 (.slice la l.length lc) (l.map encSl) := hO.row.ext hE15
  have hcap := iL.cap
  have iC : RowI w15 (cutV la lc 6 F (T + 1)) true 6 (g1.map encSl) := RowI.mk (by have h := iL.cut (lo := F) (hi := T + 1) (by omega) (by rw [List.length_map]; omega); rw [← List.map_take, ← List.map_drop, hg1] at h; exact h)
  (apply jI; exact eU rfl; refine ju rfl rfl ?_; refine ju rfl rfl ?_; apply jJ; exact eS rfl; apply jJ; exact eI rfl; refine jz ?_; refine jjB ?_; refine jjB ?_; refine jjC ?_; apply jI; exact eI rfl; refine jjk rfl rfl (by omega) ?_; apply jI; exact eB rfl; refine jT rfl rfl rfl ?_; apply jI; exact eB rfl; refine jT rfl rfl rfl ?_; refine jp rfl ?_; apply jL rfl; exact eB rfl; apply jI; exact eB rfl; refine jT rfl rfl rfl ?_; apply jI; exact eB rfl; refine jT rfl rfl rfl ?_; refine jp rfl ?_; apply jL rfl; exact eB rfl; apply jI; exact eB rfl; refine jT rfl rfl rfl ?_; apply jI; exact eB rfl; refine jT rfl rfl rfl ?_; refine jp rfl ?_; apply jL rfl; exact eB rfl; apply jI; exact eB rfl; refine jT rfl rfl rfl ?_; apply jI; exact eI rfl; refine jT rfl rfl rfl ?_; refine jjk rfl rfl (by omega) ?_; apply jL rfl; exact eB rfl; apply jI; exact eB rfl; refine jT rfl rfl rfl ?_; apply jI; exact eI rfl; refine jT rfl rfl rfl ?_; refine jjk rfl rfl (by omega) ?_; apply jL rfl; exact eB rfl; apply jI; exact eB rfl; refine jT rfl rfl rfl ?_; apply jI; exact eS rfl; refine jT rfl rfl rfl ?_; refine jh rfl ?_; refine jT rfl rfl rfl ?_; apply jI; exact eI rfl; refine jT rfl rfl rfl ?_; refine jjk rfl rfl (by omega) ?_; apply jL rfl; exact eB rfl; apply jI; exact eB rfl; refine jT rfl rfl rfl ?_; apply jI; exact eS rfl; refine jT rfl rfl rfl ?_; apply jI; exact eS rfl; refine jT rfl rfl rfl ?_; apply jI; exact eI rfl; refine jT rfl rfl rfl ?_; apply jI; exact eI rfl; refine jT rfl rfl rfl ?_; refine jY rfl rfl (by omega) ?_; refine jT rfl rfl rfl ?_)
  have hcv : cutV la lc 6 F (T + 1) = .slice (if lc = F then la else la.map (·.add (F * 6))) g1.length (lc - F) := by rw [hn1]
  rw [hcv] at iC
  refine Ops.sliceLHv (k := 6) (lo := F) (hi := T + 1) rfl rfl rfl rfl (by omega) (by omega) (by omega) ?_
  rw [hcv]
  (refine jT rfl rfl rfl ?_)
  refine jjQ (SameSl_yes ma _ mc _ g1 _ (by omega)) rfl rfl ?_
  rintro _ w16 hS16 rfl
  by_cases hlt : M < T
  · obtain ⟨pN, hpN, hpN'⟩ := gp (M + 1) (by omega)
    (refine jT rfl rfl rfl ?_; refine jp rfl ?_; apply jL rfl; exact eB rfl; refine jz ?_; refine jjK rfl ?_; refine jjG ?_; refine jjB ?_; refine jjB ?_; refine jjC ?_; apply jI; exact eI rfl; apply jI; exact eI rfl; refine jjZ rfl rfl (by omega) ?_; refine jz ?_; refine jjJ rfl ?_; refine jjB ?_; refine jjC ?_; refine jO rfl rfl rfl rfl ?_; apply jI; exact eI rfl; refine jY rfl rfl (by omega) ?_)
    rw [show (M : Int) + 1 = ((M + 1 : Nat) : Int) from by omega]
    refine Ops.convI rfl rfl (wrap16 (by omega) (by omega)) ?_
    skip
    refine jjQ (place_law3 a c cs _ hs ht (M + 1) (by omega) pN hpN) rfl rfl ?_
    rintro _ w17 hS17 rfl
    (apply jI; exact eU rfl; refine ju rfl rfl ?_; refine ju rfl rfl ?_)
    (apply jjR rfl; (intro _; first|exact eI rfl|exact eB rfl|exact eP rfl|exact eS rfl|exact eT rfl|exact eA rfl|exact eU rfl|exact eF rfl|exact eM rfl|exact eN rfl|exact rfl); exact rfl; exact rfl; exact rfl; exact rfl; intro b32 w_b32 hb_b32 hs_b32 hS_b32 hk_b32; have hA_b32 := Bk.of hk_b32)
    have hx32 : At w_b32 b32 0 [.int .i64 pN.1, .int .i64 pN.2.1, .int .i64 pN.2.2] := Bk.toAt (h := hA_b32)
    (apply jJ; exact eB rfl; refine jz ?_; refine jjB ?_; refine jjC ?_; refine jO rfl rfl rfl rfl ?_; refine jO rfl rfl rfl rfl ?_; refine jO rfl rfl rfl rfl ?_; refine jO rfl rfl rfl rfl ?_)
    refine jjQ ((Part_slip a c cs wd side _ pN pT hs hd).mono fun v _ _ h => by rw [gpart (M + 1) T pN pT hpN' hpT' (by omega), hl] at h; exact h) rfl rfl ?_
    rintro _ w18 hS18 ⟨sv3, rfl, hO3⟩
    obtain ⟨ra, rc, rfl⟩ := hO3.slice
    have hn3 : ((l.take (T + 1)).drop (M + 1)).length = T + 1 - (M + 1) := by rw [List.length_drop, List.length_take]; omega
    rw [List.length_map] at hO3 ⊢
    obtain ⟨g3, hg3⟩ : ∃ g, (l.take (T + 1)).drop (M + 1) = g := ⟨_, rfl⟩
    rw [hg3] at hO3 hn3 ⊢
    have hcat : g2 ++ g3 = g1 := by
      rw [← hg1, ← hg2, ← hg3]
      have e : l.take (T + 1) = l.take (M + 1) ++ (l.take (T + 1)).drop (M + 1) := by
        conv => lhs; rw [← List.take_append_drop (M + 1) (l.take (T + 1)), List.take_take, Nat.min_eq_left (by omega)]
      conv => rhs; rw [e, List.drop_append_of_le_length (by rw [List.length_take]; omega)]
    (apply jI; exact eU rfl; refine ju rfl rfl ?_; refine ju rfl rfl ?_; apply jJ; exact eS rfl; apply jJ; exact eI rfl; refine jz ?_; refine jjB ?_; refine jjB ?_; refine jjC ?_; apply jI; exact eB rfl; refine jp rfl ?_; apply jI; exact eB rfl; refine jT rfl rfl rfl ?_; apply jI; exact eI rfl; refine jT rfl rfl rfl ?_; refine jjk rfl rfl (by omega) ?_; apply jL rfl; exact eB rfl; refine jz ?_; refine jjK rfl ?_; refine jjG ?_; refine jjC ?_)
    refine Ops.buildSlice0 ?_
    intro b19 w19 hb19 hs19 hS19 hk19
    have hO19 := OwnL.empty (agg := true) (k := 6) (B := w18.heap.size) (by omega) hk19
    have rO : RowV w19 true 6 (.slice na g2.length nc) (g2.map encSl) := hO2.row.ext inferInstance
    (apply jI; exact eS rfl)
    refine Ops.appendL hO19 (by omega) rO rfl rfl rfl rfl (all_slP g2) ?_ ?_ ?_
    · simp only [List.length_map, List.length_nil]; omega
    · simp only [List.length_map, List.length_nil]; omega
    intro v20 w20 hA20 hO20 _ _
    rw [List.nil_append] at hO20
    have hE20 : Ext w18 w20 := hA20.ext hS19.ext (Nat.le_refl _)
    have r3 : RowV w20 true 6 (.slice ra g3.length rc) (g3.map encSl) := hO3.row.ext hE20
    obtain ⟨va, vc, rfl⟩ := hO20.slice
    rw [List.length_map] at hO20 ⊢
    (apply jI; exact eS rfl)
    refine Ops.appendL hO20 hE20.size r3 rfl rfl rfl rfl (all_slP g3) ?_ ?_ ?_
    · simp only [List.length_map]; omega
    · simp only [List.length_map]; omega
    intro v21 w21 hA21 hO21 _ _
    rw [← List.map_append, hcat] at hO21
    have hE21 : Ext w18 w21 := hA21.ext hE20 (Nat.le_refl _)
    have hS21 := hE21.toStep
    have hE18 : Ext w14 w18 := inferInstance
    obtain ⟨ua, uc, rfl⟩ := hO21.slice
    rw [List.length_map] at hO21 ⊢
    have iU : RowI w21 (.slice ua g1.length uc) true 6 (g1.map encSl) := RowI.mk hO21.row
    have iW21 : RowI w21 (.slice ma g1.length mc) true 6 (g1.map encSl) := RowI.mk (hO1.row.ext (hE18.trans hE21))
    (apply jJ; exact eS rfl; refine jz ?_; refine jjB ?_; refine jjC ?_; apply jI; exact eB rfl; apply jI; exact eB rfl; refine jT rfl rfl rfl ?_; apply jI; exact eS rfl; refine jT rfl rfl rfl ?_; apply jI; exact eS rfl; refine jT rfl rfl rfl ?_)
    refine jjQ (SameSl_yes ua ma uc mc g1 _ (by omega)) rfl rfl ?_
    rintro _ w22 hS22 rfl
    (apply jK rfl; exact eB rfl; apply jJ; exact eB rfl; refine jz ?_; refine jjF ?_; refine jB rfl rfl ⟨inferInstance, ?_⟩)
    exact rfl
  · obtain rfl : M = T := by omega
    have hgg : g2 = g1 := hg2.symm.trans hg1
    subst hgg
    (refine jT rfl rfl rfl ?_; refine jp rfl ?_; apply jL rfl; exact eB rfl; refine jz ?_; refine jjK rfl ?_; refine jjG ?_; refine jjB ?_; refine jjB ?_; refine jjC ?_; apply jI; exact eI rfl; apply jI; exact eI rfl; refine jja rfl rfl (by omega) ?_; refine jz ?_; refine jjK rfl ?_; refine jjG ?_; refine jjB ?_; refine jjC ?_; apply jI; exact eB rfl; apply jI; exact eB rfl; refine jT rfl rfl rfl ?_; apply jI; exact eS rfl; refine jT rfl rfl rfl ?_; apply jI; exact eS rfl; refine jT rfl rfl rfl ?_)
    refine jjQ (SameSl_yes na ma nc mc g2 _ (by omega)) rfl rfl ?_
    rintro _ w17 hS17 rfl
    (apply jK rfl; exact eB rfl; apply jJ; exact eB rfl; refine jz ?_; refine jjF ?_; refine jB rfl rfl ⟨inferInstance, ?_⟩)
    exact rfl
end
end Go.Proofs.YtgnjjocafmofaaaGreatDoor
