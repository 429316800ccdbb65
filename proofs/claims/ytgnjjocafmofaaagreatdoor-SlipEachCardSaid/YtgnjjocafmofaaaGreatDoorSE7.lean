/- Texts of the proof, part 7: Eng29, Lg2, Eng27, Lg3, Eng18, Sm1, Eng30, Eng31, Eng33, LawEa. -/
import Derived.ChangeKeysEq
import Derived.Laws.Small
import Derived.Laws.Cover1
import Derived.Laws.BitsAllLaws
import Derived.Test.YtgnjjocafmofaaaGreatDoorSE6
/- The proof engine, part 29: two results in variables, where marks lie. -/
namespace Go.Proofs.YtgnjjocafmofaaaGreatDoor
open Go.RowKit

theorem fin2CCM {P : Program} {fn : Func} {n N t ty b size bytes t1 ty1 b1 : Nat} {R : Value → World → Prop} {s : Sl} {ds : List Deferred} {w : World} {cs : List Value} {dd dd1 : TypeDesc} {z v1 : Value} {e e1 : Nat} (hf : fn.results = #[.cell t ty, .cell t1 ty1]) (ht : Nat.blt t n = true) (h1 : Nat.blt t1 n = true)
    (hs : s t = .pointer (some ⟨b, 0, none⟩)) (hs1 : s t1 = .pointer (some ⟨b1, 0, none⟩)) (hb : Bk w b cs e) (hb1 : Bk w b1 [v1] e1) [hu : TU P ty dd] (hag : TypeDesc.isAgg dd = true) [hz : TS P ty z size bytes] (hl : cs.length = size) [hu1 : TU P ty1 dd1] (hag1 : TypeDesc.isAgg dd1 = false) (hm : Mks N w ds)
    (h : ∀ w', Grow N w w' → R (.tuple #[.agg cs.toArray, v1]) w') : finM P fn n N R s ds w := by
  unfold finM
  refine ⟨hm, fun w' g => ⟨.tuple #[.agg cs.toArray, v1], ?_, h w' g⟩⟩
  have e0 : (mkA n s []).tmps[t]?.getD undef = .pointer (some ⟨b, 0, none⟩) := by
    rw [mkA_getElem?, if_pos (by simpa using ht)]; exact hs
  have e1 : (mkA n s []).tmps[t1]?.getD undef = .pointer (some ⟨b1, 0, none⟩) := by
    rw [mkA_getElem?, if_pos (by simpa using h1)]; exact hs1
  have hA := Bk.toAt (h := hb.grow g)
  have r0 := run_loadVar_agg (P := P) (t := ty) (w := w') (b := b) (o := 0) hu hag hz (cs := cs) hl (fun i v hv => by have := hA.h i v hv; simpa using this)
  have hc1 : w'.cell? ⟨b1, 0, none⟩ = some v1 := Bk.cell1 (hb1.grow g)
  have r1 := run_loadVar_cell (P := P) (w := w') hu1 hag1 hc1
  simp [results, hf, e0, e1, asAddr, r0, r1]
end Go.Proofs.YtgnjjocafmofaaaGreatDoor

/- leaf: Words, PlaceOf. -/
namespace Go.Proofs.YtgnjjocafmofaaaGreatDoor
open Go.RowKit

def wordsR (t : Tx) : Int × Int := if textB t then ((allW t t.length).length, 0) else (0, 10)
theorem allW_small {cs : List Ch} (ht : textB (txF cs) = true) : (allW (txF cs) (txF cs).length).length ≤ 600 := by
  have h := allS_len (side := 1) (wd := 12) ht
  rw [allS, List.length_map] at h
  rw [allW_len]; exact h
section
variable (a : Option Addr) (c : Nat) (cs : List Ch) (w : World) [hrow : RowI w (.slice a cs.length c) true 2 (cs.map encCh)] [hT : TextI w cs]
set_option maxHeartbeats 2000000 in
theorem Words_leaf (hs : SmallT cs) : Ct Tryz.prog 46 [.agg #[.slice a cs.length c]] w fun v _ => v = .tuple #[.int .i64 (wordsR (txF cs)).1, .int .i64 (wordsR (txF cs)).2] := by
  refine Ct.ofWM (by simp) ?_
  (refine jjB ?_; refine jjC ?_)
  (refine jy rfl ?_; intro b1 w_b1 hb_b1 hs_b1 hS_b1 hk_b1; have hA_b1 := At.ofBlock hk_b1)
  (apply jJ; exact eI rfl; apply jJ; exact eI rfl; refine jz ?_; refine jjB ?_; refine jjC ?_; refine jO rfl rfl rfl rfl ?_)
  obtain ⟨B, hB⟩ : ∃ B, textB (txF cs) = B := ⟨_, rfl⟩
  refine jjQ ((open_leaf a c cs _ hs).mono fun v _ _ h => by rw [hB] at h; exact h) rfl rfl ?_
  rintro _ w2 hS2 ⟨o, rfl, ho⟩
  have hE2 : Ext w w2 := inferInstance
  rw [wordsR, hB]
  cases B with
  | false =>
    (apply jI; exact eU rfl; refine ju rfl rfl ?_; refine ju rfl rfl ?_; apply jJ; exact rfl; apply jJ; exact eI rfl; refine jz ?_; refine jjB ?_; refine jjB ?_; refine jjC ?_; apply jI; exact eI rfl; refine jc rfl rfl ?_; refine jz ?_; refine jjJ rfl ?_; refine jjB ?_; refine jjC ?_; apply jI; exact eI rfl; apply jJ; exact eI rfl; apply jJ; exact eI rfl; refine jz ?_; refine jjF ?_)
    refine fin2M rfl rfl rfl inferInstance fun w' g => ⟨hE2.ofGrow g (Nat.le_refl _), rfl⟩
  | true =>
  obtain ⟨bk, hbk, rfl, hAk⟩ := ho rfl
  have hal := allW_small hB
  rw [if_pos rfl]
  (apply jI; exact eU rfl; refine ju rfl rfl ?_; refine ju rfl rfl ?_; apply jJ; exact eP rfl; apply jJ; exact eI rfl; refine jz ?_; refine jjB ?_; refine jjB ?_; refine jjC ?_; apply jI; exact eI rfl; refine jc rfl rfl ?_; refine jz ?_; refine jjK rfl ?_; refine jjG ?_; refine jjB ?_; refine jjC ?_)
  (apply jjR rfl; (intro _; first|exact eI rfl|exact eB rfl|exact eP rfl|exact eS rfl|exact eT rfl|exact eA rfl|exact eU rfl|exact eF rfl|exact eM rfl|exact eN rfl|exact rfl); exact rfl; exact rfl; exact rfl; exact rfl; intro b6 w_b6 hb_b6 hs_b6 hS_b6 hk_b6; have hA_b6 := Bk.of hk_b6)
  (refine jz ?_; refine jjB ?_; refine jjB ?_; refine jjC ?_; apply jI; exact eP rfl)
  refine jjQ (all_leaf bk _) rfl rfl ?_
  rintro _ w7 hS7 ⟨bx, rfl, hbx, hAx⟩
  (refine jz ?_; refine jjD ?_)
  have hE7 : Ext w w7 := inferInstance
  have zz := hE7.size
  have z2 := hE2.size
  have z6 := hS_b6.size
  have z7 := hS7.size
  have hB6 : Bk w7 b6 [.int .i64 0] 3 := inferInstance
  have hAk7 : At w7 bk 0 [.slice a cs.length c] := (hAk.ext hS_b6.ext).ext hS7.ext
  have hlk := hAk.lt
  have hlx := hAx.lt
  refine W.range w.heap.size (allW (txF cs) (txF cs).length) encPW (all1_leaf bx bk a c cs hs) rfl (fun _ => rfl) trivial inferInstance hE7.size
    (fun i V => Ext w V ∧ w7.heap.size ≤ V.heap.size ∧ Bk V b6 [.int .i64 ((i : Nat) : Int)] 3 ∧ At V bx 0 [.pointer (some ⟨bk, 0, none⟩)] ∧ At V bk 0 [.slice a cs.length c])
    (fun _ _ _ => False) ?hJ (fun _ _ _ _ h _ => h) ?hF ?h0 (fun x s' _ => s' 6 = .pointer (some ⟨b6, 0, none⟩)) (fun _ _ _ _ h _ => h) ?hassign ?hbody ?hdone (fun _ _ _ _ _ _ _ h => h.elim)
  case hJ =>
    rintro i V V' ⟨h1, h2, h3, h4, h5⟩ g
    exact ⟨h1.ofGrow g zz, Nat.le_trans h2 g.size, h3.grow g, h4.grow g, h5.grow g⟩
  case hF =>
    rintro i V ⟨h1, h2, h3, h4, h5⟩
    exact ⟨h2, h4, h5, hrow.h.ext h1, hT.ext h1⟩
  case h0 => exact ⟨hE7, Nat.le_refl _, hB6, hAx, hAk7⟩
  case hassign =>
    intro l i x V hx hJ hl hr
    (refine jjG ?_)
    exact ⟨rfl, Tr.refl _, Fr.refl _ _, hJ, rfl⟩
  case hbody =>
    rintro l i x s' V hx ⟨h1, h2, h3, h4, h5⟩ ha6 hl hr
    have hlt := (List.getElem?_eq_some_iff.1 hx).1
    refine W.fix (d := 6) ha6 ?_
    (refine jjD ?_; refine jjC ?_; refine jN rfl rfl rfl ?_; refine jY rfl rfl (by omega) ?_)
    refine Ops.store rfl rfl rfl rfl rfl ?_
    intro V2 hp2
    (refine jz ?_)
    refine ⟨hp2.tr ⟨_, h3.h, rfl⟩, hp2.frS (by omega), hp2.ext h1 (by omega), by rw [hp2.size]; exact h2, ?_, hp2.at_ h4 (by omega), hp2.at_ h5 (by omega)⟩
    have e : (((i + 1 : Nat) : Nat) : Int) = (i : Int) + 1 := by omega
    rw [e]; exact ⟨hp2.new⟩
  case hdone =>
    rintro ds' V hmk htr ⟨h1, h2, h3, h4, h5⟩
    (refine jjB ?_; refine jjC ?_; refine jN rfl rfl rfl ?_; apply jJ; exact eI rfl; apply jJ; exact eI rfl; refine jz ?_; refine jjF ?_)
    refine fin2M rfl rfl rfl hmk fun w' g => ⟨h1.ofGrow g (Nat.le_refl _), rfl⟩
set_option maxHeartbeats 4000000 in
theorem PlaceOf_leaf (hs : SmallT cs) (ht : textB (txF cs) = true) (m : Nat) (p : Pl) (hm : (allP (txF cs) (txF cs).length)[m]? = some p) : Ct Tryz.prog 53 [.agg #[.slice a cs.length c], .int .i64 (m : Int)] w fun v _ => v = .tuple #[encPl p, .int .i64 0] := by
  have hml := (List.getElem?_eq_some_iff.1 hm).1
  have hal := allW_small ht
  have hll := allW_len (txF cs) (txF cs).length
  refine Ct.ofWM (by simp) ?_
  (refine jjB ?_; refine jjC ?_)
  (refine jy rfl ?_; intro b2 w_b2 hb_b2 hs_b2 hS_b2 hk_b2; have hA_b2 := At.ofBlock hk_b2)
  skip
  (refine jy rfl ?_; intro b3 w_b3 hb_b3 hs_b3 hS_b3 hk_b3; have hA_b3 := At.ofBlock hk_b3)
  ((skip); refine jjY ?_; intro b4 w_b4 hb_b4 hs_b4 hS_b4 hk_b4; have hA_b4 := Bk.of hk_b4)
  ((skip); refine jjY ?_; intro b5 w_b5 hb_b5 hs_b5 hS_b5 hk_b5; have hA_b5 := Bk.of hk_b5)
  (refine jz ?_; refine jjB ?_; refine jjC ?_; refine jO rfl rfl rfl rfl ?_)
  refine jjQ ((open_leaf a c cs _ hs).mono fun v _ _ h => by rw [ht] at h; exact h) rfl rfl ?_
  rintro _ w6 hS6 ⟨o, rfl, ho⟩
  obtain ⟨bk, hbk, rfl, hAk⟩ := ho rfl
  rw [if_pos rfl]
  (apply jI; exact eU rfl; refine ju rfl rfl ?_; refine ju rfl rfl ?_; apply jJ; exact eP rfl; apply jJ; exact eI rfl; refine jz ?_; refine jjB ?_; refine jjB ?_; refine jjC ?_; apply jI; exact eI rfl; refine jjk rfl rfl (by omega) ?_; refine jz ?_; refine jjK rfl ?_; refine jjG ?_; refine jjB ?_; refine jjB ?_; refine jjC ?_; apply jI; exact eP rfl)
  refine jjQ (all_leaf bk _) rfl rfl ?_
  rintro _ w7 hS7 ⟨bx, rfl, hbx, hAx⟩
  have hE7 : Ext w w7 := inferInstance
  have zz := hE7.size
  have z2 := hS_b2.size
  have z3 := hS_b3.size
  have z4 := hS_b4.size
  have z5 := hS_b5.size
  have z6 := hS6.size
  have z7 := hS7.size
  have hk3 : Bk w_b3 b3 [.int .i64 (m : Int)] 3 := Bk.of hk_b3
  have hB3 : Bk w7 b3 [.int .i64 (m : Int)] 3 := ((((hk3.ext hS_b4.ext).ext hS_b5.ext).ext hS6.ext).ext hS7.ext)
  have hB4 : Bk w7 b4 [.int .i64 0, .int .i64 0, .int .i64 0] 43 := inferInstance
  have hB5 : Bk w7 b5 [.int .i64 0] 32 := inferInstance
  have hAk7 : At w7 bk 0 [.slice a cs.length c] := hAk.ext hS7.ext
  have hlk := hAk.lt
  have hlx := hAx.lt
  (refine jz ?_; refine jjD ?_)
  refine W.range w.heap.size (allW (txF cs) (txF cs).length) encPW (all1_leaf bx bk a c cs hs) rfl (fun _ => rfl) trivial inferInstance hE7.size
    (fun i V => Ext w V ∧ w7.heap.size ≤ V.heap.size ∧ (i ≤ m ∧ Bk V b3 [.int .i64 ((m : Int) - (i : Int))] 3) ∧ (∃ u1 u2 u3, Bk V b4 [.int .i64 u1, .int .i64 u2, .int .i64 u3] 43) ∧ (∃ u, Bk V b5 [.int .i64 u] 32) ∧ At V bx 0 [.pointer (some ⟨bk, 0, none⟩)] ∧ At V bk 0 [.slice a cs.length c])
    (fun cc _ V => cc = .ret ∧ Ext w V ∧ Bk V b4 (encPl p).cells.toList 43 ∧ Bk V b5 [.int .i64 0] 32) ?hJ ?hJx ?hF ?h0 (fun x s' V => ∃ b, s' 3 = .pointer (some ⟨b3, 0, none⟩) ∧ s' 4 = .pointer (some ⟨b4, 0, none⟩) ∧ s' 5 = .pointer (some ⟨b5, 0, none⟩) ∧ s' 8 = .pointer (some ⟨b, 0, none⟩) ∧ Bk V b (encPl x.1).cells.toList 43) (fun x s V V' ⟨b, h1, h2, h3, h4, h5⟩ g => ⟨b, h1, h2, h3, h4, h5.grow g⟩) ?hassign ?hbody ?hdone ?hstop
  case hJ =>
    rintro i V V' ⟨h1, h2, ⟨hi, h3⟩, ⟨u1, u2, u3, h4⟩, ⟨u, h5⟩, h6, h7⟩ g
    exact ⟨h1.ofGrow g zz, Nat.le_trans h2 g.size, ⟨hi, h3.grow g⟩, ⟨u1, u2, u3, h4.grow g⟩, ⟨u, h5.grow g⟩, h6.grow g, h7.grow g⟩
  case hJx =>
    rintro cc i V V' ⟨h0, h1, h2, h3⟩ g
    exact ⟨h0, h1.ofGrow g zz, h2.grow g, h3.grow g⟩
  case hF =>
    rintro i V ⟨h1, h2, h3, h4, h5, h6, h7⟩
    exact ⟨h2, h6, h7, hrow.h.ext h1, hT.ext h1⟩
  case h0 => exact ⟨hE7, Nat.le_refl _, ⟨Nat.zero_le _, by rw [show (m : Int) - ((0 : Nat) : Int) = (m : Int) by omega]; exact hB3⟩, ⟨_, _, _, hB4⟩, ⟨_, hB5⟩, hAx, hAk7⟩
  case hassign =>
    rintro l i x V hx ⟨h1, h2, ⟨hi, h3⟩, ⟨u1, u2, u3, h4⟩, ⟨u, h5⟩, h6, h7⟩ hl hr
    (refine jjC ?_)
    (apply jjR rfl; (intro _; first|exact eI rfl|exact eB rfl|exact eP rfl|exact eS rfl|exact eT rfl|exact eA rfl|exact eU rfl|exact eF rfl|exact eM rfl|exact eN rfl|exact rfl); exact rfl; exact rfl; exact rfl; exact rfl; intro b8 w_b8 hb_b8 hs_b8 hS_b8 hk_b8; have hA_b8 := Bk.of hk_b8)
    (refine jz ?_)
    have e8 := hS_b8.ext
    have y8 := e8.size
    exact ⟨rfl, e8.tr, Fr.ext e8, ⟨h1.trans e8, by omega, ⟨hi, h3.ext e8⟩, ⟨u1, u2, u3, h4.ext e8⟩, ⟨u, h5.ext e8⟩, h6.ext e8, h7.ext e8⟩, b8, rfl, rfl, rfl, rfl, inferInstance⟩
  case hbody =>
    rintro l i x s' V hx ⟨h1, h2, ⟨hi, h3⟩, ⟨u1, u2, u3, h4⟩, ⟨u, h5⟩, h6, h7⟩ ⟨b8, ha3, ha4, ha5, ha8, hb8⟩ hl hr
    refine W.fix (d := 3) ha3 (W.fix (d := 4) ha4 (W.fix (d := 5) ha5 (W.fix (d := 8) ha8 ?_)))
    have hx8 : At V b8 0 [.int .i64 x.1.1, .int .i64 x.1.2.1, .int .i64 x.1.2.2] := Bk.toAt (h := hb8)
    by_cases him : i = m
    · have hxp : x.1 = p := by
        have e1 := congrArg (·[i]?) (allW_fst (txF cs) (txF cs).length)
        simp only [List.getElem?_map, hx, Option.map_some] at e1
        rw [him, hm] at e1
        exact Option.some.inj e1
      have hz0 : (m : Int) - (i : Int) = 0 := by omega
      rw [hz0] at h3
      (refine jjD ?_; refine jjB ?_; refine jjB ?_; refine jjC ?_; refine jN rfl rfl rfl ?_; refine jjh rfl rfl (by omega) ?_; refine jz ?_; refine jjJ rfl ?_; refine jjB ?_; refine jjC ?_; refine jO rfl rfl rfl rfl ?_)
      refine Ops.store rfl rfl rfl rfl rfl ?_
      intro V2 hp2
      have h5' := hp2.bk h5 (by omega)
      skip
      refine Ops.store rfl rfl rfl rfl rfl ?_
      intro V3 hp3
      (refine jz ?_; refine jjF ?_)
      have m4 : Bk V2 b4 (encPl x.1).cells.toList 43 := ⟨hp2.new⟩
      refine ⟨(hp2.tr ⟨_, h4.h, rfl⟩).trans (hp3.tr ⟨_, h5'.h, rfl⟩), rfl, hp3.ext (hp2.ext h1 (by omega)) (by omega), ?_, ⟨hp3.new⟩⟩
      rw [← hxp]; exact hp3.bk m4 (by omega)
    · have hne : ¬ (m : Int) - (i : Int) = 0 := by omega
      (refine jjD ?_; refine jjB ?_; refine jjB ?_; refine jjC ?_; refine jN rfl rfl rfl ?_; refine jji rfl rfl (by omega) ?_; refine jz ?_; refine jjK rfl ?_; refine jjG ?_; refine jjC ?_; refine jN rfl rfl rfl ?_; refine jZ rfl rfl (by omega) ?_)
      refine Ops.store rfl rfl rfl rfl rfl ?_
      intro V2 hp2
      (refine jz ?_)
      refine ⟨hp2.tr ⟨_, h3.h, rfl⟩, hp2.frS (by omega), hp2.ext h1 (by omega), by rw [hp2.size]; exact h2, ⟨by omega, ?_⟩, ⟨u1, u2, u3, hp2.bk h4 (by omega)⟩, ⟨u, hp2.bk h5 (by omega)⟩, hp2.at_ h6 (by omega), hp2.at_ h7 (by omega)⟩
      have e : (m : Int) - ((i + 1 : Nat) : Int) = (m : Int) - (i : Int) - 1 := by omega
      rw [e]; exact ⟨hp2.new⟩
  case hdone =>
    rintro ds' V hmk htr ⟨h1, h2, ⟨hi, h3⟩, _⟩
    omega
  case hstop =>
    rintro ds' cc i V hmk htr hi ⟨rfl, h1, h2, h3⟩
    refine jjF ?_
    exact fin2CCM rfl rfl rfl rfl rfl h2 h3 rfl rfl rfl hmk fun w' g => ⟨h1.ofGrow g (Nat.le_refl _), rfl⟩
end
end Go.Proofs.YtgnjjocafmofaaaGreatDoor

/- The proof engine, part 27: a struct that lies within a struct of a known place. -/
namespace Go.Proofs.YtgnjjocafmofaaaGreatDoor
open Go.RowKit
section rules
variable {P : Program} {ro : Option Nat} {n : Nat} {all rest : List Oper} {K : Sl → World → Prop} {s : Sl} {w : World} {d : Nat} {ty : Nat} {pos : String} {af : Array Edge}
variable {x : Operand} {t : Nat}
theorem Ops.loadOA {b o off : Nat} {cs cs' : List Value} {dd : TypeDesc} {z : Value} {size bytes : Nat} (hc : At w b o cs) (hx : ev n s x = .pointer (some ⟨b, o + off, none⟩)) [ht : TU P t dd] (hs : TypeDesc.isAgg dd = true) [hz : TS P t z size bytes]
    (hl : (cs.drop off).take size = cs') (hn : cs'.length = size) (h : Ops P ro n all rest K (upd s d (.agg cs'.toArray)) w) : Ops P ro n all (⟨some d, .load t x, ty, pos, af, none⟩ :: rest) K s w :=
  Ops.loadA (cs := cs') ⟨fun i v hv => by
    refine (hc.drop off).h i v ?_
    rw [← hl, List.getElem?_take] at hv
    split at hv
    · exact hv
    · cases hv⟩ hx hs hn h
end rules
end Go.Proofs.YtgnjjocafmofaaaGreatDoor

/- leaf: placed, At. -/
namespace Go.Proofs.YtgnjjocafmofaaaGreatDoor
open Go.RowKit

/-- The word of a place, or the error. -/
def atR (t : Tx) (p : Pl) : ByteArray × Int := if textB t then (if placeB t p then (wordT t p, 0) else (⟨#[]⟩, 12)) else (⟨#[]⟩, 10)
section
variable (a : Option Addr) (c : Nat) (cs : List Ch) (w : World) [hrow : RowI w (.slice a cs.length c) true 2 (cs.map encCh)] [hT : TextI w cs]
set_option maxHeartbeats 2000000 in
theorem placed_leaf (hs : SmallT cs) (p : Pl) : Ct Tryz.prog 98 [.agg #[.slice a cs.length c], encPl p] w fun v w' => ∃ o, v = .tuple #[.pointer o, .int .i64 (atR (txF cs) p).2] ∧ ((atR (txF cs) p).2 = 0 → ∃ b, w.heap.size ≤ b ∧ o = some ⟨b, 0, none⟩ ∧ At w' b 0 [.slice a cs.length c]) := by
  refine Ct.ofW (by simp) ?_
  (refine jjB ?_; refine jjC ?_)
  (refine jy rfl ?_; intro b2 w_b2 hb_b2 hs_b2 hS_b2 hk_b2; have hA_b2 := At.ofBlock hk_b2)
  skip
  (refine jy rfl ?_; intro b3 w_b3 hb_b3 hs_b3 hS_b3 hk_b3; have hA_b3 := At.ofBlock hk_b3)
  (apply jJ; exact eN rfl; apply jJ; exact eI rfl; refine jz ?_; refine jjB ?_; refine jjC ?_; refine jO rfl rfl rfl rfl ?_)
  obtain ⟨B, hB⟩ : ∃ B, textB (txF cs) = B := ⟨_, rfl⟩
  refine jjQ ((open_leaf a c cs _ hs).mono fun v _ _ h => by rw [hB] at h; exact h) rfl rfl ?_
  rintro _ w4 hS4 ⟨o, rfl, ho⟩
  rw [atR, hB]
  cases B with
  | false =>
    (apply jI; exact eU rfl; refine ju rfl rfl ?_; refine ju rfl rfl ?_; apply jJ; exact rfl; apply jJ; exact eI rfl; refine jz ?_; refine jjB ?_; refine jjB ?_; refine jjC ?_; apply jI; exact eI rfl; refine jc rfl rfl ?_; refine jz ?_; refine jjJ rfl ?_; refine jjB ?_; refine jjC ?_; apply jI; exact eI rfl; apply jJ; exact eN rfl; apply jJ; exact eI rfl; refine jz ?_; refine jjF ?_; refine jC rfl rfl rfl ⟨inferInstance, ?_⟩)
    exact ⟨_, rfl, fun h => by simp at h⟩
  | true =>
  obtain ⟨bk, hbk, rfl, hAk⟩ := ho rfl
  obtain ⟨B2, hB2⟩ : ∃ B, placeB (txF cs) p = B := ⟨_, rfl⟩
  rw [if_pos rfl, if_pos rfl, hB2]
  (apply jI; exact eU rfl; refine ju rfl rfl ?_; refine ju rfl rfl ?_; apply jJ; exact eP rfl; apply jJ; exact eI rfl; refine jz ?_; refine jjB ?_; refine jjB ?_; refine jjC ?_; apply jI; exact eI rfl; refine jjk rfl rfl (by omega) ?_; refine jz ?_; refine jjK rfl ?_; refine jjG ?_; refine jjB ?_; refine jjB ?_; refine jjC ?_; apply jI; exact eP rfl; refine jO rfl rfl rfl rfl ?_)
  refine jjQ ((has_leaf a c cs _ bk p hs).mono fun v _ _ h => h.trans (by rw [placeC_B, hB2])) rfl rfl ?_
  rintro _ w5 hS5 rfl
  have z2 := hS_b2.size
  have z3 := hS_b3.size
  cases B2 with
  | false =>
    (refine jq rfl ?_; refine jz ?_; refine jjJ rfl ?_; refine jjB ?_; refine jjC ?_; apply jJ; exact eN rfl; apply jJ; exact eI rfl; refine jz ?_; refine jjF ?_; refine jC rfl rfl rfl ⟨inferInstance, ?_⟩)
    exact ⟨_, rfl, fun h => by simp at h⟩
  | true =>
    (refine jp rfl ?_; refine jz ?_; refine jjK rfl ?_; refine jjG ?_; refine jjB ?_; refine jjC ?_; apply jI; exact eP rfl; apply jJ; exact eP rfl; apply jJ; exact eI rfl; refine jz ?_; refine jjF ?_; refine jC rfl rfl rfl ⟨inferInstance, ?_⟩)
    exact ⟨_, rfl, fun _ => ⟨bk, by omega, rfl, hAk.ext hS5.ext⟩⟩
set_option maxHeartbeats 4000000 in
theorem At_leaf (hs : SmallT cs) (p : Pl) : Ct Tryz.prog 54 [.agg #[.slice a cs.length c], encPl p] w fun v _ => v = .tuple #[.string (atR (txF cs) p).1, .int .i64 (atR (txF cs) p).2] := by
  refine Ct.ofW (by simp) ?_
  (refine jjB ?_; refine jjC ?_)
  (refine jy rfl ?_; intro b2 w_b2 hb_b2 hs_b2 hS_b2 hk_b2; have hA_b2 := At.ofBlock hk_b2)
  skip
  (refine jy rfl ?_; intro b3 w_b3 hb_b3 hs_b3 hS_b3 hk_b3; have hA_b3 := At.ofBlock hk_b3)
  (apply jJ; exact eT rfl; apply jJ; exact eI rfl; refine jz ?_; refine jjB ?_; refine jjC ?_; refine jO rfl rfl rfl rfl ?_; refine jO rfl rfl rfl rfl ?_)
  obtain ⟨e, he⟩ : ∃ e, (atR (txF cs) p).2 = e := ⟨_, rfl⟩
  refine jjQ ((placed_leaf a c cs _ hs p).mono fun v _ _ h => by rw [he] at h; exact h) rfl rfl ?_
  rintro _ w4 hS4 ⟨o, rfl, ho⟩
  rw [he]
  have hin : e = 0 ∨ e = 10 ∨ e = 12 := by
    rw [← he, atR]; repeat' split
    all_goals simp
  by_cases h0 : e = 0
  rotate_left
  · have h1 : (atR (txF cs) p).1 = ⟨#[]⟩ := by
      rw [atR] at he ⊢
      repeat' split
      all_goals first | rfl | (exfalso; simp_all)
    rw [h1]
    (apply jI; exact eU rfl; refine ju rfl rfl ?_; refine ju rfl rfl ?_; apply jJ; exact rfl; apply jJ; exact eI rfl; refine jz ?_; refine jjB ?_; refine jjB ?_; refine jjC ?_; apply jI; exact eI rfl; refine jjj rfl rfl (by omega) ?_; refine jz ?_; refine jjJ rfl ?_; refine jjB ?_; refine jjC ?_; apply jI; exact eI rfl; apply jJ; exact eT rfl; apply jJ; exact eI rfl; refine jz ?_; refine jjF ?_; refine jC rfl rfl rfl ⟨inferInstance, ?_⟩)
    exact rfl
  subst h0
  obtain ⟨bk, hbk, rfl, hAk⟩ := ho rfl
  have hpl : textB (txF cs) = true ∧ placeB (txF cs) p = true := by
    rw [atR] at he
    split at he
    · split at he
      · exact ⟨‹_›, ‹_›⟩
      · simp at he
    · simp at he
  have h1 : (atR (txF cs) p).1 = wordT (txF cs) p := by rw [atR, if_pos hpl.1, if_pos hpl.2]
  obtain ⟨l, hl, q, hq', hp3⟩ := placeB_line hpl.2
  have hlc := lineC_T cs p
  rw [hl] at hlc
  obtain ⟨y, hy, rfl⟩ := Option.map_eq_some_iff.1 hlc.symm
  obtain ⟨x, hx, hyx⟩ := lineC_mem hy
  have hwt : wordT (txF cs) p = y.2.2[q] := by
    rw [wordT, hl, hp3, Int.toNat_natCast, Option.getD_some, List.getD_eq_getElem?_getD, List.getElem?_eq_getElem hq', Option.getD_some]
  rw [h1, hwt]
  have hrowy := hT.words x hx y hyx
  (apply jI; exact eU rfl; refine ju rfl rfl ?_; refine ju rfl rfl ?_; apply jJ; exact eP rfl; apply jJ; exact eI rfl; refine jz ?_; refine jjB ?_; refine jjB ?_; refine jjC ?_; apply jI; exact eI rfl; refine jjk rfl rfl (by omega) ?_; refine jz ?_; refine jjK rfl ?_; refine jjG ?_; refine jjB ?_)
  refine W.draw (fun w' => Ext w4 w') ?_
  intro w1 hS1
  (refine jjV [0, 1, 3, 4] ?_ ?_ ?_; (decide +kernel); (exact inferInstance); (((apply jjT; exact rfl; rintro w' hq; have := hq.toStep; apply jI; exact eP rfl; refine jz ?_; exact ⟨rfl, rfl⟩; apply jjT; exact rfl; rintro w' hq; have := hq.toStep; refine jO rfl rfl rfl rfl ?_; refine jz ?_; exact ⟨rfl, rfl⟩; apply jjT; exact rfl; rintro w' hq; have := hq.toStep; refine jm ?_; refine jn rfl ?_; refine jz ?_; exact ⟨rfl, rfl⟩; apply jjT; exact rfl; rintro w' hq; have := hq.toStep; refine jN rfl rfl rfl ?_; refine jz ?_; exact ⟨rfl, rfl⟩; refine jjU ?_))))
  (apply jjW 2; (decide +kernel); exact rfl; (exact inferInstance))
  refine jjQ ((line_leaf a c cs _ bk p hs).mono fun v _ _ h => h.trans (by rw [hy])) rfl rfl ?_
  rintro _ w5 hS5 rfl
  refine jz ?_
  have hE5 : Ext w w5 := inferInstance
  have hE45 : Ext w4 w5 := inferInstance
  obtain ⟨bw, ow, hya, hAw⟩ := hrowy.place' (map_get hq')
  have hln : lnV (some y) = .slice (some ⟨bw, ow, none⟩) y.2.2.length y.2.1 := by rw [← hya]
  rw [hln]
  rw [Nat.mul_one] at hAw
  refine jjV [5, 6, 7, 8] (by decide +kernel) hE45 ?_
  ((apply jjT; exact rfl; rintro w' hq; have := hq.toStep; refine jG (j := q) rfl rfl hp3 hq' ?_; refine jz ?_; exact ⟨rfl, rfl⟩; apply jjT; exact rfl; rintro w' hq; have := hq.toStep; refine jQ rfl rfl ?_; refine jz ?_; exact ⟨rfl, rfl⟩; apply jjT; exact rfl; rintro w' hq; have := hq.toStep; apply jJ; exact eT rfl; refine jz ?_; exact ⟨rfl, rfl⟩; apply jjT; exact rfl; rintro w' hq; have := hq.toStep; apply jJ; exact eI rfl; refine jz ?_; exact ⟨rfl, rfl⟩; refine jjU ?_))
  refine jjX (by decide +kernel) hE45 ?_
  (refine jjF ?_; refine jC rfl rfl rfl ⟨inferInstance, ?_⟩)
  exact rfl
end
end Go.Proofs.YtgnjjocafmofaaaGreatDoor

/- The proof engine, part 18: division of numbers that are not negative; equality of pairs. -/
namespace Go.Proofs.YtgnjjocafmofaaaGreatDoor
open Go.RowKit

section rules
variable {P : Program} {ro : Option Nat} {n : Nat} {all rest : List Oper} {K : Sl → World → Prop} {s : Sl} {w : World} {d : Nat} {ty : Nat} {pos : String} {af : Array Edge} {x y : Operand} {t t' : Nat} {a b : Int}
theorem Ops.rem (hx : ev n s x = .int .i64 a) (hy : ev n s y = .int .i64 b) (h0 : 0 ≤ a) (h1 : 0 < b) (h : Ops P ro n all rest K (upd s d (.int .i64 (a % b))) w) :
    Ops P ro n all (⟨some d, .binOp .rem t x y t', ty, pos, af, none⟩ :: rest) K s w :=
  Ops.ofRun rfl (by
    have e1 : Int.tmod a b = a % b := Int.tmod_eq_emod_of_nonneg h0
    have e3 : ¬ b = 0 := by omega
    simp [execOp, hx, hy, go_sem, Op.intDiv, e1, e3]) h
theorem Ops.quo (hx : ev n s x = .int .i64 a) (hy : ev n s y = .int .i64 b) (h0 : 0 ≤ a) (h0' : a ≤ 9223372036854775807) (h1 : 0 < b) (h : Ops P ro n all rest K (upd s d (.int .i64 (a / b))) w) :
    Ops P ro n all (⟨some d, .binOp .quo t x y t', ty, pos, af, none⟩ :: rest) K s w :=
  Ops.ofRun rfl (by
    have e1 : Int.tdiv a b = a / b := Int.tdiv_eq_ediv_of_nonneg h0
    have e2 : IntKind.i64.wrap (a / b) = a / b := by
      have := Int.ediv_nonneg h0 (Int.le_of_lt h1)
      have := Int.ediv_le_self b h0
      rw [IntKind.wrap_i64]; omega
    have e3 : ¬ b = 0 := by omega
    simp [execOp, hx, hy, go_sem, Op.intDiv, e1, e2, e3]) h
theorem Ops.neqTN {α : Type} [DecidableEq α] {enc : α → Value} (u : α) [he : EqT P t enc] (hx : ev n s x = enc u) (hy : ev n s y = enc u) (h : Ops P ro n all rest K (upd s d (.bool false)) w) :
    Ops P ro n all (⟨some d, .binOp .neq t x y t', ty, pos, af, none⟩ :: rest) K s w :=
  Ops.neqT u u hx hy (by rw [decide_eq_false (by simp)]; exact h)
end rules

theorem eqT_arr2 {P : Program} {t e bytes : Nat} {z : Value} (hu : P.underlying t = some (.array 2 e)) (u0 : TU P e (.int .i64)) (hz : TS P e z 1 bytes) (hg : P.eqGuardType P.depth t = false) : EqT P t encII where
  eq w a b := by
    obtain ⟨i, hi, _, hs, _⟩ := hz.info
    have hc : P.cellsOf e = 1 := by simp [Program.cellsOf, hi, hs]
    simp only [encII, Op.equal, Op.maxDepth]
    rw [run_equalIn_array w 9999 _ _ hu hi, hc]
    have e0 : (Op.equalIn 9999 e (.int .i64 a.1) (.int .i64 b.1)).run P w = .ok (a.1 == b.1) w := run_equalIn_int (P := P) w 9998 e .i64 .i64 a.1 b.1 u0.h
    have e1 : (Op.equalIn 9999 e (.int .i64 a.2) (.int .i64 b.2)).run P w = .ok (a.2 == b.2) w := run_equalIn_int (P := P) w 9998 e .i64 .i64 a.2 b.2 u0.h
    obtain ⟨a1, a2⟩ := a
    obtain ⟨b1, b2⟩ := b
    simp only at e0 e1
    have p0 : ∀ c1 c2 : Int, (part e #[Value.int .i64 c1, Value.int .i64 c2] 0).run P w = .ok (.int .i64 c1) w := fun c1 c2 => by simp [part, run_isAgg w u0, TypeDesc.isAgg]
    have p1 : ∀ c1 c2 : Int, (part e #[Value.int .i64 c1, Value.int .i64 c2] 1).run P w = .ok (.int .i64 c2) w := fun c1 c2 => by simp [part, run_isAgg w u0, TypeDesc.isAgg]
    have hr : List.range 2 = [0, 1] := by decide
    rw [hr]
    simp only [Op.eqItems, Nat.zero_mul, Nat.one_mul, Sem.run_bind, p0, Result.andThen_ok, e0]
    by_cases c0 : a1 = b1
    · subst c0
      by_cases c1 : a2 = b2
      · subst c1; simp [p1, e1]
      · have c1' : (a2 == b2) = false := by simpa using c1
        simp [c1, p1, e1, c1']
    · simp [c0]
  guard op x y w a b := by
    cases op <;> simp [encII, eqGuard, hg]
  kind a b := ⟨fun w => by simp [encII, binOp], fun w => by simp [encII, binOp]⟩
end Go.Proofs.YtgnjjocafmofaaaGreatDoor

/- The reference: the same list of slips. -/
namespace Go.Proofs.YtgnjjocafmofaaaGreatDoor
open Go.RowKit

set_option maxHeartbeats 2000000 in
theorem SameSl_yes (a1 a2 : Option Addr) (c1 c2 : Nat) (l : List Slp) (w : World) (hl : l.length ≤ 1000000) [h1 : RowI w (.slice a1 l.length c1) true 6 (l.map encSl)] [h2 : RowI w (.slice a2 l.length c2) true 6 (l.map encSl)] :
    Ct Tryz.prog 48 [.slice a1 l.length c1, .slice a2 l.length c2] w fun v _ => v = .bool true := by
  refine Ct.ofW (by simp) ?_
  (refine jjB ?_; refine jjC ?_; apply jJ; exact eB rfl; refine jz ?_; refine jjB ?_; refine jjB ?_; refine jjC ?_; apply jI; exact eS rfl; refine jh rfl ?_; apply jI; exact eS rfl; refine jh rfl ?_; refine jjk rfl rfl (by omega) ?_; refine jz ?_; refine jjK rfl ?_; refine jjG ?_; refine jjB ?_; refine jjB ?_; refine jjC ?_; apply jJ; exact eI rfl; refine jz ?_; refine jjD ?_)
  refine W.loop (11 :: 12 :: 13 :: 14 :: 17 :: 18 :: 19 :: 20 :: 21 :: 22 :: 23 :: 24 :: 25 :: 4 :: 15 :: 16 :: 5 :: []) (fun g s' V => ∃ k : Nat, s' 5 = .int .i64 ((k : Nat) : Int) ∧ g = l.length - k ∧ k ≤ l.length) l.length ⟨0, rfl, rfl, Nat.zero_le _⟩ ?_
  rintro _ sd w1 hS1 ⟨k, h5, rfl, hk⟩
  refine W.fix h5 ?_
  clear h5
  by_cases k1 : k < l.length
  · (refine jjB ?_; refine jjB ?_; refine jjC ?_; apply jI; exact eI rfl; apply jI; exact eS rfl; refine jh rfl ?_; refine jjZ rfl rfl (by omega) ?_; refine jz ?_; refine jjJ rfl ?_; refine jjG ?_; refine jjB ?_; refine jjD ?_; refine jjB ?_)
    refine W.draw (fun w' => Ext w1 w') ?_
    intro w2 hS2
    have hz := (h1.h.ext hS1.ext).place' (map_get k1)
    obtain ⟨q1, o1, rfl, hA1⟩ := hz
    have hz := (h2.h.ext hS1.ext).place' (map_get k1)
    obtain ⟨q2, o2, rfl, hA2⟩ := hz
    refine jjV [0, 1, 2, 3, 4, 5, 6, 7] (by decide +kernel) hS2.ext ?_
    (((apply jjT; exact rfl; rintro w' hq; have := hq.toStep; apply jI; exact eS rfl; refine jz ?_; exact ⟨rfl, rfl⟩; apply jjT; exact rfl; rintro w' hq; have := hq.toStep; apply jI; exact eI rfl; refine jz ?_; exact ⟨rfl, rfl⟩; apply jjT; exact rfl; rintro w' hq; have := hq.toStep; refine jH _ rfl rfl rfl (by omega) ?_; refine jz ?_; exact ⟨rfl, rfl⟩; apply jjT; exact rfl; rintro w' hq; have := hq.toStep; refine jQ rfl rfl ?_; refine jz ?_; exact ⟨rfl, rfl⟩; apply jjT; exact rfl; rintro w' hq; have := hq.toStep; apply jI; exact eS rfl; refine jz ?_; exact ⟨rfl, rfl⟩; apply jjT; exact rfl; rintro w' hq; have := hq.toStep; apply jI; exact eI rfl; refine jz ?_; exact ⟨rfl, rfl⟩; apply jjT; exact rfl; rintro w' hq; have := hq.toStep; refine jH _ rfl rfl rfl (by omega) ?_; refine jz ?_; exact ⟨rfl, rfl⟩; apply jjT; exact rfl; rintro w' hq; have := hq.toStep; refine jQ rfl rfl ?_; refine jz ?_; exact ⟨rfl, rfl⟩; refine jjU ?_)))
    apply jjW 8 (by decide +kernel) rfl hS2.ext
    refine Ops.neqTN (enc := encSl) l[k] rfl rfl ?_
    refine jz ?_
    refine jjX (by decide +kernel) hS2.ext ?_
    (refine jjK rfl ?_; refine jjG ?_; refine jjC ?_; apply jI; exact eI rfl; refine jY rfl rfl (by omega) ?_; apply jJ; exact eI rfl; refine jz ?_)
    exact ⟨rfl, by ((refine Same.upd rfl ?_; refine Same.upd rfl ?_; refine Same.upd rfl ?_; refine Same.upd rfl ?_; refine Same.upd rfl ?_; refine Same.upd rfl ?_; refine Same.upd rfl ?_; refine Same.upd rfl ?_; refine Same.upd rfl ?_; refine Same.upd rfl ?_; refine Same.upd rfl ?_; refine Same.upd rfl ?_; refine Same.upd rfl ?_; refine Same.upd rfl ?_; refine Same.upd rfl ?_; refine Same.upd rfl ?_; refine Same.upd rfl ?_; exact Same.ovN)), l.length - (k + 1), by omega, hS1.ext.trans hS2.ext, k + 1, congrArg (Value.int .i64) (by omega), rfl, by omega⟩
  · (refine jjB ?_; refine jjB ?_; refine jjC ?_; apply jI; exact eI rfl; apply jI; exact eS rfl; refine jh rfl ?_; refine jja rfl rfl (by omega) ?_; refine jz ?_; refine jjK rfl ?_; refine jjE ?_; refine jjB ?_; refine jjC ?_; apply jJ; exact eB rfl; refine jz ?_; refine jjF ?_; refine jB rfl rfl ⟨inferInstance, ?_⟩)
    exact rfl
end Go.Proofs.YtgnjjocafmofaaaGreatDoor

/- The proof engine, part 30: comparisons of booleans; >= of strings. -/
namespace Go.Proofs.YtgnjjocafmofaaaGreatDoor
open Go.RowKit
section rules
variable {P : Program} {ro : Option Nat} {n : Nat} {all rest : List Oper} {K : Sl → World → Prop} {s : Sl} {w : World} {d : Nat} {ty : Nat} {pos : String} {af : Array Edge}
variable {x y : Operand} {t t' : Nat}
theorem Ops.neqBB {p q : Bool} (hx : ev n s x = .bool p) (hy : ev n s y = .bool q) [ht : TU P t .bool] (h : Ops P ro n all rest K (upd s d (.bool (p != q))) w) :
    Ops P ro n all (⟨some d, .binOp .neq t x y t', ty, pos, af, none⟩ :: rest) K s w :=
  Ops.ofRun rfl (by simp [execOp, hx, hy, go_sem, binOp, run_equal_bool w t p q ht.h, bne]) h
theorem Ops.eqlBB {p q : Bool} (hx : ev n s x = .bool p) (hy : ev n s y = .bool q) [ht : TU P t .bool] (h : Ops P ro n all rest K (upd s d (.bool (p == q))) w) :
    Ops P ro n all (⟨some d, .binOp .eql t x y t', ty, pos, af, none⟩ :: rest) K s w :=
  Ops.ofRun rfl (by simp [execOp, hx, hy, go_sem, binOp, run_equal_bool w t p q ht.h, bne]) h
theorem Ops.geqS {a b : ByteArray} (hx : ev n s x = .string a) (hy : ev n s y = .string b) (h : Ops P ro n all rest K (upd s d (.bool (!Op.bytesLess a.toList b.toList))) w) :
    Ops P ro n all (⟨some d, .binOp .geq t x y t', ty, pos, af, none⟩ :: rest) K s w :=
  Ops.ofRun rfl (by simp [execOp, hx, hy, go_sem, binOp, Op.stringOp]) h
end rules
end Go.Proofs.YtgnjjocafmofaaaGreatDoor

/- The proof engine, part 31: min and max of three integers; integers of 16 bits. -/
namespace Go.Proofs.YtgnjjocafmofaaaGreatDoor
open Go.RowKit
theorem wrap16 {i : Int} (h0 : 0 ≤ i) (h1 : i ≤ 65535) : IntKind.wrap .u16 i = i := by
  rw [IntKind.wrap_u16]; omega
section rules
variable {P : Program} {ro : Option Nat} {n : Nat} {all rest : List Oper} {K : Sl → World → Prop} {s : Sl} {w : World} {d : Nat} {ty : Nat} {pos : String} {af : Array Edge}
variable {x y z : Operand} {at_ : Array Nat}
theorem Ops.min3 {a b c : Int} {k : IntKind} (hx : ev n s x = .int k a) (hy : ev n s y = .int k b) (hz : ev n s z = .int k c) (h : Ops P ro n all rest K (upd s d (.int k (min (min a b) c))) w) :
    Ops P ro n all (⟨some d, .call { callee := .builtin .min, args := #[x, y, z], argTypes := at_ }, ty, pos, af, none⟩ :: rest) K s w :=
  Ops.ofRun rfl (by
    have e : min (min a b) c = if c < (if b < a then b else a) then c else (if b < a then b else a) := by (repeat' split) <;> omega
    rw [e]
    simp [execOp, resolve, invoke, builtin, hx, hy, hz, run_min_int3]) h
theorem Ops.max3 {a b c : Int} {k : IntKind} (hx : ev n s x = .int k a) (hy : ev n s y = .int k b) (hz : ev n s z = .int k c) (h : Ops P ro n all rest K (upd s d (.int k (max (max a b) c))) w) :
    Ops P ro n all (⟨some d, .call { callee := .builtin .max, args := #[x, y, z], argTypes := at_ }, ty, pos, af, none⟩ :: rest) K s w :=
  Ops.ofRun rfl (by
    have e : max (max a b) c = if c > (if b > a then b else a) then c else (if b > a then b else a) := by (repeat' split) <;> omega
    rw [e]
    simp [execOp, resolve, invoke, builtin, hx, hy, hz, run_max_int3]) h
end rules
end Go.Proofs.YtgnjjocafmofaaaGreatDoor

/- The proof engine, part 33: ends of slices, told outright; rows beside what is appended. -/
namespace Go.Proofs.YtgnjjocafmofaaaGreatDoor
open Go.RowKit

theorem RowV.takeV {w : World} {agg : Bool} {k l c : Nat} {a : Option Addr} {xs : List Value} (h : RowV w agg k (.slice a l c) xs) {hi : Nat} (h2 : hi ≤ xs.length) : RowV w agg k (.slice a hi c) (xs.take hi) := by
  obtain ⟨rfl, hlc⟩ := h.cap
  have := h.part 0 hi (Nat.zero_le _) h2 c (by omega) a (fun _ => by cases a <;> simp [Addr.add])
  simpa using this
theorem RowV.dropV {w : World} {agg : Bool} {k l c : Nat} {a : Option Addr} {xs : List Value} (h : RowV w agg k (.slice a l c) xs) {lo : Nat} (h2 : lo ≤ xs.length) : RowV w agg k (cutV a c k lo l) (xs.drop lo) := by
  obtain ⟨rfl, hlc⟩ := h.cap
  have := h.cut (lo := lo) (hi := xs.length) h2 (Nat.le_refl _)
  rwa [List.take_length] at this
theorem App.row {B : Nat} {w w' : World} {u v : Value} {agg : Bool} {k : Nat} {xs : List Value} (a : App B w w' u) (h : RowV w agg k v xs) (hne : ∀ g, u.ownBlock = some g → v.ownBlock ≠ some g) : RowV w' agg k v xs :=
  ⟨h.len, h.fit, h.at_.imp id fun ⟨b, o, c, hv, hl, hc⟩ => ⟨b, o, c, hv, hl, fun j x hx => a.at_ (hc j x hx) (fun e => hne b e (by rw [hv]; rfl))⟩⟩
section rules
variable {P : Program} {ro : Option Nat} {n : Nat} {all rest : List Oper} {K : Sl → World → Prop} {s : Sl} {w : World} {d t e ty : Nat} {pos : String} {af : Array Edge} {x : Operand}
theorem Ops.sliceXLv {k bytes l c lo : Nat} {z : Value} {a : Option Addr} {i : Int} {k1 : IntKind} {xl : Operand} (hx : ev n s x = .slice a l c) (hl : ev n s xl = .int k1 i)
    (hi' : i = (lo : Int)) (h1 : lo ≤ l) [ht : TSl P t e] [hz : TS P e z k bytes]
    (h : Ops P ro n all rest K (upd s d (cutV a c k lo l)) w) : Ops P ro n all (⟨some d, .slice t x (some xl) none none, ty, pos, af, none⟩ :: rest) K s w := by
  subst hi'
  refine Ops.ofRun (v := cutV a c k lo l) (w' := w) rfl ?_ h
  simp [cutV, execOp, Instr.sliceAt, Instr.slice, Instr.sliceBounds, Instr.sliceBound, hx, hl, run_underlying ht.h, asIntOf, h1, run_sizeOf' w hz]
end rules
end Go.Proofs.YtgnjjocafmofaaaGreatDoor

/- The law: each occurrence of each word has one slip. -/
namespace Go.Proofs.YtgnjjocafmofaaaGreatDoor
open Go.RowKit

theorem all_slE (l : List Slp) : (l.map encSl).all (fun v => v.cells.toList.all (·.oneCell')) = true := by
  rw [List.all_eq_true]; intro x hx; obtain ⟨y, _, rfl⟩ := List.mem_map.1 hx; rfl
section
variable (a : Option Addr) (c : Nat) (cs : List Ch) (wd side : Int) (w : World) [hrow : RowI w (.slice a cs.length c) true 2 (cs.map encCh)] [hT : TextI w cs] [hgs : At w 1 0 sidesC] [hgk : At w 0 0 kindsC] [hmx : MxI w]
set_option maxRecDepth 20000 in
set_option maxHeartbeats 16000000 in
theorem SlipEach_law (hd : 0 ≤ side ∧ side ≤ 255) (x1 : Nat) (hx1 : x1 ≤ 65535) : Ct Tryz.prog 12 [.agg #[.slice a cs.length c], encCut wd side, .int .u16 (x1 : Int)] w fun v _ => v = .bool true := by
  refine Ct.ofW (by simp) ?_
  (refine jjB ?_; refine jjC ?_)
  (refine jy rfl ?_; intro b3 w_b3 hb_b3 hs_b3 hS_b3 hk_b3; have hA_b3 := At.ofBlock hk_b3)
  skip
  (refine jy rfl ?_; intro b4 w_b4 hb_b4 hs_b4 hS_b4 hk_b4; have hA_b4 := At.ofBlock hk_b4)
  (apply jJ; exact eB rfl; refine jz ?_; refine jjB ?_; refine jjC ?_)
  refine jjQ (alive_law3 _) rfl rfl ?_
  rintro _ w6 hS6 rfl
  obtain ⟨R, hR⟩ : ∃ R, readyB (txF cs) wd side = R := ⟨_, rfl⟩
  (apply jJ; exact eB rfl; refine jz ?_; refine jjB ?_; refine jjB ?_; refine jjC ?_; refine jO rfl rfl rfl rfl ?_; refine jO rfl rfl rfl rfl ?_)
  refine jjQ ((ready_law3 a c cs wd side _ hd).mono fun v _ _ h => h.trans (by rw [hR])) rfl rfl ?_
  rintro _ w7 hS7 rfl
  cases R with
  | false =>
    (refine jq rfl ?_; apply jI; exact eB rfl; refine jU rfl rfl rfl rfl ?_; refine jU rfl rfl rfl rfl ?_; apply jK rfl; exact eB rfl; refine jz ?_; refine jjJ rfl ?_; refine jjB ?_; refine jjC ?_; apply jI; exact eB rfl; apply jJ; exact eB rfl; refine jz ?_; refine jjF ?_; refine jB rfl rfl ⟨inferInstance, ?_⟩)
    exact rfl
  | true =>
  obtain ⟨hG, ht, hc⟩ := readyB_yes hR
  have hs := small_of_great hG
  have ha : askE (txF cs) wd side = 0 := askE_yes ht hc
  have hll := allW_len (txF cs) (txF cs).length
  have hlS := allS_lenP (txF cs) side wd
  have hmn := missF_none (t := txF cs) (wd := wd) (side := side) (ls := allS (txF cs) side wd) fun _ h => h
  have hm1 := fun k hk => missF_one (t := txF cs) (wd := wd) (side := side) (k := k) hk
  have hwr := fun s hs => wrong_own (t := txF cs) ht (wd := wd) (side := side) hc (s := s) hs ha
  have hF := allF ht hc
  (refine jp rfl ?_; apply jI; exact eB rfl; refine jT rfl rfl rfl ?_; apply jI; exact eB rfl; refine jT rfl rfl rfl ?_; refine jp rfl ?_; apply jL rfl; exact eB rfl; refine jz ?_; refine jjK rfl ?_; refine jjG ?_; refine jjB ?_; refine jjC ?_; refine jO rfl rfl rfl rfl ?_; refine jO rfl rfl rfl rfl ?_)
  refine jjQ ((All_slip a c cs wd side _ hs hd).mono fun v _ _ h => by rw [ha, allR, if_pos ha] at h; exact h) rfl rfl ?_
  rintro _ w8 hS8 ⟨sv, rfl, hO⟩
  obtain ⟨l, hl⟩ : ∃ l, allS (txF cs) side wd = l := ⟨_, rfl⟩
  rw [hl] at hO hlS hmn hm1 hwr hF
  obtain ⟨la, lc, rfl⟩ := hO.slice
  rw [List.length_map] at hO ⊢
  (apply jI; exact eU rfl; refine ju rfl rfl ?_; refine ju rfl rfl ?_; apply jJ; exact eS rfl; apply jJ; exact eI rfl; refine jz ?_; refine jjB ?_; refine jjC ?_; refine jO rfl rfl rfl rfl ?_)
  refine jjQ ((Words_leaf a c cs _ hs).mono fun v _ _ h => h.trans (by rw [wordsR, if_pos ht, hll, ← hlS])) rfl rfl ?_
  rintro _ w9 hS9 rfl
  have hL6 := hF.len
  have hL0 := hF.pos
  (apply jI; exact eU rfl; refine ju rfl rfl ?_; refine ju rfl rfl ?_; apply jJ; exact eI rfl; apply jJ; exact eI rfl; refine jz ?_; refine jjB ?_; refine jjB ?_; refine jjC ?_; apply jI; exact eI rfl; refine jjk rfl rfl (by omega) ?_; apply jI; exact eB rfl; refine jT rfl rfl rfl ?_; apply jI; exact eI rfl; refine jT rfl rfl rfl ?_; refine jjk rfl rfl (by omega) ?_; apply jL rfl; exact eB rfl; apply jI; exact eB rfl; refine jT rfl rfl rfl ?_; apply jI; exact eS rfl; refine jT rfl rfl rfl ?_; refine jh rfl ?_; refine jT rfl rfl rfl ?_; apply jI; exact eI rfl; refine jT rfl rfl rfl ?_; refine jjk rfl rfl (by omega) ?_; apply jL rfl; exact eB rfl; apply jI; exact eB rfl; refine jT rfl rfl rfl ?_; apply jI; exact eI rfl; refine jT rfl rfl rfl ?_; refine jja rfl rfl (by omega) ?_; apply jL rfl; exact eB rfl; refine jz ?_; refine jjK rfl ?_; refine jjG ?_; refine jjB ?_; refine jjB ?_; refine jjC ?_; apply jI; exact eS rfl; refine jh rfl ?_; apply jI; exact eI rfl; refine jz ?_; refine jjD ?_)
  have hE9 : Ext w w9 := inferInstance
  have i9 : RowI w9 (.slice la l.length lc) true 6 (l.map encSl) := RowI.mk (hO.row.ext hS9.ext)
  have hx3 : At w9 b3 0 [.slice a cs.length c] := inferInstance
  have hx4 : At w9 b4 0 [.int .i64 wd, .int .u8 side] := inferInstance
  refine W.keep0 [(2, .int .u16 (x1 : Int)), (3, .pointer (some ⟨b3, 0, none⟩)), (4, .pointer (some ⟨b4, 0, none⟩)), (7, .bool true), (8, .slice la l.length lc), (64, .slice la l.length lc), (65, .int .i64 (l.length : Int)), (66, .int .i64 ((0 : Nat) : Int))] ⟨eI rfl, eP rfl, eP rfl, eB rfl, eS rfl, eS rfl, eI rfl, eI rfl, trivial⟩ fun s0 => ?_
  refine W.loop (67 :: 68 :: 69 :: 70 :: 13 :: 12 :: 72 :: 73 :: 74 :: 71 :: 75 :: 76 :: 14 :: 15 :: 78 :: 79 :: 80 :: 77 :: 81 :: 82 :: 16 :: 17 :: 83 :: 84 :: 85 :: 86 :: 87 :: 88 :: 89 :: 90 :: 91 :: 92 :: 93 :: 94 :: 95 :: 96 :: 97 :: 98 :: 99 :: 100 :: 6 :: 101 :: 66 :: []) (fun g s' V => ∃ k : Nat, s' 66 = .int .i64 ((k : Nat) : Int) ∧ g = l.length - k ∧ k ≤ l.length) l.length ⟨0, rfl, rfl, Nat.zero_le _⟩ ?_
  rintro _ sd V hSV ⟨k, h66, rfl, hk⟩
  refine W.fix (d := 66) h66 ?_
  clear h66
  by_cases hk3 : k < l.length
  · obtain ⟨u, hu⟩ : ∃ u, l[k] = u := ⟨_, rfl⟩
    have hP := hF.at_ k hk3
    have hW := hF.wd_ k hk3
    rw [hu] at hP hW
    have hAt : atR (txF cs) u.1 = (u.2.1, 0) := by rw [atR, if_pos ht, if_pos hW.1, hW.2]
    (refine jjB ?_; refine jjC ?_; refine jjZ rfl rfl (by omega) ?_; refine jz ?_; refine jjB ?_; refine jjJ rfl ?_; refine jjG ?_; refine jjB ?_; refine jjD ?_; refine jjB ?_; refine jjC ?_; apply jI; exact eI rfl; refine jF rfl rfl rfl (map_get (by omega)) ?_; intro _ _ _; refine jQ rfl rfl ?_)
    rw [hu]
    ((skip); refine jjY ?_; intro b13 w_b13 hb_b13 hs_b13 hS_b13 hk_b13; have hA_b13 := Bk.of hk_b13)
    (apply jJ; exact eI rfl)
    refine Ops.store rfl rfl rfl rfl rfl ?_
    intro wA hpA
    have hEA : Ext V wA := hpA.ext hS_b13.ext (by omega)
    have hSA : Step V wA := hEA.toStep
    have hA13 : At wA b13 0 [.int .i64 u.1.1, .int .i64 u.1.2.1, .int .i64 u.1.2.2, .string u.2.1, .string u.2.2.1, .string u.2.2.2] := Bk.toAt (h := Bk.of hpA.new)
    (refine jz ?_; refine jjB ?_; refine jjC ?_; refine jO rfl rfl rfl rfl ?_; apply jI; exact eI rfl)
    refine jjQ (PlaceOf_leaf a c cs _ hs ht k u.1 hP) rfl rfl ?_
    rintro _ w11 hS11 rfl
    (apply jI; exact eU rfl; refine ju rfl rfl ?_; refine ju rfl rfl ?_)
    (apply jjR rfl; (intro _; first|exact eI rfl|exact eB rfl|exact eP rfl|exact eS rfl|exact eT rfl|exact eA rfl|exact eU rfl|exact eF rfl|exact eM rfl|exact eN rfl|exact rfl); exact rfl; exact rfl; exact rfl; exact rfl; intro b14 w_b14 hb_b14 hs_b14 hS_b14 hk_b14; have hA_b14 := Bk.of hk_b14)
    have hx14 : At w_b14 b14 0 [.int .i64 u.1.1, .int .i64 u.1.2.1, .int .i64 u.1.2.2] := Bk.toAt (h := hA_b14)
    (apply jJ; exact eI rfl; refine jz ?_; refine jjB ?_; refine jjC ?_; refine jO rfl rfl rfl rfl ?_; refine jO rfl rfl rfl rfl ?_)
    refine jjQ ((At_leaf a c cs _ hs u.1).mono fun v _ _ h => h.trans (by rw [hAt])) rfl rfl ?_
    rintro _ w12 hS12 rfl
    (apply jI; exact eU rfl; refine ju rfl rfl ?_; refine ju rfl rfl ?_; apply jJ; exact eT rfl; apply jJ; exact eI rfl; refine jz ?_; refine jjB ?_; refine jjC ?_; apply jI; exact eI rfl; refine jjk rfl rfl (by omega) ?_; apply jI; exact eB rfl; refine jT rfl rfl rfl ?_; apply jI; exact eI rfl; refine jT rfl rfl rfl ?_; refine jjk rfl rfl (by omega) ?_; apply jL rfl; exact eB rfl; apply jI; exact eB rfl; refine jT rfl rfl rfl ?_; refine jm ?_; refine jn rfl ?_; refine jT rfl rfl rfl ?_; refine jO rfl rfl rfl rfl ?_; refine jT rfl rfl rfl ?_; refine jO rfl rfl rfl rfl ?_; refine jT rfl rfl rfl ?_)
    refine Ops.neqTN (enc := encPl) u.1 rfl rfl ?_
    (apply jL rfl; exact eB rfl; apply jI; exact eB rfl; refine jT rfl rfl rfl ?_; refine jm ?_; refine jn rfl ?_; refine jT rfl rfl rfl ?_; refine jN rfl rfl rfl ?_; refine jT rfl rfl rfl ?_; apply jI; exact eT rfl; refine jT rfl rfl rfl ?_)
    refine Ops.neqS rfl rfl ?_
    rw [decide_eq_false (p := ¬ u.2.1 = u.2.1) (fun h => h rfl)]
    (apply jL rfl; exact eB rfl; refine jz ?_; refine jjK rfl ?_; refine jjG ?_; refine jjC ?_; refine jY rfl rfl (by omega) ?_; apply jI; exact eI rfl; refine jz ?_)
    exact ⟨rfl, by ((refine Same.upd rfl ?_; refine Same.upd rfl ?_; refine Same.upd rfl ?_; refine Same.upd rfl ?_; refine Same.upd rfl ?_; refine Same.upd rfl ?_; refine Same.upd rfl ?_; refine Same.upd rfl ?_; refine Same.upd rfl ?_; refine Same.upd rfl ?_; refine Same.upd rfl ?_; refine Same.upd rfl ?_; refine Same.upd rfl ?_; refine Same.upd rfl ?_; refine Same.upd rfl ?_; refine Same.upd rfl ?_; refine Same.upd rfl ?_; refine Same.upd rfl ?_; refine Same.upd rfl ?_; refine Same.upd rfl ?_; refine Same.upd rfl ?_; refine Same.upd rfl ?_; refine Same.upd rfl ?_; refine Same.upd rfl ?_; refine Same.upd rfl ?_; refine Same.upd rfl ?_; refine Same.upd rfl ?_; refine Same.upd rfl ?_; refine Same.upd rfl ?_; refine Same.upd rfl ?_; refine Same.upd rfl ?_; refine Same.upd rfl ?_; refine Same.upd rfl ?_; refine Same.upd rfl ?_; refine Same.upd rfl ?_; refine Same.upd rfl ?_; refine Same.upd rfl ?_; refine Same.upd rfl ?_; refine Same.upd rfl ?_; refine Same.upd rfl ?_; refine Same.upd rfl ?_; refine Same.upd rfl ?_; refine Same.upd rfl ?_; exact Same.ovN)), l.length - (k + 1), by omega, inferInstance, k + 1, congrArg (Value.int .i64) (by omega), rfl, by omega⟩
  obtain rfl : k = l.length := by omega
  have hss : SmallSs l := ⟨by omega, fun x hx => small_of_right (hF.rt x hx)⟩
  have htw : twiceR l = ([], 0) := by rw [twiceR, if_neg (by rw [listE_ok (by omega) hF.rt]; simp), twice_none hF.nd]
  have hms : missR (txF cs) wd side l = ([], 0) := by rw [missR_yes ha (listE_ok (by omega) hF.rt), hmn]
  have iV : RowI V (.slice la l.length lc) true 6 (l.map encSl) := inferInstance
  (refine jjB ?_; refine jjC ?_; refine jja rfl rfl (by omega) ?_; refine jz ?_; refine jjB ?_; refine jjK rfl ?_; refine jjE ?_; refine jjB ?_; refine jjC ?_; apply jI; exact eS rfl)
  refine jjQ ((Twice_slip la lc l _ hss).mono fun v _ _ h => by rw [htw] at h; exact h) rfl rfl ?_
  rintro _ w16 hS16 ⟨dv, rfl, hOd⟩
  obtain ⟨da, dc, rfl⟩ := hOd.slice
  simp only [List.map_nil, List.length_nil] at hOd ⊢
  (apply jI; exact eU rfl; refine ju rfl rfl ?_; refine ju rfl rfl ?_; apply jJ; exact eS rfl; apply jJ; exact eI rfl; refine jz ?_; refine jjB ?_; refine jjC ?_; refine jO rfl rfl rfl rfl ?_; refine jO rfl rfl rfl rfl ?_; apply jI; exact eS rfl)
  refine jjQ ((Missing_slip a c cs wd side la lc l _ hs hd hss).mono fun v _ _ h => by rw [hms] at h; exact h) rfl rfl ?_
  rintro _ w17 hS17 ⟨mv, rfl, hOm⟩
  obtain ⟨ma, mc, rfl⟩ := hOm.slice
  simp only [List.map_nil, List.length_nil] at hOm ⊢
  (apply jI; exact eU rfl; refine ju rfl rfl ?_; refine ju rfl rfl ?_; apply jJ; exact eS rfl; apply jJ; exact eI rfl; refine jz ?_; refine jjB ?_; refine jjB ?_; refine jjC ?_; apply jI; exact eI rfl; refine jjk rfl rfl (by omega) ?_; apply jI; exact eB rfl; refine jT rfl rfl rfl ?_; apply jI; exact eI rfl; refine jT rfl rfl rfl ?_; refine jjk rfl rfl (by omega) ?_; apply jL rfl; exact eB rfl; apply jI; exact eB rfl; refine jT rfl rfl rfl ?_; apply jI; exact eS rfl; refine jT rfl rfl rfl ?_; refine jh rfl ?_; refine jT rfl rfl rfl ?_; refine jjk rfl rfl (by omega) ?_; apply jL rfl; exact eB rfl; apply jI; exact eB rfl; refine jT rfl rfl rfl ?_; apply jI; exact eS rfl; refine jT rfl rfl rfl ?_; refine jh rfl ?_; refine jT rfl rfl rfl ?_; refine jjk rfl rfl (by omega) ?_; apply jL rfl; exact eB rfl; refine jz ?_; refine jjK rfl ?_; refine jjG ?_; refine jjB ?_; refine jjC ?_; apply jI; exact eI rfl)
  refine Ops.convI rfl rfl (wrapi (by omega) (by omega)) ?_
  (apply jI; exact eS rfl; refine jh rfl ?_)
  have hr1 : (x1 : Int) % (l.length : Int) = ((x1 % l.length : Nat) : Int) := by omega
  refine Ops.rem rfl rfl (by omega) (by omega) ?_
  rw [hr1]
  have hX := Nat.mod_lt x1 hL0
  generalize x1 % l.length = X at *
  clear hr1 hOd hOm
  (apply jJ; exact eI rfl; refine jz ?_; refine jjB ?_)
  obtain ⟨u, hu⟩ : ∃ u, l[X] = u := ⟨_, rfl⟩
  have hm1' := hm1 X hX
  rw [hu] at hm1'
  have hum : u ∈ l := hu ▸ List.getElem_mem hX
  have hwr' := hwr u hum
  have hmk' := hF.mk_ X hX
  rw [hu] at hmk'
  have hrt := hF.rt
  have hnd := hF.nd
  clear hm1 hwr hmn hF hss htw hms hlS hll hl
  have hms1 : missR (txF cs) wd side (l.take X ++ l.drop (X + 1)) = ([u.1], 0) := by
    rw [missR_yes ha (listE_ok (by rw [List.length_append, List.length_take, List.length_drop]; omega) fun x hx => hrt x (by rcases List.mem_append.1 hx with h | h; exact List.mem_of_mem_take h; exact List.mem_of_mem_drop h)), hm1']
  have htw2 : twiceR (l ++ [u]) = ([(l.length : Int)], 0) := by
    rw [twiceR, if_neg (by rw [listE_ok (by rw [List.length_append]; simp only [List.length_cons, List.length_nil]; omega) fun x hx => by rcases List.mem_append.1 hx with h | h; exact hrt x h; rw [List.mem_singleton] at h; rw [h]; exact hrt u hum]; simp), twice_one hnd hum]
  have hss2 : SmallSs (l ++ [u]) := ⟨by rw [List.length_append]; simp only [List.length_cons, List.length_nil]; omega, fun x hx => by rcases List.mem_append.1 hx with h | h; exact small_of_right (hrt x h); rw [List.mem_singleton] at h; rw [h]; exact small_of_right (hrt u hum)⟩
  obtain ⟨L1, hL1⟩ : ∃ L1, l.take X ++ l.drop (X + 1) = L1 := ⟨_, rfl⟩
  have hL1n : L1.length = l.length - 1 := by rw [← hL1, List.length_append, List.length_take, List.length_drop]; omega
  have hss1 : SmallSs L1 := ⟨by omega, fun x hx => small_of_right (hrt x (by rw [← hL1] at hx; rcases List.mem_append.1 hx with h | h; exact List.mem_of_mem_take h; exact List.mem_of_mem_drop h))⟩
  rw [hL1] at hms1
  have hus := small_of_right (hrt u hum)
  have hE17 : Ext w w17 := inferInstance
  have iL : RowV w17 true 6 (.slice la l.length lc) (l.map encSl) := (iV.h.ext hS16.ext).ext hS17.ext
  have hcap := iL.cap
  rw [List.length_map] at hcap
  have hx3' : At w17 b3 0 [.slice a cs.length c] := inferInstance
  have hx4' : At w17 b4 0 [.int .i64 wd, .int .u8 side] := inferInstance
  have hr17 : RowI w17 (.slice a cs.length c) true 2 (cs.map encCh) := inferInstance
  have hT17 : TextI w17 cs := inferInstance
  have hg17 : At w17 1 0 sidesC := inferInstance
  have hm17 : MxI w17 := inferInstance
  clear hrow hT hgs hgk hmx hx3 hx4 i9 iV
  refine W.keep0 [(3, .pointer (some ⟨b3, 0, none⟩)), (4, .pointer (some ⟨b4, 0, none⟩)), (7, .bool true), (8, .slice la l.length lc), (22, .int .i64 (X : Int))] ⟨eP rfl, eP rfl, eB rfl, eS rfl, eI rfl, trivial⟩ fun s1 => ?_
  (skip)
  refine W.draw (fun w' => Ext w17 w') ?_
  intro w18 hS18
  refine AnyS.mono (K' := fun s w' => s 3 = .pointer (some ⟨b3, 0, none⟩) ∧ s 4 = .pointer (some ⟨b4, 0, none⟩) ∧ s 7 = .bool true ∧ s 8 = .slice la l.length lc ∧ s 22 = .int .i64 (X : Int) ∧ s 19 = .int .i64 0 ∧ (∃ sv, s 20 = sv ∧ OwnL w' w17.heap.size 43 true 3 sv ([u.1].map encPl)) ∧ Ext w17 w') ?_ ?_
  rotate_left
  · refine jjV [0, 1, 3, 4, 5, 7, 8, 9, 10] (by decide +kernel) hS18.ext ?_
    ((apply jjT; exact rfl; rintro w' hq; have := hq.toStep; refine jO rfl rfl rfl rfl ?_; refine jz ?_; exact ⟨rfl, rfl⟩; apply jjT; exact rfl; rintro w' hq; have := hq.toStep; refine jO rfl rfl rfl rfl ?_; refine jz ?_; exact ⟨rfl, rfl⟩; apply jjT; exact rfl; rintro w' hq; have := hq.toStep; apply jI; exact eS rfl; refine jz ?_; exact ⟨rfl, rfl⟩; apply jjT; exact rfl; rintro w' hq; have := hq.toStep; apply jI; exact eI rfl; refine jz ?_; exact ⟨rfl, rfl⟩; apply jjT; exact rfl; rintro w' hq; have := hq.toStep; refine Ops.sliceXHv (k := 6) (hi := X) rfl rfl rfl (by omega) (by omega) ?_; refine jz ?_; exact ⟨rfl, rfl⟩; apply jjT; exact rfl; rintro w' hq; have := hq.toStep; apply jI; exact eS rfl; refine jz ?_; exact ⟨rfl, rfl⟩; apply jjT; exact rfl; rintro w' hq; have := hq.toStep; apply jI; exact eI rfl; refine jz ?_; exact ⟨rfl, rfl⟩; apply jjT; exact rfl; rintro w' hq; have := hq.toStep; refine jY rfl rfl (by omega) ?_; refine jz ?_; exact ⟨rfl, rfl⟩; apply jjT; exact rfl; rintro w' hq; have := hq.toStep; refine Ops.sliceXLv (k := 6) (lo := X + 1) rfl rfl (by omega) (by omega) ?_; refine jz ?_; exact ⟨rfl, rfl⟩; refine jjU ?_))
    (apply jjW 2; (decide +kernel); exact rfl; (exact inferInstance))
    refine Ops.buildSlice0 ?_
    intro b19 w19 hb19 hs19 hS19 hk19
    refine jz ?_
    have hO19 := OwnL.empty (agg := true) (k := 6) (B := w18.heap.size) (by omega) hk19
    have r1 : RowV w19 true 6 (.slice la X lc) ((l.take X).map encSl) := by
      have := (iL.ext (w' := w19) inferInstance).takeV (hi := X) (by rw [List.length_map]; omega)
      rwa [← List.map_take] at this
    have r2 : RowV w18 true 6 (cutV la lc 6 (X + 1) l.length) ((l.drop (X + 1)).map encSl) := by
      have := (iL.ext (w' := w18) inferInstance).dropV (lo := X + 1) (by rw [List.length_map]; omega)
      rwa [← List.map_drop] at this
    (apply jjW 6; (decide +kernel); exact rfl; (exact inferInstance))
    refine Ops.appendL hO19 (by omega) r1 rfl rfl rfl rfl (all_slE _) (by simp only [List.length_map, List.length_nil, List.length_take]; omega) (by simp only [List.length_map, List.length_nil, List.length_take]; omega) ?_
    intro v20 w20 hA20 hO20 _ _
    refine jz ?_
    rw [List.nil_append] at hO20
    have hE20 : Ext w18 w20 := hA20.ext hS19.ext (Nat.le_refl _)
    have hS20 := hE20.toStep
    (apply jjW 11; (decide +kernel); exact rfl; (exact inferInstance))
    refine Ops.appendL hO20 hE20.size (r2.ext hE20) rfl rfl rfl rfl (all_slE _) (by simp only [List.length_map, List.length_drop, List.length_take]; omega) (by simp only [List.length_map, List.length_drop, List.length_take]; omega) ?_
    intro v21 w21 hA21 hO21 _ _
    refine jz ?_
    rw [← List.map_append, hL1] at hO21
    have hE21 : Ext w18 w21 := hA21.ext hE20 (Nat.le_refl _)
    have hS21 := hE21.toStep
    obtain ⟨ua, uc, eu⟩ := hO21.slice
    rw [List.length_map] at eu
    subst eu
    have iU : RowI w21 (.slice ua L1.length uc) true 6 (L1.map encSl) := RowI.mk hO21.row
    (apply jjW 12; (decide +kernel); exact rfl; (exact inferInstance))
    refine jjQ ((Missing_slip a c cs wd side ua uc L1 _ hs hd hss1).mono fun v _ _ h => by rw [hms1] at h; exact h) rfl rfl ?_
    rintro _ w22 hS22 ⟨mv, rfl, hOm⟩
    refine jz ?_
    (refine jjV [13, 14, 15, 16, 17] ?_ ?_ ?_; (decide +kernel); (exact inferInstance); (((apply jjT; exact rfl; rintro w' hq; apply jI; exact eU rfl; refine jz ?_; exact ⟨rfl, rfl⟩; apply jjT; exact rfl; rintro w' hq; refine ju rfl rfl ?_; refine jz ?_; exact ⟨rfl, rfl⟩; apply jjT; exact rfl; rintro w' hq; refine ju rfl rfl ?_; refine jz ?_; exact ⟨rfl, rfl⟩; apply jjT; exact rfl; rintro w' hq; apply jJ; exact rfl; refine jz ?_; exact ⟨rfl, rfl⟩; apply jjT; exact rfl; rintro w' hq; apply jJ; exact eI rfl; refine jz ?_; exact ⟨rfl, rfl⟩; refine jjU ?_))))
    refine jjX (by decide +kernel) inferInstance ?_
    exact ⟨rfl, rfl, rfl, rfl, rfl, rfl, ⟨mv, rfl, hOm.mono (Ext.size inferInstance)⟩, inferInstance⟩
  rintro s w23 ⟨h3, h4, h7, h8, h22, h19, ⟨mv, h20, hOm⟩, x23⟩
  have s23 : Step w17 w23 := x23.toStep
  obtain ⟨ma, mc, rfl⟩ := hOm.slice
  have hx3 : At w23 b3 0 [.slice a cs.length c] := inferInstance
  have hx4 : At w23 b4 0 [.int .i64 wd, .int .u8 side] := inferInstance
  have hr23 : RowI w23 (.slice a cs.length c) true 2 (cs.map encCh) := inferInstance
  have hT23 : TextI w23 cs := inferInstance
  have hg23 : At w23 1 0 sidesC := inferInstance
  have hm23 : MxI w23 := inferInstance
  have iL23 := iL.ext x23
  have hE23 := hE17.trans x23
  have hzz := iL23.place' (map_get hX)
  obtain ⟨bl, ol, rfl, hAl'⟩ := hzz
  have hAl : At w23 bl (ol + X * 6) (encSl u).cells.toList := by rw [← hu]; exact hAl'
  clear iL hS18 s23 x23
  refine W.keep0 [(3, .pointer (some ⟨b3, 0, none⟩)), (4, .pointer (some ⟨b4, 0, none⟩)), (7, .bool true), (8, .slice (some ⟨bl, ol, none⟩) l.length lc), (22, .int .i64 (X : Int)), (19, .int .i64 0), (20, .slice ma 1 mc)] ⟨h3, h4, h7, h8, h22, h19, h20, trivial⟩ fun s2 => ?_
  clear h3 h4 h7 h8 h22 h19 h20
  ((refine jjB ?_))
  refine W.draw (fun w' => Ext w23 w') ?_
  intro w24 hS24
  refine AnyS.mono (K' := fun s w' => s 3 = .pointer (some ⟨b3, 0, none⟩) ∧ s 4 = .pointer (some ⟨b4, 0, none⟩) ∧ s 7 = .bool true ∧ s 8 = .slice (some ⟨bl, ol, none⟩) l.length lc ∧ s 22 = .int .i64 (X : Int) ∧ s 19 = .int .i64 0 ∧ s 20 = .slice ma 1 mc ∧ s 21 = .int .i64 0 ∧ (∃ sv, s 18 = sv ∧ OwnL w' w23.heap.size 3 false 1 sv ([(l.length : Int)].map intV)) ∧ Ext w23 w') ?_ ?_
  rotate_left
  · refine jjV [1, 3, 4, 5, 6] (by decide +kernel) hS24.ext ?_
    (((apply jjT; exact rfl; rintro w' hq; have := hq.toStep; apply jI; exact eS rfl; refine jz ?_; exact ⟨rfl, rfl⟩; apply jjT; exact rfl; rintro w' hq; have := hq.toStep; apply jI; exact eS rfl; refine jz ?_; exact ⟨rfl, rfl⟩; apply jjT; exact rfl; rintro w' hq; have := hq.toStep; apply jI; exact eI rfl; refine jz ?_; exact ⟨rfl, rfl⟩; apply jjT; exact rfl; rintro w' hq; have := hq.toStep; refine jH _ rfl rfl rfl (by omega) ?_; refine jz ?_; exact ⟨rfl, rfl⟩; apply jjT; exact rfl; rintro w' hq; have := hq.toStep; refine jQ rfl rfl ?_; refine jz ?_; exact ⟨rfl, rfl⟩; refine jjU ?_)))
    repeat' ( first
      | (refine jjl 0 7 (by decide +kernel) rfl rfl inferInstance ?_ ?_)
      | (refine jjl 2 7 (by decide +kernel) rfl rfl inferInstance ?_ ?_)
      | ((apply jjW 0; (decide +kernel); exact rfl; (exact inferInstance)))
      | ((apply jjW 2; (decide +kernel); exact rfl; (exact inferInstance)))
      | ((apply jjW 7; (decide +kernel); exact rfl; (exact inferInstance)))
      | (refine Ops.buildSlice0 ?_; intro b19 w19 hb19 hs19 hS19 hk19; refine jz ?_; have hO19 := OwnL.empty (agg := true) (k := 6) (B := w23.heap.size) (by rw [hb19]; exact Ext.size inferInstance) hk19)
      | ((refine jjP (v := .agg _) rfl (by exact rfl) (by exact rfl) (by exact rfl) (by exact rfl) ?_; intro b26 w_b26 hb_b26 hs_b26 hS_b26 hk_b26; have hR_b26 := RowV.one (agg := true) (k := 6) rfl hk_b26); refine jz ?_; have hR26 : RowV w_b26 true 6 (.slice (some ⟨b26, 0, none⟩) 1 1) ([u].map encSl) := hR_b26)
      | (refine Ops.appendL (B := w23.heap.size) (hO19.ext inferInstance) (Ext.size inferInstance) (iL23.ext inferInstance) rfl rfl rfl rfl (all_slE _) (by simp only [List.length_map, List.length_nil]; omega) (by simp only [List.length_map, List.length_nil]; omega) ?_; intro v20 w20 hA20 hO20 _ hw20; refine jz ?_; rw [List.nil_append] at hO20; have e20 : Ext w23 w20 := hA20.ext inferInstance (Nat.le_refl _); have s20 := e20.toStep; (try have r26 := hA20.row (hR26.ext inferInstance) (fun g hg e => by simp only [Value.ownBlock, Option.some.injEq] at hg e; omega)))
      | (refine Ops.appendL (B := w23.heap.size) (hO20.ext inferInstance) (Ext.size inferInstance) (by first | exact hR26.ext inferInstance | exact r26) rfl rfl rfl rfl (all_slE _) (by simp only [List.length_map, List.length_cons, List.length_nil]; omega) (by simp only [List.length_map, List.length_cons, List.length_nil]; omega) ?_; intro v21 w21 hA21 hO21 _ _; refine jz ?_; rw [← List.map_append] at hO21; have e21 : Ext w23 w21 := hA21.ext inferInstance (Nat.le_refl _); have s21 := e21.toStep; obtain ⟨ua, uc, eu⟩ := hO21.slice; rw [List.length_map] at eu; subst eu; have iU : RowI w21 (.slice ua (l ++ [u]).length uc) true 6 ((l ++ [u]).map encSl) := RowI.mk hO21.row)
      | (((apply jjW 8; (decide +kernel); exact rfl; (exact inferInstance))))
      | ((apply jjW 9; (decide +kernel); exact rfl; (exact inferInstance)); refine jjQ ((Twice_slip ua uc (l ++ [u]) _ hss2).mono fun v _ _ h => by rw [htw2] at h; exact h) rfl rfl ?_; rintro _ w22 hS22 ⟨dv, rfl, hOd⟩; refine jz ?_; (refine jjV [10, 11, 12, 13, 14] ?_ ?_ ?_; (decide +kernel); (exact inferInstance); ((repeat' (first|(apply jjT; exact rfl)|rintro w' hq|((first|apply jI|apply jJ); (first|exact eI rfl|exact eU rfl|exact rfl))|refine ju rfl rfl ?_|refine jz ?_|exact ⟨rfl, rfl⟩|refine jjU ?_)))); refine jjX (by decide +kernel) inferInstance ?_; exact ⟨rfl, rfl, rfl, rfl, rfl, rfl, rfl, rfl, ⟨dv, rfl, hOd.mono (Ext.size inferInstance)⟩, inferInstance⟩))
  rintro s w25 ⟨h3, h4, h7, h8, h22, h19, h20, h21, ⟨dv, h18, hOd⟩, x25⟩
  have s25 : Step w23 w25 := x25.toStep
  obtain ⟨da, dc, rfl⟩ := hOd.slice
  refine W.keep0 [(3, .pointer (some ⟨b3, 0, none⟩)), (4, .pointer (some ⟨b4, 0, none⟩)), (7, .bool true), (8, .slice (some ⟨bl, ol, none⟩) l.length lc), (22, .int .i64 (X : Int)), (19, .int .i64 0), (20, .slice ma 1 mc), (21, .int .i64 0), (18, .slice da 1 dc)] ⟨h3, h4, h7, h8, h22, h19, h20, h21, h18, trivial⟩ fun s3 => ?_
  clear h3 h4 h7 h8 h22 h19 h20 h21 h18
  ((refine jjB ?_))
  refine W.draw (fun w' => Ext w25 w') ?_
  intro w26 hS26
  refine jjV [0, 1, 2, 3, 4, 5] (by decide +kernel) hS26.ext ?_
  (((apply jjT; exact rfl; rintro w' hq; have := hq.toStep; refine jO rfl rfl rfl rfl ?_; refine jz ?_; exact ⟨rfl, rfl⟩; apply jjT; exact rfl; rintro w' hq; have := hq.toStep; refine jO rfl rfl rfl rfl ?_; refine jz ?_; exact ⟨rfl, rfl⟩; apply jjT; exact rfl; rintro w' hq; have := hq.toStep; apply jI; exact eS rfl; refine jz ?_; exact ⟨rfl, rfl⟩; apply jjT; exact rfl; rintro w' hq; have := hq.toStep; apply jI; exact eI rfl; refine jz ?_; exact ⟨rfl, rfl⟩; apply jjT; exact rfl; rintro w' hq; have := hq.toStep; refine jH _ rfl rfl rfl (by omega) ?_; refine jz ?_; exact ⟨rfl, rfl⟩; apply jjT; exact rfl; rintro w' hq; have := hq.toStep; refine jQ rfl rfl ?_; refine jz ?_; exact ⟨rfl, rfl⟩; refine jjU ?_)))
  (apply jjW 6; (decide +kernel); exact rfl; (exact inferInstance))
  refine jjQ ((Wrong_slip a c cs wd side _ u hs hd hus).mono fun v _ _ h => h.trans (by rw [hwr'])) rfl rfl ?_
  rintro _ w27 hS27 rfl
  refine jz ?_
  (refine jjV [7, 8, 9, 10, 11] ?_ ?_ ?_; (decide +kernel); (exact inferInstance); (((apply jjT; exact rfl; rintro w' hq; apply jI; exact eU rfl; refine jz ?_; exact ⟨rfl, rfl⟩; apply jjT; exact rfl; rintro w' hq; refine ju rfl rfl ?_; refine jz ?_; exact ⟨rfl, rfl⟩; apply jjT; exact rfl; rintro w' hq; refine ju rfl rfl ?_; refine jz ?_; exact ⟨rfl, rfl⟩; apply jjT; exact rfl; rintro w' hq; apply jJ; exact eI rfl; refine jz ?_; exact ⟨rfl, rfl⟩; apply jjT; exact rfl; rintro w' hq; apply jJ; exact eI rfl; refine jz ?_; exact ⟨rfl, rfl⟩; refine jjU ?_))))
  refine jjX (by decide +kernel) inferInstance ?_
  have hS27' : Ext w25 w27 := inferInstance
  refine W.keep0 [(3, .pointer (some ⟨b3, 0, none⟩)), (4, .pointer (some ⟨b4, 0, none⟩)), (7, .bool true), (8, .slice (some ⟨bl, ol, none⟩) l.length lc), (22, .int .i64 (X : Int)), (19, .int .i64 0), (20, .slice ma 1 mc), (21, .int .i64 0), (18, .slice da 1 dc), (23, .int .u8 0), (24, .int .i64 0)] ⟨eP rfl, eP rfl, eB rfl, eS rfl, eI rfl, eI rfl, eS rfl, eI rfl, eS rfl, eI rfl, eI rfl, trivial⟩ fun s4 => ?_
  ((refine jjB ?_))
  have hAl27 : At w27 bl (ol + X * 6) (encSl u).cells.toList := (hAl.ext s25.ext).ext hS27'
  refine W.draw (fun w' => Ext w27 w') ?_
  intro w28 hS28
  refine AnyS.mono (K' := fun s w' => s 7 = .bool true ∧ s 8 = .slice (some ⟨bl, ol, none⟩) l.length lc ∧ s 22 = .int .i64 (X : Int) ∧ s 19 = .int .i64 0 ∧ s 20 = .slice ma 1 mc ∧ s 21 = .int .i64 0 ∧ s 18 = .slice da 1 dc ∧ s 23 = .int .u8 0 ∧ s 24 = .int .i64 0 ∧ s 26 = .int .i64 0 ∧ (∃ b25, s 25 = .pointer (some ⟨b25, 0, none⟩) ∧ At w' b25 0 (encSl u).cells.toList) ∧ Ext w27 w') ?_ ?_
  rotate_left
  · refine jjV [0, 1, 2, 3, 4, 5] (by decide +kernel) hS28.ext ?_
    (((apply jjT; exact rfl; rintro w' hq; have := hq.toStep; refine jO rfl rfl rfl rfl ?_; refine jz ?_; exact ⟨rfl, rfl⟩; apply jjT; exact rfl; rintro w' hq; have := hq.toStep; refine jO rfl rfl rfl rfl ?_; refine jz ?_; exact ⟨rfl, rfl⟩; apply jjT; exact rfl; rintro w' hq; have := hq.toStep; apply jI; exact eS rfl; refine jz ?_; exact ⟨rfl, rfl⟩; apply jjT; exact rfl; rintro w' hq; have := hq.toStep; apply jI; exact eI rfl; refine jz ?_; exact ⟨rfl, rfl⟩; apply jjT; exact rfl; rintro w' hq; have := hq.toStep; refine jH _ rfl rfl rfl (by omega) ?_; refine jz ?_; exact ⟨rfl, rfl⟩; apply jjT; exact rfl; rintro w' hq; have := hq.toStep; refine jm ?_; refine jn rfl ?_; refine jz ?_; exact ⟨rfl, rfl⟩; refine jjU ?_)))
    refine jjV [6] (by decide +kernel) hS28.ext (jjT (v := encPl u.1) rfl (fun w' q1 => ?_) (jjU ?_)); (refine Ops.loadOA (off := 0) (hAl27.ext q1) rfl rfl rfl rfl ?_; refine jz ?_; exact ⟨rfl, rfl⟩)
    repeat' ( first
      | (refine jjl 7 11 (by decide +kernel) rfl rfl inferInstance ?_ ?_)
      | ((apply jjW 7; (decide +kernel); exact rfl; (exact inferInstance)))
      | ((apply jjW 11; (decide +kernel); exact rfl; (exact inferInstance)))
      | (refine jjQ ((Make_slip a c cs wd side _ u.1 hs hd).mono fun v _ _ h => h.trans (by rw [makeR_some ha hmk'])) rfl rfl ?_; rintro _ v5 hv5 rfl; refine jz ?_; (refine jjV [8, 9, 10] ?_ ?_ ?_; (decide +kernel); (exact inferInstance); ((repeat' (first|(apply jjT; exact rfl)|rintro w' hq|(apply jI; exact eU rfl)|refine ju rfl rfl ?_|refine jz ?_|exact ⟨rfl, rfl⟩|refine jjU ?_)))))
      | (refine jjY ?_; intro b8 v8 hb8 hs8 hv8 hk8; have k8 := Bk.of hk8; have z8 : w27.heap.size ≤ b8 := (by rw [hb8]; exact Ext.size inferInstance); refine jz ?_)
      | ((apply jjW 12; (decide +kernel); exact rfl; (exact inferInstance)); refine Ops.store rfl rfl rfl rfl rfl ?_; intro V2 hp2; have e2 : Ext w27 V2 := hp2.ext inferInstance z8; refine jz ?_; (refine jjV [13] ?_ ?_ ?_; (decide +kernel); (exact e2); ((repeat' (first|(apply jjT; exact rfl)|rintro w' hq|(apply jJ; exact eI rfl)|refine jz ?_|exact ⟨rfl, rfl⟩|refine jjU ?_)))); refine jjX (by decide +kernel) e2 ?_; exact ⟨rfl, rfl, rfl, rfl, rfl, rfl, rfl, rfl, rfl, rfl, ⟨b8, rfl, Bk.toAt (h := Bk.of hp2.new)⟩, e2⟩))
  rintro s w29 ⟨h7, h8, h22, h19, h20, h21, h18, h23, h24, h26, ⟨b25, h25, hA25'⟩, x29⟩
  have s29 : Step w27 w29 := x29.toStep
  have hA25 : At w29 b25 0 [.int .i64 u.1.1, .int .i64 u.1.2.1, .int .i64 u.1.2.2, .string u.2.1, .string u.2.2.1, .string u.2.2.2] := hA25'
  have hE29 : Ext w w29 := hE23.trans inferInstance
  have hOd29 := hOd.ext (w' := w29) inferInstance
  have hOm29 := hOm.ext (w' := w29) inferInstance
  refine W.keep0 [(7, .bool true), (8, .slice (some ⟨bl, ol, none⟩) l.length lc), (22, .int .i64 (X : Int)), (19, .int .i64 0), (20, .slice ma 1 mc), (21, .int .i64 0), (18, .slice da 1 dc), (23, .int .u8 0), (24, .int .i64 0), (26, .int .i64 0), (25, .pointer (some ⟨b25, 0, none⟩))] ⟨h7, h8, h22, h19, h20, h21, h18, h23, h24, h26, h25, trivial⟩ fun s5 => ?_
  clear h7 h8 h22 h19 h20 h21 h18 h23 h24 h26 h25
  ((refine jjB ?_))
  refine W.draw (fun w' => Ext w29 w') ?_
  intro w30 hS30
  have hAl29 : At w29 bl (ol + X * 6) (encSl u).cells.toList := hAl27.ext s29.ext
  refine jjV [0, 1, 2, 3, 4, 5, 6, 7, 8, 9, 10] (by decide +kernel) hS30.ext ?_
  (((apply jjT; exact rfl; rintro w' hq; have := hq.toStep; apply jI; exact eB rfl; refine jz ?_; exact ⟨rfl, rfl⟩; apply jjT; exact rfl; rintro w' hq; have := hq.toStep; apply jI; exact eB rfl; refine jz ?_; exact ⟨rfl, rfl⟩; apply jjT; exact rfl; rintro w' hq; have := hq.toStep; refine jT rfl rfl rfl ?_; apply jI; exact eI rfl; refine jz ?_; exact ⟨rfl, rfl⟩; apply jjT; exact rfl; rintro w' hq; have := hq.toStep; refine jT rfl rfl rfl ?_; refine ja rfl rfl ?_; refine jz ?_; exact ⟨rfl, rfl⟩; apply jjT; exact rfl; rintro w' hq; have := hq.toStep; apply jK rfl; exact eB rfl; refine jz ?_; exact ⟨rfl, rfl⟩; apply jjT; exact rfl; rintro w' hq; have := hq.toStep; apply jI; exact eB rfl; refine jz ?_; exact ⟨rfl, rfl⟩; apply jjT; exact rfl; rintro w' hq; have := hq.toStep; refine jT rfl rfl rfl ?_; apply jI; exact eS rfl; refine jz ?_; exact ⟨rfl, rfl⟩; apply jjT; exact rfl; rintro w' hq; have := hq.toStep; refine jT rfl rfl rfl ?_; apply jI; exact eS rfl; refine jz ?_; exact ⟨rfl, rfl⟩; apply jjT; exact rfl; rintro w' hq; have := hq.toStep; refine jT rfl rfl rfl ?_; apply jI; exact eI rfl; refine jz ?_; exact ⟨rfl, rfl⟩; apply jjT; exact rfl; rintro w' hq; have := hq.toStep; refine jT rfl rfl rfl ?_; refine jH _ rfl rfl rfl (by omega) ?_; refine jz ?_; exact ⟨rfl, rfl⟩; apply jjT; exact rfl; rintro w' hq; have := hq.toStep; refine jT rfl rfl rfl ?_; refine jm ?_; refine jn rfl ?_; refine jz ?_; exact ⟨rfl, rfl⟩; refine jjU ?_)))
  refine jjV [11] (by decide +kernel) hS30.ext (jjT (v := encPl u.1) rfl (fun w' q1 => ?_) (jjU ?_)); (refine jT rfl rfl rfl ?_; refine Ops.loadOA (off := 0) (hAl29.ext q1) rfl rfl rfl rfl ?_; refine jz ?_; exact ⟨rfl, rfl⟩)
  (apply jjW 12; (decide +kernel); exact rfl; (exact inferInstance))
  (refine jT rfl rfl rfl ?_)
  (refine jjP (v := .agg _) rfl (by exact rfl) (by exact rfl) (by exact rfl) (by exact rfl) ?_; intro b31 w_b31 hb_b31 hs_b31 hS_b31 hk_b31; have hR_b31 := RowV.one (agg := true) (k := 3) rfl hk_b31)
  refine jz ?_
  have hR31 : RowV w_b31 true 3 (.slice (some ⟨b31, 0, none⟩) 1 1) ([u.1].map encPl) := hR_b31
  have hRm : RowV w_b31 true 3 (.slice ma 1 mc) ([u.1].map encPl) := hOm29.row.ext inferInstance
  (apply jjW 13; (decide +kernel); exact rfl; (exact inferInstance))
  (refine jT rfl rfl rfl ?_)
  refine jjQ ((same_places1 ma (some ⟨b31, 0, none⟩) mc 1 1 1 [u.1] [u.1] _ rfl rfl hRm hR31).mono (R' := fun v _ => v = .bool true) fun v _ _ h => h.trans (by rw [decide_eq_true rfl])) rfl rfl ?_
  rintro _ w32 hS32 rfl
  refine jz ?_
  (refine jjV [14, 15, 16, 17, 18, 19, 20, 21, 22] ?_ ?_ ?_; (decide +kernel); (exact inferInstance); (((apply jjT; exact rfl; rintro w' hq; have := hq.toStep; apply jK rfl; exact eB rfl; refine jz ?_; exact ⟨rfl, rfl⟩; apply jjT; exact rfl; rintro w' hq; have := hq.toStep; apply jI; exact eB rfl; refine jz ?_; exact ⟨rfl, rfl⟩; apply jjT; exact rfl; rintro w' hq; have := hq.toStep; refine jT rfl rfl rfl ?_; apply jI; exact eI rfl; refine jz ?_; exact ⟨rfl, rfl⟩; apply jjT; exact rfl; rintro w' hq; have := hq.toStep; refine jT rfl rfl rfl ?_; refine ja rfl rfl ?_; refine jz ?_; exact ⟨rfl, rfl⟩; apply jjT; exact rfl; rintro w' hq; have := hq.toStep; apply jK rfl; exact eB rfl; refine jz ?_; exact ⟨rfl, rfl⟩; apply jjT; exact rfl; rintro w' hq; have := hq.toStep; apply jI; exact eB rfl; refine jz ?_; exact ⟨rfl, rfl⟩; apply jjT; exact rfl; rintro w' hq; have := hq.toStep; refine jT rfl rfl rfl ?_; apply jI; exact eS rfl; refine jz ?_; exact ⟨rfl, rfl⟩; apply jjT; exact rfl; rintro w' hq; have := hq.toStep; refine jT rfl rfl rfl ?_; apply jI; exact eS rfl; refine jz ?_; exact ⟨rfl, rfl⟩; apply jjT; exact rfl; rintro w' hq; have := hq.toStep; refine jT rfl rfl rfl ?_; refine jh rfl ?_; refine jz ?_; exact ⟨rfl, rfl⟩; refine jjU ?_))))
  (apply jjW 23; (decide +kernel); exact rfl; (exact inferInstance))
  (refine jT rfl rfl rfl ?_)
  (refine jjP (v := .int _ _) rfl (by exact rfl) (by exact rfl) (by exact rfl) (by exact rfl) ?_; intro b33 w_b33 hb_b33 hs_b33 hS_b33 hk_b33; have hR_b33 := RowV.one (agg := false) (k := 1) rfl hk_b33)
  refine jz ?_
  have hR33 : RowV w_b33 false 1 (.slice (some ⟨b33, 0, none⟩) 1 1) ([(l.length : Int)].map intV) := hR_b33
  have hRd : RowV w_b33 false 1 (.slice da 1 dc) ([(l.length : Int)].map intV) := hOd29.row.ext inferInstance
  (apply jjW 24; (decide +kernel); exact rfl; (exact inferInstance))
  (refine jT rfl rfl rfl ?_)
  refine jjQ ((same_ints3 da (some ⟨b33, 0, none⟩) dc 1 1 1 [(l.length : Int)] [(l.length : Int)] _ rfl rfl hRd hR33).mono (R' := fun v _ => v = .bool true) fun v _ _ h => h.trans (by rw [decide_eq_true rfl])) rfl rfl ?_
  rintro _ w34 hS34 rfl
  refine jz ?_
  (refine jjV [25, 26, 27, 28, 29, 30, 31, 32, 33, 34, 35, 36, 37, 38, 39, 40, 41, 42, 43] ?_ ?_ ?_; (decide +kernel); (exact inferInstance); (((apply jjT; exact rfl; rintro w' hq; have := hq.toStep; apply jK rfl; exact eB rfl; refine jz ?_; exact ⟨rfl, rfl⟩; apply jjT; exact rfl; rintro w' hq; have := hq.toStep; apply jI; exact eB rfl; refine jz ?_; exact ⟨rfl, rfl⟩; apply jjT; exact rfl; rintro w' hq; have := hq.toStep; refine jT rfl rfl rfl ?_; apply jI; exact eI rfl; refine jz ?_; exact ⟨rfl, rfl⟩; apply jjT; exact rfl; rintro w' hq; have := hq.toStep; refine jT rfl rfl rfl ?_; refine ja rfl rfl ?_; refine jz ?_; exact ⟨rfl, rfl⟩; apply jjT; exact rfl; rintro w' hq; have := hq.toStep; apply jK rfl; exact eB rfl; refine jz ?_; exact ⟨rfl, rfl⟩; apply jjT; exact rfl; rintro w' hq; have := hq.toStep; apply jI; exact eB rfl; refine jz ?_; exact ⟨rfl, rfl⟩; apply jjT; exact rfl; rintro w' hq; have := hq.toStep; refine jT rfl rfl rfl ?_; apply jI; exact eI rfl; refine jz ?_; exact ⟨rfl, rfl⟩; apply jjT; exact rfl; rintro w' hq; have := hq.toStep; refine jT rfl rfl rfl ?_; refine ja rfl rfl ?_; refine jz ?_; exact ⟨rfl, rfl⟩; apply jjT; exact rfl; rintro w' hq; have := hq.toStep; apply jK rfl; exact eB rfl; refine jz ?_; exact ⟨rfl, rfl⟩; apply jjT; exact rfl; rintro w' hq; have := hq.toStep; apply jI; exact eB rfl; refine jz ?_; exact ⟨rfl, rfl⟩; apply jjT; exact rfl; rintro w' hq; have := hq.toStep; refine jT rfl rfl rfl ?_; apply jI; exact eI rfl; refine jz ?_; exact ⟨rfl, rfl⟩; apply jjT; exact rfl; rintro w' hq; have := hq.toStep; refine jT rfl rfl rfl ?_; refine ja rfl rfl ?_; refine jz ?_; exact ⟨rfl, rfl⟩; apply jjT; exact rfl; rintro w' hq; have := hq.toStep; apply jK rfl; exact eB rfl; refine jz ?_; exact ⟨rfl, rfl⟩; apply jjT; exact rfl; rintro w' hq; have := hq.toStep; apply jI; exact eB rfl; refine jz ?_; exact ⟨rfl, rfl⟩; apply jjT; exact rfl; rintro w' hq; have := hq.toStep; refine jT rfl rfl rfl ?_; refine jO rfl rfl rfl rfl ?_; refine jz ?_; exact ⟨rfl, rfl⟩; apply jjT; exact rfl; rintro w' hq; have := hq.toStep; refine jT rfl rfl rfl ?_; apply jI; exact eS rfl; refine jz ?_; exact ⟨rfl, rfl⟩; apply jjT; exact rfl; rintro w' hq; have := hq.toStep; refine jT rfl rfl rfl ?_; apply jI; exact eI rfl; refine jz ?_; exact ⟨rfl, rfl⟩; apply jjT; exact rfl; rintro w' hq; have := hq.toStep; refine jT rfl rfl rfl ?_; refine jH _ rfl rfl rfl (by omega) ?_; refine jz ?_; exact ⟨rfl, rfl⟩; apply jjT; exact rfl; rintro w' hq; have := hq.toStep; refine jT rfl rfl rfl ?_; refine jQ rfl rfl ?_; refine jz ?_; exact ⟨rfl, rfl⟩; refine jjU ?_))))
  refine jjV [44] (by decide +kernel) inferInstance (jjT (v := .bool true) rfl (fun w' q1 => ?_) (jjU ?_)); (refine jT rfl rfl rfl ?_; refine Ops.eqlT (enc := encSl) u u rfl rfl ?_; rw [decide_eq_true rfl]; refine jz ?_; exact ⟨rfl, rfl⟩)
  (refine jjV [45, 46] ?_ ?_ ?_; (decide +kernel); (exact inferInstance); (((apply jjT; exact rfl; rintro w' hq; have := hq.toStep; apply jK rfl; exact eB rfl; refine jz ?_; exact ⟨rfl, rfl⟩; apply jjT; exact rfl; rintro w' hq; have := hq.toStep; apply jJ; exact eB rfl; refine jz ?_; exact ⟨rfl, rfl⟩; refine jjU ?_))))
  refine jjX (by decide +kernel) inferInstance ?_
  (refine jjF ?_; refine jB rfl rfl ⟨inferInstance, ?_⟩)
  exact rfl
end
end Go.Proofs.YtgnjjocafmofaaaGreatDoor
