/- Texts of the proof, part 5: Gal10, Gal11, PlS, Gal12, GalL3, PlT, PlU, PlV, PlZ, Lib3, Gal16, GxP, Eng18, Eng30, Eng31, Ref8a, Ref8b, Ref8g, RefI, Ref8e, Ref8i, Ref8h, LawP, Gl1, Vo2, ShS, Vo3, Eng33. -/
import Derived.ChangeKeysEq
import Derived.Laws.Small
import Derived.Laws.Cover1
import Derived.Laws.BitsAllLaws
import Derived.Shelf.SlSortCmp.Whole1
import Derived.Test.YtfebegbjggoijaaGreatDoorGC4
/- galley: between. -/
namespace Go.Proofs.YtfebegbjggoijaaGreatDoor
open Go.RowKit

theorem between_galley (pf mb : Nat) (h tot frm to : Int) (sl : Value) (xs : List Int) (w : World) (hfrm : Bk w pf [.int .i64 h, sl, .int .i64 tot, .map (some mb)] 91) (hmay : MapE (Value.int .i64) w mb (mayM xs)) (hnone : At w 0 0 [.int .i64 (-1), .int .i64 (-1)])
    (hh : 0 ≤ h ∧ h ≤ 1000) (hf : 0 ≤ frm ∧ frm ≤ 1000) (ht : 0 ≤ to ∧ to ≤ 1000) :
    Ct Tryz.prog 48 [.pointer (some ⟨pf, 0, none⟩), .int .i64 frm, .int .i64 to] w fun v w' =>
      (onW h tot to (fun n => decide (n ∈ xs)) frm = noneW ∧ v = .tuple #[.slice none 0 0, .int .i64 0, .bool false]) ∨
      (onW h tot to (fun n => decide (n ∈ xs)) frm ≠ noneW ∧ ∃ u, v = .tuple #[u, .int .i64 (onW h tot to (fun n => decide (n ∈ xs)) frm).1, .bool true] ∧ OwnL w' w.heap.size 3 false 1 u ((pathW h tot to (fun n => decide (n ∈ xs)) (to - frm).toNat frm).map intV)) := by
  refine Ct.ofW (by simp) ?_
  (refine jjB ?_; refine jjC ?_)
  (refine jy rfl ?_; intro b3 w_b3 hb_b3 hs_b3 hS_b3 hk_b3; have hA_b3 := At.ofBlock hk_b3)
  skip
  (refine jy rfl ?_; intro b5 w_b5 hb_b5 hs_b5 hS_b5 hk_b5; have hA_b5 := At.ofBlock hk_b5)
  (apply jJ; exact eS rfl; apply jJ; exact eI rfl; apply jJ; exact eB rfl; refine jz ?_; refine jjB ?_; refine jjC ?_)
  refine Ops.makeMap (Value.int .i64) ?_
  intro kmb w1 hkb hs1 hS1 hM1
  (refine jN rfl rfl rfl ?_; refine jN rfl rfl rfl ?_)
  (refine jjS (cells := [.int .i64 0, .int .i64 to]) ?_ ?_; exact rfl)
  refine Ops.insert (k := to) hM1 rfl rfl rfl ?_
  intro w2 o2 hp2 hM2
  have hS2 : Step w_b5 w2 := (hp2.ext hS1.ext (by omega)).toStep
  have z2 := hp2.size
  have hM2' : MapE (Value.int .i64) w2 kmb [(to, encII (0, to))] := hM2
  (apply jI; exact eM rfl)
  (apply jjR rfl; (intro _; first|exact eI rfl|exact eB rfl|exact eP rfl|exact eS rfl|exact eT rfl|exact eA rfl|exact eU rfl|exact eF rfl|exact eM rfl|exact eN rfl|exact rfl); exact rfl; exact rfl; exact rfl; exact rfl; intro b9 w_b9 hb_b9 hs_b9 hS_b9 hk_b9; have hA_b9 := Bk.of hk_b9)
  (((refine jz ?_; refine jjB ?_; refine jjC ?_)); refine jjY ?_; intro b10 w_b10 hb_b10 hs_b10 hS_b10 hk_b10; have hA_b10 := Bk.of hk_b10)
  (refine jz ?_; refine jjB ?_; refine jjC ?_; refine jv ?_)
  refine Ops.store rfl rfl rfl rfl rfl ?_
  intro w4 hp4
  have hS4 : Step w_b9 w4 := (hp4.ext hS_b10.ext (by omega)).toStep
  have z4 := hp4.size
  have zn := hnone.lt
  have zp := hfrm.lt
  have zm := hmay.lt
  have e9 : Ext w_b9 w4 := inferInstance
  have e2 : Ext w2 w4 := inferInstance
  have hK : KF ⟨b9, kmb, b5, b3, b10, pf, mb, h, tot, to, sl, xs⟩ w4 := ⟨inferInstance, inferInstance, inferInstance, (Bk.of (cs := [.func (.func 78) #[] [.pointer (some ⟨b9, 0, none⟩), .pointer (some ⟨b5, 0, none⟩), .pointer (some ⟨b3, 0, none⟩), .pointer (some ⟨b10, 0, none⟩)].toArray]) hp4.new).toAt, hnone.ext inferInstance, hfrm.ext inferInstance, hmay.ext inferInstance, ⟨_, hM2'.ext e2, by
    refine ⟨by simp [mget], fun k v hk => ?_⟩
    simp only [mget] at hk
    by_cases e : k = to
    · subst e
      simp at hk
      subst hk
      simp only [Cf.on]
      rw [onW_to]
    · simp [e] at hk⟩, by refine ⟨?_, ?_, ?_, ?_, ?_, ?_, ?_⟩ <;> simp only <;> omega⟩
  have hon := on_galley ⟨b9, kmb, b5, b3, b10, pf, mb, h, tot, to, sl, xs⟩ hh ht (fun n hn => by
    rcases onW_bound (tot := tot) (to := to) (may := fun n => decide (n ∈ xs)) hh.2 1000 n (by omega) with e | e
    · exact .inl e
    · exact .inr ⟨e.1, by have := e.2; simp only [Cf.on]; omega⟩)
  have fon := hK.on
  (refine jz ?_; refine jjB ?_; refine jjB ?_)
  refine W.draw (fun wq => At wq b10 0 [.func (.func 78) #[] [.pointer (some ⟨b9, 0, none⟩), .pointer (some ⟨b5, 0, none⟩), .pointer (some ⟨b3, 0, none⟩), .pointer (some ⟨b10, 0, none⟩)].toArray] ∧ At wq 0 0 [.int .i64 (-1), .int .i64 (-1)]) ?_
  intro w5 hS5
  have hK5 := hK.ext hS5.ext
  (refine jjV [0, 1, 3] ?_ ?_ ?_; (decide +kernel); (exact ⟨hK5.on, hK5.nn⟩); (((apply jjT; exact rfl; rintro wq ⟨q1, q2⟩; refine jN rfl rfl rfl ?_; refine jz ?_; exact ⟨rfl, rfl⟩; apply jjT; exact rfl; rintro wq ⟨q1, q2⟩; apply jI; exact eI rfl; refine jz ?_; exact ⟨rfl, rfl⟩; apply jjT; exact rfl; rintro wq ⟨q1, q2⟩; refine jO rfl rfl rfl rfl ?_; refine jz ?_; exact ⟨rfl, rfl⟩; refine jjU ?_))))
  (apply jjW 2; (decide +kernel); exact rfl; (exact ⟨hK5.on, hK5.nn⟩))
  refine Ops.callR rfl (Enters.h (P := Tryz.prog) (g := 78)) rfl (hon _ frm _ (Nat.le_refl _) hf hK5) ?_
  rintro _ w6 ⟨v6, rfl, rfl, hO6, hK6⟩
  refine ⟨_, rfl, ?_⟩
  refine jz ?_
  refine jjV [4] ?_ ?_ ?_
  · decide +kernel
  · exact ⟨hK6.on, hK6.nn⟩
  apply jjT
  · exact rfl
  · intro wq _
    refine Ops.eqlT (enc := encII) (Cf.on ⟨b9, kmb, b5, b3, b10, pf, mb, h, tot, to, sl, xs⟩ frm) noneW rfl rfl ?_
    refine jz ?_
    exact ⟨rfl, rfl⟩
  refine jjU ?_
  refine jjX ?_ ?_ ?_
  · decide +kernel
  · exact ⟨hK6.on, hK6.nn⟩
  have hE4 : Ext w w4 := inferInstance
  have hO4 : Only kmb w4 w6 := (Only.ofExt hS5.ext).trans hO6
  have hE6 : Ext w w6 := hO4.ext hE4 (by omega)
  repeat' (first|((first|apply jI|apply jJ); (first|exact eI rfl|exact eB rfl|exact eS rfl))|refine jz ?_|(refine jjA ?_; (first|refine jjB ?_|refine jjC ?_|refine jjD ?_|refine jjF ?_|refine jjG ?_))|(refine jjA ?_; (refine jjN rfl ?_ ?_ <;> intro _))|refine jD rfl rfl rfl rfl ⟨inferInstance, ?_⟩)
  · exact .inl ⟨‹_›, rfl⟩
  · have hne : onW h tot to (fun n => decide (n ∈ xs)) frm ≠ noneW := ‹_›
    have hle := onW_le hne
    have hB : w.heap.size ≤ w6.heap.size := hE6.size
    have zo := hO4.size
    have hkw : kmb < w6.heap.size := by omega
    refine W.loopG (25 :: 26 :: 27 :: 28 :: 29 :: 30 :: 31 :: 12 :: 32 :: 33 :: 34 :: 35 :: 11 :: []) (fun g s' w' => ∃ (n : Int) (v : Value) (ys : List Int), s' 12 = .int .i64 n ∧ s' 11 = v ∧ frm ≤ n ∧ n ≤ to ∧ onW h tot to (fun n => decide (n ∈ xs)) n ≠ noneW ∧ g = (to - n).toNat ∧ (ys.length : Int) ≤ n - frm ∧ Only kmb w4 w' ∧ KF ⟨b9, kmb, b5, b3, b10, pf, mb, h, tot, to, sl, xs⟩ w' ∧ OwnL w' w6.heap.size 3 false 1 v (ys.map intV) ∧ ys ++ pathW h tot to (fun n => decide (n ∈ xs)) (to - n).toNat n = pathW h tot to (fun n => decide (n ∈ xs)) (to - frm).toNat frm ∧ w6.heap.size ≤ w'.heap.size) (to - frm).toNat ⟨frm, _, [], rfl, rfl, by omega, hle, hne, rfl, by simp, hO4, hK6, OwnL.nil _ _ _ _ _, by simp, Nat.le_refl _⟩ ?_
    rintro _ e w' ⟨n, v, ys, h12, h11, hn1, hn2, hn3, rfl, hyl, hOn, hKn, hOw, hpath, hsz6⟩
    have := hKn.to
    have := hKn.on
    have hE' : Ext w w' := hOn.ext hE4 (by omega)
    refine W.fix h12 (W.fix (d := 11) h11 ?_)
    repeat' (first|(apply jI; (first|exact eI rfl|exact rfl))|(refine jM ?_; refine jN rfl rfl rfl ?_)|(refine jW ?_; refine jX rfl rfl ?_)|refine jz ?_|(refine jjA ?_; (first|refine jjB ?_|refine jjC ?_|refine jjD ?_|refine jjE ?_|refine jjG ?_))|(refine jjA ?_; (refine jjN rfl ?_ ?_ <;> intro _)))
    · have hlt : n < to := ‹_›
      obtain ⟨i, e1, e2, e3, e4⟩ := onW_step (by omega) hn3
      refine Ops.callR rfl (Enters.h (P := Tryz.prog) (g := 78)) rfl (hon _ n _ (Nat.le_refl _) (by omega) hKn) ?_
      rintro _ w7 ⟨v7, rfl, rfl, hO7, hK7⟩
      refine ⟨_, rfl, ?_⟩
      refine Ops.field rfl rfl ?_
      (apply jJ; exact eI rfl; refine jz ?_; refine jjC ?_; apply jI; exact rfl; apply jI; exact eI rfl)
      (refine jjP (v := .int _ _) rfl (by exact rfl) (by exact rfl) (by exact rfl) (by exact rfl) ?_; intro b34 w_b34 hb_b34 hs_b34 hS_b34 hk_b34; have hR_b34 := RowV.one (agg := false) (k := 1) rfl hk_b34)
      have hOw7 := (hO7.own hOw hkw).ext hS_b34.ext
      have z7 := hO7.size
      have z34 := hS_b34.size
      refine Ops.appendL hOw7 (by omega) hR_b34 rfl rfl rfl rfl rfl ?_ ?_ ?_
      · simp only [List.length_map, List.length_cons, List.length_nil]; omega
      · simp only [List.length_map, List.length_cons, List.length_nil]; omega
      intro v8 w8 hA8 hO8 _ _
      have hOn8 := ((hOn.trans hO7).trans (.ofExt hS_b34.ext)).app hA8 (hO4.size)
      have hgb : ∀ g, v.ownBlock = some g → w6.heap.size ≤ g := fun g hg => (hOw.block g hg).1
      have hK8 := hK.only hOn8 ((hK7.ext hS_b34.ext).km.imp fun m hm => ⟨hm.1.app hA8 (fun e => Nat.not_le_of_lt hkw (hgb _ e)), hm.2⟩)
      have za := hA8.g.size
      (apply jJ; exact rfl; refine jz ?_)
      refine ⟨rfl, by ((refine Same.upd rfl ?_; refine Same.upd rfl ?_; refine Same.upd rfl ?_; refine Same.upd rfl ?_; refine Same.upd rfl ?_; refine Same.upd rfl ?_; refine Same.upd rfl ?_; refine Same.upd rfl ?_; refine Same.upd rfl ?_; refine Same.upd rfl ?_; refine Same.upd rfl ?_; refine Same.upd rfl ?_; refine Same.upd rfl ?_; refine Same.upd rfl ?_; refine Same.upd rfl ?_; exact Same.ovN)), (to - (onW h tot to (fun n => decide (n ∈ xs)) n).2).toNat, ?_, (onW h tot to (fun n => decide (n ∈ xs)) n).2, _, ys ++ [(onW h tot to (fun n => decide (n ∈ xs)) n).2], rfl, rfl, ?_, ?_, ?_, rfl, ?_, hOn8, hK8, ?_, ?_, by omega⟩
      · rw [e4]; simp only; omega
      · rw [e4]; simp only; omega
      · rw [e4]; simp only; omega
      · rw [e4]; exact e3
      · rw [e4]; simp only [List.length_append, List.length_cons, List.length_nil]; omega
      · rw [List.map_append]; exact hO8
      · rw [← hpath, List.append_assoc, pathW_step hlt hn3]; rfl
    · have hnt : n = to := by
        have hx : ¬ n < to := ‹_›
        omega
      refine Ops.callR rfl (Enters.h (P := Tryz.prog) (g := 78)) rfl (hon _ frm _ (Nat.le_refl _) hf hKn) ?_
      rintro _ w7 ⟨v7, rfl, rfl, hO7, hK7⟩
      refine ⟨_, rfl, ?_⟩
      refine Ops.field rfl rfl ?_
      have hE7 : Ext w w7 := (hOn.trans hO7).ext hE4 (show w.heap.size ≤ kmb by omega)
      (apply jJ; exact rfl; apply jJ; exact eI rfl; apply jJ; exact eB rfl; refine jz ?_; refine jjF ?_; refine jD rfl rfl rfl rfl ⟨inferInstance, ?_⟩)
      refine .inr ⟨hne, v, rfl, ?_⟩
      have hOw7 := (hO7.own hOw hkw).mono hB
      rw [hnt] at hpath
      have hys : ys = pathW h tot to (fun n => decide (n ∈ xs)) (to - frm).toNat frm := by
        rw [← hpath, Int.sub_self]
        simp [pathW]
      rw [← hys]
      exact hOw7
end Go.Proofs.YtfebegbjggoijaaGreatDoor

/- galley: Break. -/
namespace Go.Proofs.YtfebegbjggoijaaGreatDoor
open Go.RowKit

def brkL (h : Int) (bs : List Blk) : List Int :=
  if onW h (lastZ (endsF 0 bs)) (lastZ (endsF 0 bs)) (fun n => decide (n ∈ endsF 0 bs)) 0 = noneW then []
  else pathW h (lastZ (endsF 0 bs)) (lastZ (endsF 0 bs)) (fun n => decide (n ∈ endsF 0 bs)) (lastZ (endsF 0 bs)).toNat 0

theorem Break_galley (h : Int) (a : Option Addr) (c : Nat) (bs : List Blk) (w : World) (hrow : RowV w true 2 (.slice a bs.length c) (bs.map encB)) (hbs : ∀ b ∈ bs, b.1.size ≤ 140737488351232) (htorn : At w 1 0 tornC) (hnone : At w 0 0 [.int .i64 (-1), .int .i64 (-1)])
    :
    Ct Tryz.prog 14 [.agg #[.int .i64 h, .slice a bs.length c]] w fun v w' => ∃ u, v = .tuple #[u, .int .i64 (gErr h bs)] ∧ RowV w' false 1 u ((if galleyB h bs then brkL h bs else []).map intV) := by
  refine Ct.ofW (by simp) ?_
  (refine jjB ?_; refine jjC ?_)
  (refine jy rfl ?_; intro b1 w_b1 hb_b1 hs_b1 hS_b1 hk_b1; have hA_b1 := At.ofBlock hk_b1)
  (((apply jJ; exact eS rfl; apply jJ; exact eI rfl; refine jz ?_; refine jjB ?_; refine jjC ?_; refine jO rfl rfl rfl rfl ?_)); refine jjQ (open_galley h a c bs _ (hrow.ext inferInstance) hbs (htorn.ext inferInstance)) rfl rfl ?_)
  rintro _ w2 hS2 (⟨hg, rfl⟩ | ⟨hg, pf, mb, rfl, h1, h2, h3⟩)
  · (apply jI; exact eU rfl; refine ju rfl rfl ?_; refine ju rfl rfl ?_; apply jJ; exact eN rfl; apply jJ; exact eI rfl; refine jz ?_; refine jjB ?_; refine jjB ?_; refine jjC ?_; apply jI; exact eI rfl; refine jc rfl rfl ?_; refine jz ?_; refine jjJ rfl ?_; refine jjB ?_; refine jjC ?_; apply jI; exact eI rfl; apply jJ; exact eS rfl; apply jJ; exact eI rfl; refine jz ?_; refine jjF ?_; refine jC rfl rfl rfl ⟨inferInstance, ?_⟩)
    refine ⟨.slice none 0 0, by simp only [gErr, hg]; exact rfl, ?_⟩
    rw [hg]; exact RowV.nilS _ _ _ _ _
  · have := h3.frm
    have hs := galleyB_spec hg
    have hla := lastZ_bound hs.1 hs.2.1 hs.2.2.1
    (apply jI; exact eU rfl; refine ju rfl rfl ?_; refine ju rfl rfl ?_; apply jJ; exact eP rfl; apply jJ; exact eI rfl; refine jz ?_; refine jjB ?_; refine jjB ?_; refine jjC ?_; apply jI; exact eI rfl; refine jc rfl rfl ?_; refine jz ?_; refine jjK rfl ?_; refine jjG ?_; refine jjB ?_; refine jjC ?_; apply jI; exact eP rfl; apply jI; exact eP rfl; refine jw rfl ?_; refine jm ?_; refine jn rfl ?_; refine jN rfl rfl rfl ?_)
    refine jjQ (between_galley pf mb h (lastZ (endsF 0 bs)) 0 (lastZ (endsF 0 bs)) (.slice a bs.length c) (endsF 0 bs) _ h3.frm h3.may (hnone.ext inferInstance) (by omega) (by omega) hla) rfl rfl ?_
    rintro _ w3 hS3 (⟨e, rfl⟩ | ⟨e, u, rfl, hO⟩)
    · (apply jI; exact eU rfl; refine ju rfl rfl ?_; refine ju rfl rfl ?_; refine ju rfl rfl ?_; apply jJ; exact eS rfl; apply jJ; exact eI rfl; apply jJ; exact eB rfl; refine jz ?_; refine jjB ?_; refine jjC ?_; apply jI; exact eS rfl; apply jJ; exact eS rfl; apply jJ; exact eI rfl; refine jz ?_; refine jjF ?_; refine jC rfl rfl rfl ⟨inferInstance, ?_⟩)
      refine ⟨.slice none 0 0, by simp only [gErr, hg]; exact rfl, ?_⟩
      rw [hg]
      simp only [if_true, brkL, if_pos e]
      exact RowV.nilS _ _ _ _ _
    · (apply jI; exact eU rfl; refine ju rfl rfl ?_; refine ju rfl rfl ?_; refine ju rfl rfl ?_; apply jJ; exact rfl; apply jJ; exact eI rfl; apply jJ; exact eB rfl; refine jz ?_; refine jjB ?_; refine jjC ?_; apply jI; exact rfl; apply jJ; exact rfl; apply jJ; exact eI rfl; refine jz ?_; refine jjF ?_; refine jC rfl rfl rfl ⟨inferInstance, ?_⟩)
      refine ⟨u, by simp only [gErr, hg]; exact rfl, ?_⟩
      rw [hg]
      simp only [if_true, brkL, if_neg e]
      have := hO.row
      rwa [Int.sub_zero] at this
end Go.Proofs.YtfebegbjggoijaaGreatDoor

/- Plain law: chains of columns, the best one (GalleyRules, GalleyLeast, GalleyCheapest). -/
namespace Go.Proofs.YtfebegbjggoijaaGreatDoor
open Go.RowKit

/-- Columns from n on to the end. -/
def Chn (h : Int) (may : Int → Bool) (to : Int) : Int → List Int → Prop
  | n, [] => n = to
  | n, m :: l => may m = true ∧ n < m ∧ m ≤ n + h ∧ Chn h may to m l
/-- What they cost. -/
def cstL (h tot : Int) : Int → List Int → Int
  | _, [] => 0
  | n, m :: l => colW h tot n m + cstL h tot m l
/-- Whether a list of numbers is before another one. -/
def befL : List Int → List Int → Bool
  | [], [] => false
  | [], _ :: _ => true
  | _ :: _, [] => false
  | x :: a, y :: b => if x = y then befL a b else decide (x < y)
theorem Chn.le {h to : Int} {may : Int → Bool} : ∀ {l : List Int} {n : Int}, Chn h may to n l → n ≤ to
  | [], n, e => by have : n = to := e; omega
  | m :: l, n, ⟨_, h1, _, h3⟩ => by have := h3.le; omega
section
variable {h tot to : Int} {may : Int → Bool} (hh : 0 ≤ h ∧ h ≤ 40) (ho : ∀ n, 0 ≤ n → n ≤ to → onW h tot to may n ≠ noneW) (hto : to ≤ 1000)
include hh ho hto
/-- The next end of the best way. -/
theorem pick_next {n : Int} (h0 : 0 ≤ n) (hn : n < to) : may (onW h tot to may n).2 = true ∧ n < (onW h tot to may n).2 ∧ (onW h tot to may n).2 ≤ n + h ∧ (onW h tot to may n).2 ≤ to ∧
    colW h tot n (onW h tot to may n).2 + costR h tot to may (onW h tot to may n).2 = costR h tot to may n ∧
    ∀ m, may m = true → n < m → m ≤ n + h → m ≤ to → costR h tot to may n ≤ colW h tot n m + costR h tot to may m ∧ (m < (onW h tot to may n).2 → costR h tot to may n < colW h tot n m + costR h tot to may m) := by
  have hp := onP_any (may := may) (tot := tot) (n := n) hh (by omega) (by omega : n ≤ to)
  have hne := ho n h0 (by omega)
  rw [costR_eq may hn]
  rw [onW_eq _ _ _ _ _ (by omega)] at hne ⊢
  rcases hp.way with ⟨h1, _⟩ | ⟨q, h1, h2, h3, h4, h5, h6, h7⟩
  · exact absurd h1 hne
  · rw [h3]
    refine ⟨h2, by dsimp only; omega, by dsimp only; omega, by dsimp only; omega, h4.symm, fun m hm m1 m2 m3 => ?_⟩
    obtain ⟨i, hi⟩ : ∃ i : Nat, m = n + 1 + i := ⟨(m - n - 1).toNat, by omega⟩
    subst hi
    refine ⟨hp.le i (by omega) hm, fun hlt => h7 i (by dsimp only at hlt; omega) hm⟩
/-- The best way is a chain, and costs what is proved. -/
theorem path_chn : ∀ (k : Nat) (n : Int), (to - n).toNat ≤ k → 0 ≤ n → n ≤ to → Chn h may to n (pathW h tot to may k n) ∧ cstL h tot n (pathW h tot to may k n) = costR h tot to may n := by
  intro k
  induction k with
  | zero =>
    intro n hk h0 hn
    obtain rfl : n = to := by omega
    exact ⟨rfl, (costR_to h tot n may).symm⟩
  | succ k ih =>
    intro n hk h0 hn
    rw [pathW]
    by_cases hlt : n < to
    · rw [if_pos hlt]
      obtain ⟨p1, p2, p3, p4, p5, -⟩ := pick_next hh ho hto h0 hlt
      obtain ⟨i1, i2⟩ := ih (onW h tot to may n).2 (by omega) (by omega) p4
      exact ⟨⟨p1, p2, p3, i1⟩, by rw [cstL, i2, p5]⟩
    · rw [if_neg hlt]
      obtain rfl : n = to := by omega
      exact ⟨rfl, (costR_to h tot n may).symm⟩
/-- No chain costs less; of those that cost as much the best way is the first. -/
theorem chn_least : ∀ (l : List Int) (n : Int), 0 ≤ n → Chn h may to n l → costR h tot to may n ≤ cstL h tot n l ∧ ∀ k : Nat, (to - n).toNat ≤ k → cstL h tot n l = costR h tot to may n → befL l (pathW h tot to may k n) = false := by
  intro l
  induction l with
  | nil =>
    intro n h0 hc
    obtain rfl : n = to := hc
    refine ⟨by rw [costR_to]; exact Int.le_refl _, fun k _ _ => ?_⟩
    cases k with
    | zero => rfl
    | succ k => rw [pathW, if_neg (by omega)]; rfl
  | cons m l ih =>
    intro n h0 hc
    obtain ⟨c1, c2, c3, c4⟩ := hc
    have hle := c4.le
    obtain ⟨p1, p2, p3, p4, p5, p6⟩ := pick_next hh ho hto h0 (by omega : n < to)
    obtain ⟨i1, i2⟩ := ih m (by omega) c4
    obtain ⟨q1, q2⟩ := p6 m c1 c2 c3 hle
    refine ⟨by rw [cstL]; omega, fun k hk he => ?_⟩
    rw [cstL] at he
    obtain ⟨k, rfl⟩ : ∃ k', k = k' + 1 := ⟨k - 1, by omega⟩
    rw [pathW, if_pos (by omega), befL]
    by_cases e : m = (onW h tot to may n).2
    · rw [if_pos e, ← e]
      exact i2 k (by omega) (by omega)
    · rw [if_neg e]
      refine decide_eq_false fun hlt => ?_
      have := q2 hlt
      omega
end
/-- A valid breaking is a chain from the start on. -/
theorem chn_iff {h : Int} {may : Int → Bool} {to : Int} : ∀ (l : List Int) (n : Int), Chn h may to n l ↔ (∀ k, k < l.length → may (l.getD k 0) = true ∧ 1 ≤ l.getD k 0 - (n :: l).getD k 0 ∧ l.getD k 0 - (n :: l).getD k 0 ≤ h) ∧ (n :: l).getD l.length 0 = to := by
  intro l
  induction l with
  | nil => intro n; simp [Chn]
  | cons m l ih =>
    intro n
    rw [Chn, ih]
    constructor
    · rintro ⟨h1, h2, h3, h4, h5⟩
      refine ⟨fun k hk => ?_, h5⟩
      cases k with
      | zero => exact ⟨h1, by show 1 ≤ m - n; omega, by show m - n ≤ h; omega⟩
      | succ k => exact h4 k (by simpa using hk)
    · rintro ⟨h1, h2⟩
      have h0 := h1 0 (by simp)
      have e1 : (m :: l).getD 0 0 = m := rfl
      have e2 : (n :: m :: l).getD 0 0 = n := rfl
      rw [e1, e2] at h0
      exact ⟨h0.1, by omega, by omega, fun k hk => h1 (k + 1) (by simpa using hk), h2⟩
theorem prev_getD (l : List Int) (k : Nat) : prevD l k = (0 :: l).getD k 0 := by cases k <;> rfl
theorem valid_chn {h : Int} {bs : List Blk} {l : List Int} : validB h bs l = true ↔ Chn h (fun n => mayR n 0 bs) (sumL bs) 0 l := by
  rw [chn_iff]
  simp only [validB, stepB, Bool.and_eq_true, List.all_eq_true, List.mem_range, decide_eq_true_eq, prev_getD]
theorem cst_take {h tot : Int} : ∀ (l : List Int) (n : Int) (k : Nat), k < l.length → cstL h tot n (l.take (k + 1)) = cstL h tot n (l.take k) + colW h tot ((n :: l).getD k 0) (l.getD k 0)
  | [], _, _, hk => absurd hk (Nat.not_lt_zero _)
  | m :: l, n, 0, _ => by
    show colW h tot n m + 0 = 0 + colW h tot n m
    omega
  | m :: l, n, k + 1, hk => by
    have := cst_take (h := h) (tot := tot) l m k (by simpa using hk)
    rw [List.take_succ_cons, List.take_succ_cons, cstL, cstL, this]
    show colW h tot n m + (_ + colW h tot ((m :: l).getD k 0) (l.getD k 0)) = colW h tot n m + _ + colW h tot ((m :: l).getD k 0) (l.getD k 0)
    omega
theorem waste_take {h tot : Int} {l : List Int} : ∀ k, k ≤ l.length → wasteP h tot l k = cstL h tot 0 (l.take k)
  | 0, _ => by rw [List.take_zero]; rfl
  | k + 1, hk => by rw [wasteP, waste_take k (by omega), cst_take l 0 k (by omega), prev_getD]
theorem waste_cst {h tot : Int} {l : List Int} : wasteP h tot l l.length = cstL h tot 0 l := by
  rw [waste_take _ (Nat.le_refl _), List.take_length]
theorem galley_yes {h : Int} {bs : List Blk} (hg : galleyB h bs = true) : (4 ≤ h ∧ h ≤ 40) ∧ (1 ≤ bs.length ∧ bs.length ≤ 30) ∧ (∀ b ∈ bs, 1 ≤ b.2 ∧ b.2 ≤ 20) ∧ 1 ≤ sumL bs ∧ sumL bs ≤ 600 := by
  simp only [galleyB, inB, Bool.and_eq_true, decide_eq_true_eq, List.all_eq_true, blockB] at hg
  obtain ⟨⟨h1, h2⟩, h3⟩ := hg
  have hb : ∀ b ∈ bs, 1 ≤ b.2 ∧ b.2 ≤ 20 := fun b hm => (h3 b hm).2
  have hs := sumL_le hb
  refine ⟨h1, by omega, hb, ?_, by omega⟩
  cases bs with
  | nil => simp at h2
  | cons b r =>
    have := hb b (by simp)
    have := sumL_le (bs := r) fun x hx => hb x (by simp [hx])
    rw [sumL_cons]
    omega
end Go.Proofs.YtfebegbjggoijaaGreatDoor

/- galley: Proof. -/
namespace Go.Proofs.YtfebegbjggoijaaGreatDoor
open Go.RowKit

def bestF (h tot n : Int) (f : Int → Option Int) (lo : Int) : Nat → Int
  | 0 => -1
  | j + 1 => match f (lo + j) with
    | none => bestF h tot n f lo j
    | some c => if bestF h tot n f lo j < 0 ∨ c + colW h tot (lo + j) n < bestF h tot n f lo j then c + colW h tot (lo + j) n else bestF h tot n f lo j
def bestN (h tot : Int) (f : Int → Option Int) (n : Int) : Int := bestF h tot n f (max 0 (n - h)) (n - max 0 (n - h)).toNat
def prF (h tot : Int) (st : (Int → Option Int) × List Int) (n : Int) : (Int → Option Int) × List Int := (fun k => if k = n then some (bestN h tot st.1 n) else st.1 k, st.2 ++ [bestN h tot st.1 n])
def proofS (h tot : Int) (xs : List Int) : (Int → Option Int) × List Int := xs.foldl (prF h tot) (fun k => if k = 0 then some 0 else none, [0])
theorem proofS_snoc (h tot : Int) (xs : List Int) (n : Int) : proofS h tot (xs ++ [n]) = prF h tot (proofS h tot xs) n := by simp [proofS]
theorem proofS_len (h tot : Int) (xs : List Int) : (proofS h tot xs).2.length = xs.length + 1 := by
  suffices ∀ (xs : List Int) (st : (Int → Option Int) × List Int), (xs.foldl (prF h tot) st).2.length = st.2.length + xs.length by
    unfold proofS; rw [this]; simp; omega
  intro xs
  induction xs with
  | nil => intro st; simp
  | cons x xs ih => intro st; rw [List.foldl_cons, ih]; simp [prF]; omega

theorem MB.put {N b c e : Nat} {V V' : World} {o : Obj} {v : Value} (hb : Bk V b [v] e) (p : PutO V V' c o) (hc : c < N) (hne : b ≠ c) : Fr (MB N b) V V' :=
  ⟨by rw [p.size]; exact Nat.le_refl _, fun k _ hk _ hm => (p.other k (fun e => hm (.inl (by omega)))).trans hk, fun k h => .inl (MB.same hb (p.bk hb hne) h)⟩
theorem MB.ext' {N b e : Nat} {V V' : World} {v : Value} (hb : Bk V b [v] e) (g : Ext V V') : Fr (MB N b) V V' := Fr.ofExt g fun _ hk => .inl (MB.same hb (hb.ext g) hk)
theorem bestF_none {h tot n lo : Int} {f : Int → Option Int} {j : Nat} (hk : f (lo + j) = none) : bestF h tot n f lo (j + 1) = bestF h tot n f lo j := by simp only [bestF, hk]
theorem bestF_some {h tot n lo c : Int} {f : Int → Option Int} {j : Nat} (hk : f (lo + j) = some c) (hc : bestF h tot n f lo j < 0 ∨ c + colW h tot (lo + j) n < bestF h tot n f lo j) : bestF h tot n f lo (j + 1) = c + colW h tot (lo + j) n := by simp only [bestF, hk]; rw [if_pos hc]
theorem bestF_keep {h tot n lo c : Int} {f : Int → Option Int} {j : Nat} (hk : f (lo + j) = some c) (h1 : ¬ bestF h tot n f lo j < 0) (h2 : ¬ c + colW h tot (lo + j) n < bestF h tot n f lo j) : bestF h tot n f lo (j + 1) = bestF h tot n f lo j := by
  simp only [bestF, hk]; rw [if_neg]; rintro (e | e); exact h1 e; exact h2 e
theorem bestF_bound {h tot n lo B : Int} {f : Int → Option Int} (hB : -1 ≤ B) (hf : ∀ k c, f k = some c → -1 ≤ c ∧ c ≤ B) (hh : -1000 ≤ h ∧ h ≤ 1000) (hn : -1000 ≤ n ∧ n ≤ 1000) (hlo : -1000 ≤ lo) : ∀ j : Nat, lo + j ≤ 1000 → -1 ≤ bestF h tot n f lo j ∧ bestF h tot n f lo j ≤ B + 9000000 := by
  intro j
  induction j with
  | zero => intro _; simp [bestF]; omega
  | succ j ih =>
    intro hj
    have ih := ih (by omega)
    simp only [bestF]
    cases hk : f (lo + j) with
    | none => exact ih
    | some c =>
      have hc := hf _ _ hk
      have hw := colW_bound (h := h) (tot := tot) (frm := lo + j) (to := n) hh (by omega) hn
      simp only
      split
      · omega
      · exact ih
theorem max_lo {h n : Int} (hh : 0 ≤ h) (hn : 0 ≤ n) : 0 ≤ max 0 (n - h) ∧ max 0 (n - h) ≤ n := by
  rcases Int.le_total 0 (n - h) with e | e
  · rw [Int.max_eq_right e]; omega
  · rw [Int.max_eq_left e]; omega
theorem proofS_bound {h tot : Int} (hh : 0 ≤ h ∧ h ≤ 1000) : ∀ (xs : List Int), (∀ x ∈ xs, 0 ≤ x ∧ x ≤ 1000) → ∀ k c, (proofS h tot xs).1 k = some c → -1 ≤ c ∧ c ≤ xs.length * 9000000 := by
  intro xs
  generalize hr : xs.reverse = ys
  induction ys generalizing xs with
  | nil =>
    obtain rfl : xs = [] := List.reverse_eq_nil_iff.1 hr
    intro _ k c hk
    simp only [proofS, List.foldl_nil] at hk
    split at hk
    · cases hk; simp
    · cases hk
  | cons y ys ih =>
    obtain ⟨zs, rfl⟩ : ∃ zs, xs = zs ++ [y] := ⟨ys.reverse, by rw [← List.reverse_reverse xs, hr]; simp⟩
    intro hx k c hk
    have ih := ih zs (by simpa using hr) (fun x h => hx x (by simp [h]))
    have hy := hx y (by simp)
    rw [proofS_snoc] at hk
    simp only [prF] at hk
    rw [List.length_append, List.length_cons, List.length_nil]
    split at hk
    · cases hk
      have hm := max_lo hh.1 hy.1
      have hb := bestF_bound (h := h) (tot := tot) (n := y) (lo := max 0 (y - h)) (B := zs.length * 9000000) (f := (proofS h tot zs).1) (by omega) ih (by omega) (by omega) (by omega) (y - max 0 (y - h)).toNat (by omega)
      simp only [bestN]
      omega
    · have := ih k c hk
      omega

theorem Proof_galley (h : Int) (a : Option Addr) (c : Nat) (bs : List Blk) (w : World) (hrow : RowV w true 2 (.slice a bs.length c) (bs.map encB)) (hbs : ∀ b ∈ bs, b.1.size ≤ 140737488351232) (htorn : At w 1 0 tornC) (hends : galleyB h bs = true → ∀ x ∈ endsF 0 bs, 0 ≤ x ∧ x ≤ 1000) :
    Ct Tryz.prog 21 [.agg #[.int .i64 h, .slice a bs.length c]] w fun v w' => ∃ u, v = .tuple #[u, .int .i64 (gErr h bs)] ∧ RowV w' false 1 u ((if galleyB h bs then (proofS h (lastZ (endsF 0 bs)) (endsF 0 bs)).2 else []).map intV) := by
  refine Ct.ofWM (by simp) ?_
  (refine jjB ?_; refine jjC ?_)
  (refine jy rfl ?_; intro b1 w_b1 hb_b1 hs_b1 hS_b1 hk_b1; have hA_b1 := At.ofBlock hk_b1)
  (((apply jJ; exact eS rfl; apply jJ; exact eI rfl; refine jz ?_; refine jjB ?_; refine jjC ?_; refine jO rfl rfl rfl rfl ?_)); refine jjQ (open_galley h a c bs _ (hrow.ext inferInstance) hbs (htorn.ext inferInstance)) rfl rfl ?_)
  rintro _ w2 hS2 (⟨hg, rfl⟩ | ⟨hg, pf, mb, rfl, h1, h2, h3⟩)
  · (apply jI; exact eU rfl; refine ju rfl rfl ?_; refine ju rfl rfl ?_)
    (apply jjR rfl; (intro _; first|exact eI rfl|exact eB rfl|exact eP rfl|exact eS rfl|exact eT rfl|exact eA rfl|exact eU rfl|exact eF rfl|exact eM rfl|exact eN rfl|exact rfl); exact rfl; exact rfl; exact rfl; exact rfl; intro b4 w_b4 hb_b4 hs_b4 hS_b4 hk_b4; have hA_b4 := Bk.of hk_b4)
    (apply jJ; exact eI rfl; refine jz ?_; refine jjB ?_; refine jjB ?_; refine jjC ?_; apply jI; exact eI rfl; refine jc rfl rfl ?_; refine jz ?_; refine jjJ rfl ?_; refine jjB ?_; refine jjC ?_; apply jI; exact eI rfl; apply jJ; exact eS rfl; apply jJ; exact eI rfl; refine jz ?_; refine jjF ?_)
    refine fin2M rfl rfl rfl inferInstance fun w' g => ⟨Ext.ofGrow inferInstance g (Nat.le_refl _), .slice none 0 0, by simp only [gErr, hg]; exact rfl, ?_⟩
    rw [hg]; exact RowV.nilS _ _ _ _ _
  · have := h3.frm
    have hs := galleyB_spec hg
    have hxs := hends hg
    (apply jI; exact eU rfl; refine ju rfl rfl ?_; refine ju rfl rfl ?_)
    (apply jjR rfl; (intro _; first|exact eI rfl|exact eB rfl|exact eP rfl|exact eS rfl|exact eT rfl|exact eA rfl|exact eU rfl|exact eF rfl|exact eM rfl|exact eN rfl|exact rfl); exact rfl; exact rfl; exact rfl; exact rfl; intro b4 w_b4 hb_b4 hs_b4 hS_b4 hk_b4; have hA_b4 := Bk.of hk_b4)
    (apply jJ; exact eI rfl; refine jz ?_; refine jjB ?_; refine jjB ?_; refine jjC ?_; apply jI; exact eI rfl; refine jc rfl rfl ?_; refine jz ?_; refine jjK rfl ?_; refine jjG ?_; refine jjB ?_; refine jjC ?_)
    refine Ops.makeMap (Value.int .i64) ?_
    intro kb w3 hkb hs3 hS3 hM3
    refine Ops.insert (k := (0 : Int)) hM3 rfl rfl rfl ?_
    intro w5 o5 hp5 hM5
    have hS5 : Step w_b4 w5 := (hp5.ext hS3.ext (by omega)).toStep
    have z5 := hp5.size
    have hM5' : MapE (Value.int .i64) w5 kb [(0, intV 0)] := hM5
    (apply jI; exact eM rfl)
    (apply jjR rfl; (intro _; first|exact eI rfl|exact eB rfl|exact eP rfl|exact eS rfl|exact eT rfl|exact eA rfl|exact eU rfl|exact eF rfl|exact eM rfl|exact eN rfl|exact rfl); exact rfl; exact rfl; exact rfl; exact rfl; intro b6 w_b6 hb_b6 hs_b6 hS_b6 hk_b6; have hA_b6 := Bk.of hk_b6)
    (refine jz ?_; refine jjB ?_; refine jjC ?_)
    (refine jjP (v := .int _ _) rfl (by exact rfl) (by exact rfl) (by exact rfl) (by exact rfl) ?_; intro b23 w_b23 hb_b23 hs_b23 hS_b23 hk_b23; have hR_b23 := RowV.one (agg := false) (k := 1) rfl hk_b23)
    have hO23 := OwnL.one (agg := false) (k := 1) (B := w_b6.heap.size) rfl (by omega) hk_b23
    skip
    (apply jjR rfl; (intro _; first|exact eI rfl|exact eB rfl|exact eP rfl|exact eS rfl|exact eT rfl|exact eA rfl|exact eU rfl|exact eF rfl|exact eM rfl|exact eN rfl|exact rfl); exact rfl; exact rfl; exact rfl; exact rfl; intro b7 w_b7 hb_b7 hs_b7 hS_b7 hk_b7; have hA_b7 := Bk.of hk_b7)
    (((refine jz ?_; refine jjB ?_; refine jjB ?_; refine jjC ?_; refine jN rfl rfl rfl ?_)); refine jjQ (places_galley pf _) rfl rfl ?_)
    rintro _ w8 hS8 ⟨bf, hbf, hAbf, rfl⟩
    (refine jz ?_; refine jjD ?_)
    have hE8 : Ext w w8 := inferInstance
    have z8 := hS8.size
    refine W.rangeM w.heap.size (endsF 0 bs) encI (places1_galley bf pf h a c bs hs.1 hs.2.2.1) rfl (fun _ => rfl) trivial inferInstance hE8.size
      (fun i V => Ext w V ∧ w8.heap.size ≤ V.heap.size ∧ FormO pf mb h a c bs V ∧ At V b4 0 [.pointer (some ⟨pf, 0, none⟩)] ∧ At V b6 0 [.map (some kb)] ∧ At V bf 0 [.pointer (some ⟨pf, 0, none⟩)] ∧ (∃ km, MapE (Value.int .i64) V kb km ∧ ∀ k, mget km k = ((proofS h (lastZ (endsF 0 bs)) ((endsF 0 bs).take i)).1 k).map intV) ∧ ∃ v, Bk V b7 [v] 29 ∧ OwnL V w_b6.heap.size 3 false 1 v ((proofS h (lastZ (endsF 0 bs)) ((endsF 0 bs).take i)).2.map intV) ∧ v.ownBlock ≠ some b7 ∧ v.ownBlock ≠ some bf)
      (fun _ _ _ => False) ?hJ (fun _ _ _ _ h _ => h) ?hF ?h0 (MB w8.heap.size b7) ?hW1 ?hW2 ?hW3 (fun x s' _ => s' 4 = .pointer (some ⟨b4, 0, none⟩) ∧ s' 6 = .pointer (some ⟨b6, 0, none⟩) ∧ s' 7 = .pointer (some ⟨b7, 0, none⟩) ∧ s' 8 = .int .i64 x) (fun _ _ _ _ h _ => h) ?hassign ?hbody ?hdone (fun _ _ _ _ _ _ _ h => h.elim)
    case hJ =>
      rintro i V V' ⟨q1, q2, q3, q4, q5, q6, ⟨km, q7, q8⟩, v, q9, q10, q11⟩ g
      exact ⟨q1.ofGrow g hE8.size, Nat.le_trans q2 g.size, ⟨q3.frm.grow g, q3.may.grow g⟩, q4.grow g, q5.grow g, q6.grow g, ⟨km, q7.grow g, q8⟩, v, q9.grow g, q10.grow g, q11⟩
    case hF =>
      rintro i V ⟨q1, q2, q3, q4, q5, q6, _⟩
      exact ⟨q6, At.pre (cs := [_, _]) (ds := [_, _]) (Bk.toAt (h := q3.frm)), hrow.ext q1, htorn.ext q1⟩
    case h0 =>
      refine ⟨hE8, Nat.le_refl _, h3.ext inferInstance, inferInstance, inferInstance, hAbf, ⟨_, hM5'.ext inferInstance, fun k => ?_⟩, _, inferInstance, hO23.ext inferInstance, ?_, ?_⟩
      · simp only [mget, List.take_zero, proofS, List.foldl_nil]
        by_cases e : k = 0 <;> simp [e]
      · intro e; have e' : b23 = b7 := by simpa [Value.ownBlock] using e
        omega
      · intro e; have e' : b23 = bf := by simpa [Value.ownBlock] using e
        omega
    case hW1 => exact fun i V k ⟨q1, q2, q3, q4, q5, q6, q7, v, q9, q10, q11⟩ h => MB.lt q2 q9 q10 h
    case hW2 => exact fun i V V' k ⟨q1, q2, q3, q4, q5, q6, q7, v, q9, q10, q11⟩ g h => MB.back q9 g h
    case hW3 => exact fun V V' k g h => .inl (MB.grow (by omega) g h)
    case hassign =>
      intro l i x V hx hJ hl hr
      (refine jjC ?_; apply jJ; exact eI rfl; refine jz ?_)
      exact ⟨rfl, Tr.refl _, Fr.refl _ _, hJ, rfl, rfl, rfl, rfl⟩
    case hbody =>
      rintro l i x s' V hx ⟨q1, q2, q3, q4, q5, q6, ⟨km, q7, q8⟩, v, q9, q10, q11, q12⟩ ⟨ha4, ha6, ha7, ha8⟩ hl hr
      have hlt := (List.getElem?_eq_some_iff.1 hx).1
      have hxb := hxs x (List.mem_of_getElem? hx)
      have hlo := max_lo (h := h) (n := x) (by omega) hxb.1
      have hfb := proofS_bound (h := h) (tot := lastZ (endsF 0 bs)) (by omega) ((endsF 0 bs).take i) (fun y hy => hxs y (List.mem_of_mem_take hy))
      have hlen20 := endsF_len hs.1 0
      have hti : ((endsF 0 bs).take i).length ≤ 600 := by simp; omega
      have hq := q3.frm
      refine W.fix (d := 4) ha4 (W.fix (d := 6) ha6 (W.fix (d := 7) ha7 (W.fix (d := 8) ha8 ?_)))
      (refine jjD ?_; refine jjB ?_; refine jjC ?_; apply jJ; exact eI rfl; refine jz ?_; refine jjB ?_; refine jjB ?_; refine jjC ?_; apply jI; exact eI rfl; refine jN rfl rfl rfl ?_; refine jw rfl ?_; refine jm ?_; refine jn rfl ?_; refine jm ?_; refine jn rfl ?_; refine jN rfl rfl rfl ?_; refine jZ rfl rfl (by omega) ?_; refine jk rfl rfl ?_; apply jJ; exact eI rfl; refine jz ?_; refine jjD ?_)
      refine W.loop (35 :: 36 :: 37 :: 41 :: 42 :: 43 :: 40 :: 44 :: 45 :: 11 :: 12 :: 46 :: 47 :: 48 :: 49 :: 50 :: 51 :: 52 :: 53 :: 54 :: 55 :: 56 :: 57 :: 58 :: 59 :: 60 :: 61 :: 62 :: 63 :: 64 :: 65 :: 66 :: 9 :: 38 :: 39 :: 10 :: []) (fun g s' _ => ∃ j : Nat, s' 10 = .int .i64 (max 0 (x - h) + j) ∧ s' 9 = .int .i64 (bestF h (lastZ (endsF 0 bs)) x (proofS h (lastZ (endsF 0 bs)) ((endsF 0 bs).take i)).1 (max 0 (x - h)) j) ∧ (max 0 (x - h) + j) ≤ x ∧ g = (x - (max 0 (x - h) + j)).toNat) (x - max 0 (x - h)).toNat ⟨0, congrArg (Value.int .i64) (by omega), rfl, by omega, by omega⟩ ?_
      rintro _ e V1 hSV ⟨j, h10, h9, hj, rfl⟩
      refine W.fix h10 (W.fix (d := 9) h9 ?_)
      have hbj := bestF_bound (h := h) (tot := lastZ (endsF 0 bs)) (n := x) (lo := max 0 (x - h)) (B := ((endsF 0 bs).take i).length * 9000000) (f := (proofS h (lastZ (endsF 0 bs)) ((endsF 0 bs).take i)).1) (by omega) hfb (by omega) (by omega) (by omega) j (by omega)
      repeat' (first|(apply jI; exact eI rfl)|(refine jM ?_; refine jN rfl rfl rfl ?_)|(refine jW ?_; refine jX rfl rfl ?_)|refine jz ?_|(refine jjA ?_; (first|refine jjB ?_|refine jjC ?_|refine jjD ?_|refine jjE ?_|refine jjG ?_))|(refine jjA ?_; (refine jjN rfl ?_ ?_ <;> intro _)))
      · refine Ops.lookupOk (q7.ext inferInstance) rfl rfl ?_
        rw [q8]
        cases hk : (proofS h (lastZ (endsF 0 bs)) ((endsF 0 bs).take i)).1 (max 0 (x - h) + j) with
        | none =>
          (apply jI; exact eU rfl; refine ju rfl rfl ?_; refine ju rfl rfl ?_; apply jJ; exact eI rfl; apply jJ; exact eB rfl; refine jz ?_; refine jjB ?_; refine jjC ?_; apply jI; exact eB rfl; apply jI; exact eB rfl; refine jU rfl rfl rfl rfl ?_; refine jU rfl rfl rfl rfl ?_; refine jU rfl rfl rfl rfl ?_; refine jV rfl rfl ?_; refine jV rfl rfl ?_; refine jV rfl rfl ?_; refine jV rfl rfl ?_; refine jV rfl rfl ?_; refine jV rfl rfl ?_; refine jV rfl rfl ?_; refine jV rfl rfl ?_; refine jU rfl rfl rfl rfl ?_; apply jL rfl; exact eB rfl; refine jz ?_; refine jjK rfl ?_; refine jjG ?_; refine jjC ?_; apply jI; exact eI rfl; refine jY rfl rfl (by omega) ?_; apply jJ; exact eI rfl; refine jz ?_)
          refine ⟨rfl, by ((refine Same.upd rfl ?_; refine Same.upd rfl ?_; refine Same.upd rfl ?_; refine Same.upd rfl ?_; refine Same.upd rfl ?_; refine Same.upd rfl ?_; refine Same.upd rfl ?_; refine Same.upd rfl ?_; refine Same.upd rfl ?_; refine Same.upd rfl ?_; refine Same.upd rfl ?_; refine Same.upd rfl ?_; refine Same.upd rfl ?_; refine Same.upd rfl ?_; refine Same.upd rfl ?_; refine Same.upd rfl ?_; refine Same.upd rfl ?_; refine Same.upd rfl ?_; refine Same.upd rfl ?_; refine Same.upd rfl ?_; refine Same.upd rfl ?_; refine Same.upd rfl ?_; refine Same.upd rfl ?_; refine Same.upd rfl ?_; refine Same.upd rfl ?_; refine Same.upd rfl ?_; refine Same.upd rfl ?_; refine Same.upd rfl ?_; refine Same.upd rfl ?_; refine Same.upd rfl ?_; refine Same.upd rfl ?_; exact Same.ovN)), (x - (max 0 (x - h) + (j + 1 : Nat))).toNat, by omega, inferInstance, j + 1, congrArg (Value.int .i64) (by omega), congrArg (Value.int .i64) (bestF_none hk).symm, by omega, rfl⟩
        | some c1 =>
          have hc1 := hfb _ _ hk
          have hcol := colW_bound (h := h) (tot := lastZ (endsF 0 bs)) (frm := max 0 (x - h) + j) (to := x) (by omega) (by omega) (by omega)
          repeat' (first|((first|apply jI|apply jJ|apply jK rfl); (first|exact eI rfl|exact eB rfl|exact eU rfl))|(refine jM ?_; refine jN rfl rfl rfl ?_)|(refine jS ?_; (first|refine jT rfl rfl rfl ?_|refine jU rfl rfl rfl rfl ?_))|(refine jW ?_; refine jX rfl rfl ?_)|refine ju rfl rfl ?_|refine jz ?_|(refine jjA ?_; (first|refine jjB ?_|refine jjC ?_|refine jjJ rfl ?_))|(refine jS ?_; (refine jjL rfl rfl ?_ ?_ <;> intro _)))
          · refine jjQ (column_galley pf h (lastZ (endsF 0 bs)) (.slice a bs.length c) (.map (some mb)) (max 0 (x - h) + j) x _ (by omega) (by omega) (by omega)) rfl rfl ?_
            rintro _ V2 hS2 rfl
            (refine jY rfl rfl (by omega) ?_; apply jJ; exact eI rfl; refine jz ?_; refine jjC ?_; apply jI; exact eI rfl; refine jY rfl rfl (by omega) ?_; apply jJ; exact eI rfl; refine jz ?_)
            refine ⟨rfl, by ((refine Same.upd rfl ?_; refine Same.upd rfl ?_; refine Same.upd rfl ?_; refine Same.upd rfl ?_; refine Same.upd rfl ?_; refine Same.upd rfl ?_; refine Same.upd rfl ?_; refine Same.upd rfl ?_; refine Same.upd rfl ?_; refine Same.upd rfl ?_; refine Same.upd rfl ?_; refine Same.upd rfl ?_; refine Same.upd rfl ?_; refine Same.upd rfl ?_; refine Same.upd rfl ?_; refine Same.upd rfl ?_; refine Same.upd rfl ?_; refine Same.upd rfl ?_; refine Same.upd rfl ?_; refine Same.upd rfl ?_; refine Same.upd rfl ?_; refine Same.upd rfl ?_; refine Same.upd rfl ?_; refine Same.upd rfl ?_; refine Same.upd rfl ?_; refine Same.upd rfl ?_; refine Same.upd rfl ?_; refine Same.upd rfl ?_; refine Same.upd rfl ?_; refine Same.upd rfl ?_; refine Same.upd rfl ?_; refine Same.upd rfl ?_; refine Same.upd rfl ?_; refine Same.upd rfl ?_; refine Same.upd rfl ?_; refine Same.upd rfl ?_; refine Same.upd rfl ?_; refine Same.upd rfl ?_; refine Same.upd rfl ?_; exact Same.ovN)), (x - (max 0 (x - h) + (j + 1 : Nat))).toNat, by omega, inferInstance, j + 1, congrArg (Value.int .i64) (by omega), congrArg (Value.int .i64) (bestF_some hk (.inl ‹_›)).symm, by omega, rfl⟩
          · refine jjQ (column_galley pf h (lastZ (endsF 0 bs)) (.slice a bs.length c) (.map (some mb)) (max 0 (x - h) + j) x _ (by omega) (by omega) (by omega)) rfl rfl ?_
            rintro _ V2 hS2 rfl
            repeat' (first|((first|apply jI|apply jJ|apply jK rfl|apply jL rfl); (first|exact eI rfl|exact eB rfl))|(refine jM ?_; refine jN rfl rfl rfl ?_)|(refine jS ?_; refine jT rfl rfl rfl ?_)|(refine jW ?_; (first|refine jX rfl rfl ?_|refine jY rfl rfl (by omega) ?_))|refine jz ?_|(refine jjA ?_; (first|refine jjC ?_|refine jjG ?_))|(refine jjA ?_; (refine jjN rfl ?_ ?_ <;> intro _)))
            · refine jjQ (column_galley pf h (lastZ (endsF 0 bs)) (.slice a bs.length c) (.map (some mb)) (max 0 (x - h) + j) x _ (by omega) (by omega) (by omega)) rfl rfl ?_
              rintro _ V3 hS3 rfl
              (refine jY rfl rfl (by omega) ?_; apply jJ; exact eI rfl; refine jz ?_; refine jjC ?_; apply jI; exact eI rfl; refine jY rfl rfl (by omega) ?_; apply jJ; exact eI rfl; refine jz ?_)
              refine ⟨rfl, by ((refine Same.upd rfl ?_; refine Same.upd rfl ?_; refine Same.upd rfl ?_; refine Same.upd rfl ?_; refine Same.upd rfl ?_; refine Same.upd rfl ?_; refine Same.upd rfl ?_; refine Same.upd rfl ?_; refine Same.upd rfl ?_; refine Same.upd rfl ?_; refine Same.upd rfl ?_; refine Same.upd rfl ?_; refine Same.upd rfl ?_; refine Same.upd rfl ?_; refine Same.upd rfl ?_; refine Same.upd rfl ?_; refine Same.upd rfl ?_; refine Same.upd rfl ?_; refine Same.upd rfl ?_; refine Same.upd rfl ?_; refine Same.upd rfl ?_; refine Same.upd rfl ?_; refine Same.upd rfl ?_; refine Same.upd rfl ?_; refine Same.upd rfl ?_; refine Same.upd rfl ?_; refine Same.upd rfl ?_; refine Same.upd rfl ?_; refine Same.upd rfl ?_; refine Same.upd rfl ?_; refine Same.upd rfl ?_; refine Same.upd rfl ?_; refine Same.upd rfl ?_; refine Same.upd rfl ?_; refine Same.upd rfl ?_; refine Same.upd rfl ?_; refine Same.upd rfl ?_; refine Same.upd rfl ?_; refine Same.upd rfl ?_; exact Same.ovN)), (x - (max 0 (x - h) + (j + 1 : Nat))).toNat, by omega, inferInstance, j + 1, congrArg (Value.int .i64) (by omega), congrArg (Value.int .i64) (bestF_some hk (.inr ‹_›)).symm, by omega, rfl⟩
            · refine ⟨rfl, by ((refine Same.upd rfl ?_; refine Same.upd rfl ?_; refine Same.upd rfl ?_; refine Same.upd rfl ?_; refine Same.upd rfl ?_; refine Same.upd rfl ?_; refine Same.upd rfl ?_; refine Same.upd rfl ?_; refine Same.upd rfl ?_; refine Same.upd rfl ?_; refine Same.upd rfl ?_; refine Same.upd rfl ?_; refine Same.upd rfl ?_; refine Same.upd rfl ?_; refine Same.upd rfl ?_; refine Same.upd rfl ?_; refine Same.upd rfl ?_; refine Same.upd rfl ?_; refine Same.upd rfl ?_; refine Same.upd rfl ?_; refine Same.upd rfl ?_; refine Same.upd rfl ?_; refine Same.upd rfl ?_; refine Same.upd rfl ?_; refine Same.upd rfl ?_; refine Same.upd rfl ?_; refine Same.upd rfl ?_; refine Same.upd rfl ?_; refine Same.upd rfl ?_; refine Same.upd rfl ?_; refine Same.upd rfl ?_; refine Same.upd rfl ?_; exact Same.ovN)), (x - (max 0 (x - h) + (j + 1 : Nat))).toNat, by omega, inferInstance, j + 1, congrArg (Value.int .i64) (by omega), congrArg (Value.int .i64) (bestF_keep hk ‹_› ‹_›).symm, by omega, rfl⟩
      · have hjx : max 0 (x - h) + (j : Int) = x := by omega
        have hbest : bestF h (lastZ (endsF 0 bs)) x (proofS h (lastZ (endsF 0 bs)) ((endsF 0 bs).take i)).1 (max 0 (x - h)) j = bestN h (lastZ (endsF 0 bs)) (proofS h (lastZ (endsF 0 bs)) ((endsF 0 bs).take i)).1 x := by
          unfold bestN
          congr 1
          omega
        rw [hbest]
        refine Ops.mapUpdate (k := x) (q7.ext inferInstance) rfl rfl rfl ?_
        intro V2 o2 hp2 hM2
        have hE1 := hSV.ext
        have z2 := hp2.size
        have zV := hSV.size
        have B72 := hp2.bk (q9.ext hE1) (show b7 ≠ kb by omega)
        have hEx2 := hp2.ext (q1.trans hE1) (show w.heap.size ≤ kb by have := hS_b1.size; have := hS2.size; have := hS_b4.size; omega)
        have hgb : ∀ g, v.ownBlock = some g → w_b6.heap.size ≤ g ∧ g < V.heap.size := fun g hg => q10.block g hg
        have hown2 := (q10.ext hE1).put hp2 (fun e => by have := hgb _ e; omega)
        (refine jz ?_; refine jjC ?_; refine jN rfl rfl rfl ?_; apply jI; exact eI rfl)
        (refine jjP (v := .int _ _) rfl (by exact rfl) (by exact rfl) (by exact rfl) (by exact rfl) ?_; intro b72 w_b72 hb_b72 hs_b72 hS_b72 hk_b72; have hR_b72 := RowV.one (agg := false) (k := 1) rfl hk_b72)
        have z72 := hS_b72.size
        have hpl := proofS_len h (lastZ (endsF 0 bs)) ((endsF 0 bs).take i)
        refine Ops.appendL (hown2.ext hS_b72.ext) (by omega) hR_b72 rfl rfl rfl rfl rfl ?_ ?_ ?_
        · simp only [List.length_map, List.length_cons, List.length_nil]; omega
        · simp only [List.length_map, List.length_cons, List.length_nil]; omega
        intro v3 V3 hA3 hO3 _ hw3
        obtain ⟨a3, c3, rfl⟩ := hO3.slice
        have zA := hA3.g.size
        have B73 := hA3.bk (B72.ext hS_b72.ext) q11
        skip
        refine Ops.store rfl rfl rfl rfl rfl ?_
        intro V4 hp4
        (refine jz ?_)
        have B74 : Bk V4 b7 [.slice a3 ((proofS h (lastZ (endsF 0 bs)) ((endsF 0 bs).take i)).2.map intV ++ [intV (bestN h (lastZ (endsF 0 bs)) (proofS h (lastZ (endsF 0 bs)) ((endsF 0 bs).take i)).1 x)]).length c3] 29 := ⟨hp4.new⟩
        have hnb : ∀ g, v.ownBlock ≠ some g → g < V2.heap.size → (Value.slice a3 ((proofS h (lastZ (endsF 0 bs)) ((endsF 0 bs).take i)).2.map intV ++ [intV (bestN h (lastZ (endsF 0 bs)) (proofS h (lastZ (endsF 0 bs)) ((endsF 0 bs).take i)).1 x)]).length c3).ownBlock ≠ some g := fun g h1 h2 e => by
          rcases hw3 with h | h
          · rw [h] at e; exact h1 e
          · rw [h] at e; cases e; omega
        have z4 := hp4.size
        have hbfl := q6.lt
        have hb7l := q9.lt
        have at4 : ∀ {b o : Nat} {cs : List Value}, At V b o cs → b ≠ kb → v.ownBlock ≠ some b → b ≠ b7 → At V4 b o cs := fun h n1 n2 n3 => hp4.at_ (hA3.at_ ((hp2.at_ (h.ext hE1) n1).ext hS_b72.ext) n2) n3
        have bk4 : ∀ {b e : Nat} {cs : List Value}, Bk V b cs e → b ≠ kb → v.ownBlock ≠ some b → b ≠ b7 → Bk V4 b cs e := fun h n1 n2 n3 => hp4.bk (hA3.bk ((hp2.bk (h.ext hE1) n1).ext hS_b72.ext) n2) n3
        have hpw : pf < w2.heap.size := h3.frm.lt
        have hmw : mb < w2.heap.size := h3.may.lt
        have y4 := hS_b4.size
        refine ⟨(((hE1.tr.trans (hp2.tr (q7.ext hE1).loopy)).trans hS_b72.ext.tr).trans hA3.tr).trans (hp4.tr ⟨_, B73.h, rfl⟩), ?_, ?_, by omega, ⟨bk4 q3.frm (by omega) (fun e => by have := hgb _ e; omega) (by omega), ?_⟩, at4 q4 (by omega) (fun e => by have := hgb _ e; omega) (by omega), at4 q5 (by omega) (fun e => by have := hgb _ e; omega) (by omega), at4 q6 (by omega) q12 (by omega), ⟨_, (((hM2.ext hS_b72.ext).app hA3 (fun e => by have := hgb _ e; omega)).put hp4 (by omega)), ?_⟩, _, B74, ?_, hnb b7 q11 (by omega), hnb bf q12 (by omega)⟩
        · exact (((MB.ext' q9 hE1).trans (MB.put (q9.ext hE1) hp2 (by omega) (by omega))).trans (MB.ext' B72 hS_b72.ext)).trans (MB.append (by omega) (B72.ext hS_b72.ext) hA3 hp4 B74 hw3)
        · exact hp4.ext (hA3.ext (hEx2.trans hS_b72.ext) (by omega)) (by omega)
        · exact ((((q3.may.ext hE1).put hp2 (by omega)).ext hS_b72.ext).app hA3 (fun e => by have := hgb _ e; omega)).put hp4 (by omega)
        · intro k
          rw [take_snoc_get hx, proofS_snoc]
          simp only [prF]
          by_cases e : k = x
          · subst e; rw [mget_set_same, if_pos rfl]; rfl
          · rw [mget_set_other _ _ e, if_neg e]; exact q8 k
        · rw [take_snoc_get hx, proofS_snoc]
          simp only [prF, List.map_append]
          exact hO3.put hp4 (hnb b7 q11 (by omega))
    case hdone =>
      rintro ds' V hmk htr ⟨q1, q2, q3, q4, q5, q6, ⟨km, q7, q8⟩, v, q9, q10, q11, q12⟩
      (refine jjB ?_; refine jjC ?_; refine jN rfl rfl rfl ?_; apply jJ; exact rfl; apply jJ; exact eI rfl; refine jz ?_; refine jjF ?_)
      refine fin2M rfl rfl rfl hmk fun w' g => ⟨q1.ofGrow g (Nat.le_refl _), v, by simp only [gErr, hg]; exact rfl, ?_⟩
      rw [hg]
      rw [List.take_length] at q10
      exact q10.row.grow g
end Go.Proofs.YtfebegbjggoijaaGreatDoor

/- galley, plain laws: the proof's numbers. -/
namespace Go.Proofs.YtfebegbjggoijaaGreatDoor
open Go.RowKit

/-- Numbers that rise, each at most three behind an elder one. -/
structure Rise (xs : List Int) : Prop where
  up : ∀ i j, i < j → j ≤ xs.length → (0 :: xs).getD i 0 < (0 :: xs).getD j 0
  near : ∀ j, 0 < j → j ≤ xs.length → ∃ i, i < j ∧ (0 :: xs).getD j 0 - (0 :: xs).getD i 0 ≤ 3

theorem getD_app {l : List Int} {x : Int} {i : Nat} (hi : i < l.length) : (l ++ [x]).getD i 0 = l.getD i 0 := by
  simp [List.getD_eq_getElem?_getD, List.getElem?_append_left hi]
theorem Rise.pre {xs : List Int} {x : Int} (h : Rise (xs ++ [x])) : Rise xs := by
  have e : (0 :: (xs ++ [x])) = (0 :: xs) ++ [x] := rfl
  refine ⟨fun i j hij hj => ?_, fun j h0 hj => ?_⟩
  · have := h.up i j hij (by simp; omega)
    rw [e, getD_app (by simp; omega), getD_app (by simp; omega)] at this
    exact this
  · obtain ⟨i, hi, h1⟩ := h.near j h0 (by simp; omega)
    rw [e, getD_app (by simp; omega), getD_app (by simp; omega)] at h1
    exact ⟨i, hi, h1⟩

theorem range_pair (P : Nat → Bool) (m : Nat) : (((List.range m).filter P).map fun (i : Nat) => (0 : Int) + ((i : Int) + 1)).Pairwise (· < ·) := by
  rw [List.pairwise_map]
  refine List.Pairwise.imp ?_ ((List.pairwise_lt_range (n := m)).filter P)
  intro a b hab; omega
end Go.Proofs.YtfebegbjggoijaaGreatDoor

/- Plain law: what is proved of a galley (GalleyLeast). -/
namespace Go.Proofs.YtfebegbjggoijaaGreatDoor
open Go.RowKit

end Go.Proofs.YtfebegbjggoijaaGreatDoor

/- Plain law: the last number that is proved is the waste of the best breaking (GalleyLeast). -/
namespace Go.Proofs.YtfebegbjggoijaaGreatDoor
open Go.RowKit

section
variable {h tot : Int} {xs : List Int} {may : Int → Bool} (hm : ∀ n, may n = true ↔ n ∈ xs) (hr : Rise xs)
  {p : Nat → Int} (h0 : p 0 = 0) (hs : ∀ k, 1 ≤ k → k ≤ xs.length → (∀ j, j < k → (0 :: xs).getD k 0 - (0 :: xs).getD j 0 ≤ h → p k ≤ p j + colW h tot ((0 :: xs).getD j 0) ((0 :: xs).getD k 0)) ∧
      ∃ j, j < k ∧ (0 :: xs).getD k 0 - (0 :: xs).getD j 0 ≤ h ∧ p k = p j + colW h tot ((0 :: xs).getD j 0) ((0 :: xs).getD k 0))
include hm hr hs
include h0
end
end Go.Proofs.YtfebegbjggoijaaGreatDoor

/- Plain law: blocks that are torn (GalleyTorn). -/
namespace Go.Proofs.YtfebegbjggoijaaGreatDoor
open Go.RowKit

/-- How many of the first j columns end inside a block. -/
def cutN (bs : List Blk) (l : List Int) (i j : Nat) : Nat := min j (colT bs l i) - min j (colF bs l i)
section
variable {h : Int} {bs : List Blk} {l : List Int} (V : ValidI h bs l)
include V
theorem stand_up {n : Int} {j : Nat} (hj : j < l.length) : l.getD j 0 ≤ n ↔ j < standF l n := by
  constructor
  · intro hle
    refine Decidable.by_contra fun hge => ?_
    have hlt : standF l n < l.length := by omega
    have h2 := standF_high hlt
    rcases Nat.lt_or_ge (standF l n) j with c | c
    · have := V.up j (standF l n) c hj; omega
    · obtain rfl : j = standF l n := by omega
      omega
  · exact fun hlt => standF_low hlt
theorem cut_all {i : Nat} (hL : 1 ≤ linesL bs i) : ((cutN bs l i l.length : Nat) : Int) = (colT bs l i : Int) - (colF bs l i : Int) ∧ colF bs l i ≤ colT bs l i := by
  have h1 : colT bs l i ≤ l.length := standF_le _ _
  have h2 : colF bs l i ≤ l.length := standF_le _ _
  have h3 : colF bs l i ≤ colT bs l i := by
    refine Decidable.by_contra fun hc => ?_
    have hlt : colT bs l i < l.length := by omega
    have q1 := (stand_up V (n := beginL bs i) hlt).2 (show colT bs l i < colF bs l i by omega)
    have q2 := standF_high (l := l) (line := beginL bs i + linesL bs i - 1) hlt
    have q3 : l.getD (colT bs l i) 0 = l.getD (standF l (beginL bs i + linesL bs i - 1)) 0 := rfl
    omega
  refine ⟨?_, h3⟩
  unfold cutN
  omega
end
end Go.Proofs.YtfebegbjggoijaaGreatDoor

/- Plain law: corrections (GalleyFixed, GalleyCheapest). -/
namespace Go.Proofs.YtfebegbjggoijaaGreatDoor
open Go.RowKit

theorem Chn.none_ne {h tot to : Int} {may : Int → Bool} (hh : 0 ≤ h ∧ h ≤ 40) : ∀ {l : List Int} {n : Int}, to - n ≤ 1000 → Chn h may to n l → onW h tot to may n ≠ noneW
  | [], n, _, e => by
    obtain rfl : n = to := e
    rw [onW_to]
    intro h
    have := congrArg Prod.fst h
    simp [noneW] at this
  | m :: l, n, hb, ⟨a, b, c, d⟩ => by
    have hle := d.le
    exact onW_some hh hb b (by omega) hle a (d.none_ne hh (by omega))
theorem chn_of_ne {h tot to : Int} {may : Int → Bool} : ∀ (d : Nat) {n : Int}, (to - n).toNat ≤ d → n ≤ to → onW h tot to may n ≠ noneW → ∃ l, Chn h may to n l
  | d, n, hd, hn, ho => by
    by_cases e : n = to
    · exact ⟨[], e⟩
    · obtain ⟨i, h1, h2, h3, -⟩ := onW_step e ho
      cases d with
      | zero => omega
      | succ d =>
        obtain ⟨l, hl⟩ := chn_of_ne d (n := n + 1 + i) (by omega) (by omega) h3
        exact ⟨(n + 1 + i) :: l, h2, by omega, by omega, hl⟩
theorem Chn.app {h a b : Int} {may : Int → Bool} {r : List Int} : ∀ {l : List Int} {n : Int}, Chn h may a n l → Chn h may b a r → Chn h may b n (l ++ r)
  | [], n, e, hr => by
    obtain rfl : n = a := e
    exact hr
  | m :: l, n, ⟨h1, h2, h3, h4⟩, hr => ⟨h1, h2, h3, h4.app hr⟩
theorem cst_app {h tot a : Int} {may : Int → Bool} {r : List Int} : ∀ {l : List Int} {n : Int}, Chn h may a n l → cstL h tot n (l ++ r) = cstL h tot n l + cstL h tot a r
  | [], n, e => by
    obtain rfl : n = a := e
    show cstL h tot n r = 0 + cstL h tot n r
    omega
  | m :: l, n, ⟨h1, h2, h3, h4⟩ => by
    rw [List.cons_append, cstL, cstL, cst_app h4]
    omega
theorem befL_self : ∀ l : List Int, befL l l = false
  | [] => rfl
  | x :: l => by rw [befL, if_pos rfl]; exact befL_self l
theorem befL_pre {a b : List Int} : ∀ p : List Int, befL (p ++ a) (p ++ b) = befL a b
  | [] => rfl
  | x :: p => by rw [List.cons_append, List.cons_append, befL, if_pos rfl]; exact befL_pre p
theorem befL_post {h to : Int} {may : Int → Bool} {r : List Int} : ∀ {a b : List Int} {n : Int}, Chn h may to n a → Chn h may to n b → befL a b = false → befL (a ++ r) (b ++ r) = false
  | [], [], _, _, _, _ => befL_self r
  | [], y :: b, n, e, ⟨_, h1, _, h2⟩, _ => by
    have e : n = to := e
    have := h2.le
    omega
  | x :: a, [], n, ⟨_, h1, _, h2⟩, e, _ => by
    have e : n = to := e
    have := h2.le
    omega
  | x :: a, y :: b, n, ⟨_, _, _, h1⟩, ⟨_, _, _, h2⟩, hf => by
    rw [List.cons_append, List.cons_append, befL]
    rw [befL] at hf
    by_cases e : x = y
    · rw [if_pos e] at hf ⊢
      subst e
      exact befL_post h1 h2 hf
    · rw [if_neg e] at hf ⊢
      exact hf
/-- From everywhere columns lead on to where one may end. -/
theorem reach_to {h tot to : Int} {bs : List Blk} (hb : ∀ b ∈ bs, 1 ≤ b.2 ∧ b.2 ≤ 20) (hh : 4 ≤ h ∧ h ≤ 40) (hs : sumL bs ≤ 1000) (hm : mayR to 0 bs = true) : ∀ (d : Nat) (n : Int), (to - n).toNat = d → 0 ≤ n → n ≤ to → onW h tot to (fun n => mayR n 0 bs) n ≠ noneW := by
  intro d
  induction d using Nat.strongRecOn with
  | ind d ih =>
    intro n hd h0 hn
    have hmi := may_in hb hm
    by_cases e : n = to
    · subst e
      rw [onW_to]
      intro h
      have := congrArg Prod.fst h
      simp [noneW] at this
    · obtain ⟨m, m1, m2, m3⟩ := may_next hb h0 (by omega : n < sumL bs)
      by_cases hc : m ≤ to
      · exact onW_some (by omega) (by omega) m2 (by omega) hc m1 (ih (to - m).toNat (by omega) m rfl (by omega) hc)
      · refine onW_some (by omega) (by omega) (by omega : n < to) (by omega) (Int.le_refl _) hm (ih (to - to).toNat (by omega) to rfl (by omega) (Int.le_refl _))
theorem chn_last {h to : Int} {may : Int → Bool} : ∀ {l : List Int} {n : Int}, Chn h may to n l → n < to → may to = true
  | [], n, e, hlt => by have : n = to := e; omega
  | m :: l, n, ⟨h1, h2, h3, h4⟩, _ => by
    have hle := h4.le
    by_cases e : m = to
    · exact e ▸ h1
    · exact chn_last h4 (by omega)
theorem chn_lastD {h to : Int} {may : Int → Bool} : ∀ {l : List Int} {n : Int}, Chn h may to n l → 0 < l.length → l.getD (l.length - 1) 0 = to
  | [], _, _, h0 => absurd h0 (Nat.not_lt_zero _)
  | [m], n, ⟨_, _, _, e⟩, _ => e
  | m :: x :: l, n, ⟨h1, h2, h3, h4⟩, _ => chn_lastD (l := x :: l) h4 (by simp)
theorem chn_take {h to : Int} {may : Int → Bool} : ∀ {l : List Int} {n : Int} {k : Nat}, k ≤ l.length → Chn h may to n l → Chn h may ((n :: l).getD k 0) n (l.take k)
  | l, n, 0, _, _ => by rw [List.take_zero]; exact rfl
  | [], n, k + 1, hk, _ => absurd hk (by simp)
  | m :: l, n, k + 1, hk, ⟨h1, h2, h3, h4⟩ => by
    rw [List.take_succ_cons]
    exact ⟨h1, h2, h3, chn_take (by simpa using hk) h4⟩
theorem chn_drop {h to : Int} {may : Int → Bool} : ∀ {l : List Int} {n : Int} {k : Nat}, k ≤ l.length → Chn h may to n l → Chn h may to ((n :: l).getD k 0) (l.drop k)
  | l, n, 0, _, hc => by rw [List.drop_zero]; exact hc
  | [], n, k + 1, hk, _ => absurd hk (by simp)
  | m :: l, n, k + 1, hk, ⟨h1, h2, h3, h4⟩ => by
    rw [List.drop_succ_cons]
    exact chn_drop (l := l) (n := m) (k := k) (by simpa using hk) h4
theorem chn_map {h to d : Int} {may may' : Int → Bool} (lo : Int) (hm : ∀ n, lo < n → may n = true → may' (n + d) = true) : ∀ {l : List Int} {n : Int}, lo ≤ n → Chn h may to n l → Chn h may' (to + d) (n + d) (l.map fun n => n + d)
  | [], n, _, e => by
    have e : n = to := e
    show n + d = to + d
    omega
  | m :: l, n, hlo, ⟨h1, h2, h3, h4⟩ => ⟨hm m (by omega) h1, by show n + d < m + d; omega, by show m + d ≤ n + d + h; omega, chn_map lo hm (by omega) h4⟩
theorem Chn.mono {h to : Int} {may may' : Int → Bool} : ∀ {l : List Int} {n : Int}, Chn h may to n l → (∀ x ∈ l, may x = true → may' x = true) → Chn h may' to n l
  | [], _, e, _ => e
  | m :: l, n, ⟨h1, h2, h3, h4⟩, hm => ⟨hm m (by simp) h1, h2, h3, h4.mono fun x hx => hm x (by simp [hx])⟩
/-! ### Where columns may end in the corrected galley -/
theorem setB_take {bs : List Blk} {k : Nat} {ln : Int} {j : Nat} (hj : j ≤ k) : (setB bs k ln).take j = bs.take j := by
  rw [setB, List.take_set_of_le hj]
theorem setB_drop {bs : List Blk} {k : Nat} {ln : Int} {j : Nat} (hj : k < j) : (setB bs k ln).drop j = bs.drop j := by
  rw [setB, List.drop_set_of_lt hj]
theorem mayR_app {bs cs : List Blk} (hc : ∀ b ∈ cs, 1 ≤ b.2 ∧ b.2 ≤ 20) : (∀ b ∈ bs, 1 ≤ b.2 ∧ b.2 ≤ 20) → ∀ (p n : Int), mayR n p (bs ++ cs) = if n ≤ p + sumL bs then mayR n p bs else mayR n (p + sumL bs) cs := by
  induction bs with
  | nil =>
    intro _ p n
    rw [List.nil_append, show sumL ([] : List Blk) = 0 from rfl, Int.add_zero]
    split
    · rename_i h
      rw [mayR_low hc h]; rfl
    · rfl
  | cons b bs ih =>
    intro hb p n
    have hb' : ∀ x ∈ bs, 1 ≤ x.2 ∧ x.2 ≤ 20 := fun x hx => hb x (List.mem_cons_of_mem _ hx)
    have hs := (sumL_le hb').1
    rw [List.cons_append, sumL_cons]
    show (if n ≤ p + b.2 then _ else mayR n (p + b.2) (bs ++ cs)) = if n ≤ p + (b.2 + sumL bs) then (if n ≤ p + b.2 then _ else mayR n (p + b.2) bs) else _
    rw [ih hb', show p + (b.2 + sumL bs) = p + b.2 + sumL bs by omega]
    by_cases h1 : n ≤ p + b.2
    · rw [if_pos h1, if_pos (by omega), if_pos h1]
    · rw [if_neg h1, if_neg h1]
theorem mayR_shift (d : Int) : ∀ (bs : List Blk) (p n : Int), mayR (n + d) (p + d) bs = mayR n p bs
  | [], _, _ => rfl
  | b :: bs, p, n => by
    have e1 : n + d - (p + d) = n - p := by omega
    have e2 : p + d + b.2 = p + b.2 + d := by omega
    have e3 : (n + d ≤ p + b.2 + d) = (n ≤ p + b.2) := propext (by omega)
    rw [mayR, mayR, e1, e2, mayR_shift d bs]
    simp only [e3]
    congr 2
    first | rfl | (exact decide_eq_decide.2 (by omega)) | (congr 1; exact decide_eq_decide.2 (by omega))
section
variable {bs : List Blk} {k : Nat} {ln : Int} (hk : k < bs.length) (hb : ∀ b ∈ bs, 1 ≤ b.2 ∧ b.2 ≤ 20) (hln : 1 ≤ ln ∧ ln ≤ 20)
include hk hb hln
omit hk in
theorem may_low {n : Int} (hn : n ≤ beginL bs k) : mayR n 0 (setB bs k ln) = mayR n 0 bs := by
  have hs := setB_ok (k := k) hb hln
  have e1 : setB bs k ln = bs.take k ++ (setB bs k ln).drop k := by rw [← setB_take (ln := ln) (Nat.le_refl k), List.take_append_drop]
  have e2 : bs = bs.take k ++ bs.drop k := (List.take_append_drop k bs).symm
  have hn' : n ≤ 0 + sumL (bs.take k) := by have : beginL bs k = sumL (bs.take k) := rfl; omega
  have ht : ∀ b ∈ bs.take k, 1 ≤ b.2 ∧ b.2 ≤ 20 := fun b h => hb b (List.mem_of_mem_take h)
  rw [e1, mayR_app (fun b h => hs b (List.mem_of_mem_drop h)) ht, if_pos hn']
  conv => rhs; rw [e2]
  rw [mayR_app (fun b h => hb b (List.mem_of_mem_drop h)) ht, if_pos hn']
theorem may_high {n : Int} (hn : beginL bs k + linesL bs k ≤ n) : mayR (n + moreF bs k ln) 0 (setB bs k ln) = mayR n 0 bs := by
  have hs := setB_ok (k := k) hb hln
  have hsk : k < (setB bs k ln).length := by rw [setB_len]; exact hk
  have eb : linesL bs k = bs[k].2 := by simp [linesL, List.getD_eq_getElem?_getD, hk]
  have q1 : sumL (bs.take (k + 1)) = beginL bs k + linesL bs k := by rw [sumL_take_succ hk, eb]; rfl
  have q2 : sumL ((setB bs k ln).take (k + 1)) = beginL bs k + ln := by
    rw [sumL_take_succ hsk, setB_take (Nat.le_refl k)]
    simp [setB, beginL]
  have hm : moreF bs k ln = ln - linesL bs k := rfl
  have ht : ∀ b ∈ bs.take (k + 1), 1 ≤ b.2 ∧ b.2 ≤ 20 := fun b h => hb b (List.mem_of_mem_take h)
  have ht' : ∀ b ∈ (setB bs k ln).take (k + 1), 1 ≤ b.2 ∧ b.2 ≤ 20 := fun b h => hs b (List.mem_of_mem_take h)
  have hd : ∀ b ∈ bs.drop (k + 1), 1 ≤ b.2 ∧ b.2 ≤ 20 := fun b h => hb b (List.mem_of_mem_drop h)
  have e1 : setB bs k ln = (setB bs k ln).take (k + 1) ++ bs.drop (k + 1) := by rw [← setB_drop (ln := ln) (Nat.lt_succ_self k), List.take_append_drop]
  have e2 : bs = bs.take (k + 1) ++ bs.drop (k + 1) := (List.take_append_drop _ bs).symm
  have n1 : (setB bs k ln).take (k + 1) ≠ [] := fun h => by have := congrArg List.length h; simp only [List.length_take, List.length_nil] at this; omega
  have n2 : bs.take (k + 1) ≠ [] := fun h => by have := congrArg List.length h; simp only [List.length_take, List.length_nil] at this; omega
  rw [e1, mayR_app hd ht', q2]
  conv => rhs; rw [e2]
  rw [mayR_app hd ht, q1]
  by_cases e : n = beginL bs k + linesL bs k
  · rw [if_pos (by omega), if_pos (by omega)]
    have t1 := may_tot ht' (p := 0) n1
    have t2 := may_tot ht (p := 0) n2
    rw [q2] at t1
    rw [q1] at t2
    rw [show n + moreF bs k ln = 0 + (beginL bs k + ln) by omega, t1, show n = 0 + (beginL bs k + linesL bs k) by omega, t2]
  · rw [if_neg (by omega), if_neg (by omega)]
    have := mayR_shift (moreF bs k ln) (bs.drop (k + 1)) (0 + (beginL bs k + linesL bs k)) n
    rw [← this]
    congr 1
    omega
end
/-! ### The correction -/
theorem chn_mem {h to : Int} {may : Int → Bool} : ∀ {l : List Int} {n : Int}, Chn h may to n l → ∀ x ∈ l, n < x ∧ x ≤ to ∧ may x = true
  | [], _, _, x, hx => by simp at hx
  | m :: l, n, ⟨h1, h2, h3, h4⟩, x, hx => by
    have hle := h4.le
    rcases List.mem_cons.1 hx with e | hx
    · subst e; exact ⟨h2, hle, h1⟩
    · obtain ⟨a, b, c⟩ := chn_mem h4 x hx
      exact ⟨by omega, b, c⟩
/-- The columns that are broken anew. -/
def anewP (h : Int) (bs : List Blk) (l : List Int) (k : Nat) (ln : Int) : List Int :=
  pathW h (sumL (setB bs k ln)) (l.getD (colT bs l k) 0 + moreF bs k ln) (fun n => mayR n 0 (setB bs k ln)) (l.getD (colT bs l k) 0 + moreF bs k ln - startF bs l k).toNat (startF bs l k)
structure FixA (h : Int) (bs : List Blk) (l : List Int) (k : Nat) (ln : Int) (m : List Int) : Prop where
  ord : colF bs l k ≤ colT bs l k
  lt : colT bs l k < l.length
  eq : m = l.take (colF bs l k) ++ anewP h bs l k ln ++ (l.drop (colT bs l k + 1)).map fun n => n + moreF bs k ln
  gal : 1 ≤ sumL (setB bs k ln) ∧ sumL (setB bs k ln) ≤ 600
  valid : validB h (setB bs k ln) m = true
  st : 0 ≤ startF bs l k ∧ startF bs l k < l.getD (colT bs l k) 0 + moreF bs k ln
  en : l.getD (colT bs l k) 0 + moreF bs k ln ≤ sumL (setB bs k ln)
  may : mayR (l.getD (colT bs l k) 0 + moreF bs k ln) 0 (setB bs k ln) = true
  pre : Chn h (fun n => mayR n 0 (setB bs k ln)) (startF bs l k) 0 (l.take (colF bs l k))
  mid : Chn h (fun n => mayR n 0 (setB bs k ln)) (l.getD (colT bs l k) 0 + moreF bs k ln) (startF bs l k) (anewP h bs l k ln)
  post : Chn h (fun n => mayR n 0 (setB bs k ln)) (sumL (setB bs k ln)) (l.getD (colT bs l k) 0 + moreF bs k ln) ((l.drop (colT bs l k + 1)).map fun n => n + moreF bs k ln)
  pos : 1 ≤ (anewP h bs l k ln).length
  least : ∀ a, Chn h (fun n => mayR n 0 (setB bs k ln)) (l.getD (colT bs l k) 0 + moreF bs k ln) (startF bs l k) a →
    cstL h (sumL (setB bs k ln)) (startF bs l k) (anewP h bs l k ln) ≤ cstL h (sumL (setB bs k ln)) (startF bs l k) a ∧ (cstL h (sumL (setB bs k ln)) (startF bs l k) a = cstL h (sumL (setB bs k ln)) (startF bs l k) (anewP h bs l k ln) → befL a (anewP h bs l k ln) = false)
theorem FixD.ok_all {h : Int} {bs : List Blk} {l : List Int} {k : Nat} {ln : Int} (D : FixD h bs l k ln) {t : Nat} (h1 : colT bs l k ≤ t) (h2 : t < l.length) : mayR (l.getD t 0 + moreF bs k ln) 0 (setB bs k ln) = true ∧ okT h bs l k ln t := by
  obtain ⟨f1, f2, f3, f4, f5, f6, f7, f8, f9, f10, f11⟩ := D.facts
  obtain ⟨a1, a2⟩ := D.at_ h1 h2
  have hm : mayR (l.getD t 0 + moreF bs k ln) 0 (setB bs k ln) = true := by
    rw [may_high D.hk D.hb D.hln a1]
    exact (D.V.step t h2).1
  have hs := D.sum
  have hmo : moreF bs k ln = ln - linesL bs k := rfl
  have hln := D.hln
  exact ⟨hm, reach_to (setB_ok D.hb D.hln) D.hh (by omega) hm _ _ rfl f10 (by omega)⟩
/-- A correction breaks anew no more than the columns of the block. -/
theorem FixT.eq {h : Int} {bs : List Blk} {l : List Int} {k : Nat} {ln : Int} (D : FixD h bs l k ln) {t : Nat} (T : FixT h bs l k ln t) : t = colT bs l k := by
  refine Decidable.by_contra fun hne => ?_
  have := T.lo
  have := T.hi
  exact T.min (colT bs l k) (Nat.le_refl _) (by omega) (D.ok_all (Nat.le_refl _) (by omega)).2
theorem valid_of_I {h : Int} {bs : List Blk} {l : List Int} (V : ValidI h bs l) : validB h bs l = true := by
  refine valid_yes (fun k hk => ?_) V.last
  have := V.step k hk
  simp only [stepB, Bool.and_eq_true, decide_eq_true_eq]
  exact ⟨this.1, by omega⟩
theorem FixD.all {h : Int} {bs : List Blk} {l : List Int} {k : Nat} {ln : Int} (D : FixD h bs l k ln) : FixA h bs l k ln (fixL h bs l k ln (colT bs l k)) := by
  obtain ⟨f1, f2, f3, f4, f5, f6, f7, f8, f9, f10, f11⟩ := D.facts
  obtain ⟨a1, a2⟩ := D.at_ (Nat.le_refl _) f8
  obtain ⟨m1, m2⟩ := D.ok_all (Nat.le_refl _) f8
  have hs := D.sum
  have hmo : moreF bs k ln = ln - linesL bs k := rfl
  have hln := D.hln
  have hh := D.hh
  have hc := valid_chn.1 (valid_of_I D.V)
  have hrt := fun (n : Int) (h0 : 0 ≤ n) (hn : n ≤ l.getD (colT bs l k) 0 + moreF bs k ln) => reach_to (tot := sumL (setB bs k ln)) (setB_ok D.hb D.hln) D.hh (by omega) m1 _ n rfl h0 hn
  have c1 := chn_take (k := colF bs l k) f9 hc
  have es : (0 :: l).getD (colF bs l k) 0 = startF bs l k := (prev_getD l _).symm
  rw [es] at c1
  have pre := c1.mono (may' := fun n => mayR n 0 (setB bs k ln)) fun x hx hm => by
    have := (chn_mem c1 x hx).2.1
    show mayR x 0 (setB bs k ln) = true
    rw [may_low D.hb D.hln (by omega)]; exact hm
  obtain ⟨p1, p2⟩ := path_chn (tot := sumL (setB bs k ln)) (by omega) hrt (by omega) (l.getD (colT bs l k) 0 + moreF bs k ln - startF bs l k).toNat (startF bs l k) (Nat.le_refl _) f10 (by omega)
  have c2 := chn_drop (k := colT bs l k + 1) f8 hc
  have c3 := chn_map (d := moreF bs k ln) (may' := fun n => mayR n 0 (setB bs k ln)) (l.getD (colT bs l k) 0) (fun n hn hm => by
    show mayR (n + moreF bs k ln) 0 (setB bs k ln) = true
    rw [may_high D.hk D.hb D.hln (by omega)]; exact hm) (Int.le_refl _) c2
  rw [← hs] at c3
  have hcut := (cut_all D.V (i := k) f4).2
  have hsb := sumL_le (setB_ok (k := k) D.hb D.hln)
  rw [setB_len] at hsb
  have hbl30 := D.hbl
  refine ⟨hcut, f8, rfl, by omega, valid_chn.2 ((pre.app p1).app c3), by omega, by omega, m1, pre, p1, c3, ?_, fun a ha => ?_⟩
  · unfold anewP
    cases hp : pathW h (sumL (setB bs k ln)) (l.getD (colT bs l k) 0 + moreF bs k ln) (fun n => mayR n 0 (setB bs k ln)) (l.getD (colT bs l k) 0 + moreF bs k ln - startF bs l k).toNat (startF bs l k) with
    | nil =>
      rw [hp] at p1
      have e : startF bs l k = l.getD (colT bs l k) 0 + moreF bs k ln := p1
      omega
    | cons x r => simp
  · obtain ⟨q1, q2⟩ := chn_least (tot := sumL (setB bs k ln)) (by omega) hrt (by omega) a (startF bs l k) f10 ha
    unfold anewP
    rw [p2]
    exact ⟨q1, fun he => q2 _ (Nat.le_refl _) he⟩
/-- Any other way to break anew wastes no less, and is not before it. -/
theorem FixA.cheap {h : Int} {bs : List Blk} {l : List Int} {k : Nat} {ln : Int} {m : List Int} (A : FixA h bs l k ln m) {a : List Int} (ha : Chn h (fun n => mayR n 0 (setB bs k ln)) (l.getD (colT bs l k) 0 + moreF bs k ln) (startF bs l k) a) {x : List Int} (hx : x = l.take (colF bs l k) ++ a ++ (l.drop (colT bs l k + 1)).map fun n => n + moreF bs k ln) :
    validB h (setB bs k ln) x = true ∧ wasteP h (sumL (setB bs k ln)) m m.length ≤ wasteP h (sumL (setB bs k ln)) x x.length ∧ (wasteP h (sumL (setB bs k ln)) x x.length = wasteP h (sumL (setB bs k ln)) m m.length → befL x m = false) := by
  subst hx
  have hm := A.eq
  obtain ⟨q1, q2⟩ := A.least a ha
  have e1 : cstL h (sumL (setB bs k ln)) 0 m = cstL h (sumL (setB bs k ln)) 0 (l.take (colF bs l k)) + cstL h (sumL (setB bs k ln)) (startF bs l k) (anewP h bs l k ln) + cstL h (sumL (setB bs k ln)) (l.getD (colT bs l k) 0 + moreF bs k ln) ((l.drop (colT bs l k + 1)).map fun n => n + moreF bs k ln) := by
    rw [hm, cst_app (A.pre.app A.mid), cst_app A.pre]
  rw [waste_cst, waste_cst, e1, cst_app (A.pre.app ha), cst_app A.pre]
  refine ⟨valid_chn.2 ((A.pre.app ha).app A.post), by omega, fun he => ?_⟩
  rw [hm, List.append_assoc, List.append_assoc, befL_pre]
  exact befL_post ha A.mid (q2 (by omega))
end Go.Proofs.YtfebegbjggoijaaGreatDoor

/- slices.Clone of integers. -/
namespace Go.Proofs.YtfebegbjggoijaaGreatDoor
open Go.RowKit

theorem Clone_int (a : Option Addr) (c : Nat) (l : List Int) (w : World) (hl : l.length ≤ 1000000) [hrow : RowI w (.slice a l.length c) false 1 (l.map intV)] :
    Ct Tryz.prog 60 [.slice a l.length c] w fun v w' => OwnL w' w.heap.size 3 false 1 v (l.map intV) := by
  refine Ct.ofW (by simp) ?_
  (refine jjB ?_; refine jjC ?_; apply jJ; exact eS rfl; refine jz ?_; refine jjB ?_; refine jjB ?_; refine jjC ?_; apply jI; exact eS rfl)
  refine Ops.eqlNil rfl rfl ?_
  repeat' (first|(apply jJ; exact eS rfl)|refine jz ?_|(refine jjA ?_; (first|refine jjB ?_|refine jjC ?_|refine jjF ?_|refine jjG ?_))|(refine jjA ?_; (refine jjO rfl ?_ ?_ <;> intro _))|refine jB rfl rfl ⟨inferInstance, ?_⟩)
  · obtain rfl : a = none := by cases a with
      | none => rfl
      | some x => cases ‹(some x).isNone = true›
    have e : l = [] := by have := row_none hrow.h; simpa using this
    subst e
    exact OwnL.nil _ _ _ _ _
  · refine Ops.buildSlice0 ?_
    intro b3 w4 hb3 hs4 hS4 hk4
    have hO4 := OwnL.empty (agg := false) (k := 1) (B := w.heap.size) (by omega) hk4
    (apply jI; exact eS rfl)
    refine Ops.appendL hO4 (by omega) (hrow.h.ext inferInstance) rfl rfl rfl rfl (all_ints' l) ?_ ?_ ?_
    · simp only [List.length_map, List.length_nil]; omega
    · simp only [List.length_map, List.length_nil]; omega
    intro v5 w5 hA hO5 _ _
    rw [List.nil_append] at hO5
    have hE5 : Ext w w5 := hA.ext inferInstance (Nat.le_refl _)
    have hS5 := hE5.toStep
    (apply jJ; exact rfl; refine jz ?_; refine jjF ?_; refine jB rfl rfl ⟨inferInstance, ?_⟩)
    exact hO5
end Go.Proofs.YtfebegbjggoijaaGreatDoor

/- slices.Clone; galley: Fix. -/
namespace Go.Proofs.YtfebegbjggoijaaGreatDoor
open Go.RowKit

theorem all_encB' (bs : List Blk) : (bs.map encB).all (fun v => v.cells.toList.all (·.oneCell')) = true := by
  rw [List.all_eq_true]
  intro x hx
  obtain ⟨b, _, rfl⟩ := List.mem_map.1 hx
  rfl
theorem Clone_Block (a : Option Addr) (c : Nat) (bs : List Blk) (w : World) (hl : bs.length ≤ 1000000) [hrow : RowI w (.slice a bs.length c) true 2 (bs.map encB)] :
    Ct Tryz.prog 58 [.slice a bs.length c] w fun v w' => ∃ a' c', v = .slice a' bs.length c' ∧ OwnL w' w.heap.size 37 true 2 (.slice a' bs.length c') (bs.map encB) := by
  refine Ct.ofW (by simp) ?_
  (refine jjB ?_; refine jjC ?_; apply jJ; exact eS rfl; refine jz ?_; refine jjB ?_; refine jjB ?_; refine jjC ?_; apply jI; exact eS rfl)
  refine Ops.eqlNil rfl rfl ?_
  repeat' (first|(apply jJ; exact eS rfl)|refine jz ?_|(refine jjA ?_; (first|refine jjB ?_|refine jjC ?_|refine jjF ?_|refine jjG ?_))|(refine jjA ?_; (refine jjO rfl ?_ ?_ <;> intro _))|refine jB rfl rfl ⟨inferInstance, ?_⟩)
  · obtain rfl : a = none := by cases a with
      | none => rfl
      | some x => cases ‹(some x).isNone = true›
    have e : bs = [] := by have := row_none hrow.h; simpa using this
    subst e
    exact ⟨none, 0, rfl, OwnL.nil _ _ _ _ _⟩
  · refine Ops.buildSlice0 ?_
    intro b3 w4 hb3 hs4 hS4 hk4
    have hO4 := OwnL.empty (agg := true) (k := 2) (B := w.heap.size) (by omega) hk4
    (apply jI; exact eS rfl)
    refine Ops.appendL hO4 (by omega) (hrow.h.ext inferInstance) rfl rfl rfl rfl (all_encB' bs) ?_ ?_ ?_
    · simp only [List.length_map, List.length_nil]; omega
    · simp only [List.length_map, List.length_nil]; omega
    intro v5 w5 hA hO5 _ _
    rw [List.nil_append] at hO5
    obtain ⟨a5, c5, rfl⟩ := hO5.slice
    rw [List.length_map] at hO5 ⊢
    have hE5 : Ext w w5 := hA.ext inferInstance (Nat.le_refl _)
    have hS5 := hE5.toStep
    (apply jJ; exact eS rfl; refine jz ?_; refine jjF ?_; refine jB rfl rfl ⟨inferInstance, ?_⟩)
    exact ⟨a5, c5, rfl, hO5⟩

/-- What a correction answers. -/
def FixR (h : Int) (bs : List Blk) (l : List Int) (k ln : Int) (B : Nat) (v : Value) (w : World) : Prop :=
  (brkE h bs l ≠ 0 ∧ v = .tuple #[.agg #[.int .i64 0, .slice none 0 0], .slice none 0 0, .int .i64 0, .int .i64 0, .int .i64 (brkE h bs l)]) ∨
  (brkE h bs l = 0 ∧ ¬ ((0 ≤ k ∧ k ≤ (bs.length : Int) - 1) ∧ (1 ≤ ln ∧ ln ≤ 20)) ∧ v = .tuple #[.agg #[.int .i64 0, .slice none 0 0], .slice none 0 0, .int .i64 0, .int .i64 0, .int .i64 2]) ∨
  (brkE h bs l = 0 ∧ ∃ (k' t : Nat) (xa : Option Addr) (xc : Nat) (aa : Option Addr) (ac : Nat), k = k' ∧ FixD h bs l k' ln ∧ FixT h bs l k' ln t ∧
    v = .tuple #[.agg #[.int .i64 h, .slice xa bs.length xc], .slice aa (fixL h bs l k' ln t).length ac, .int .i64 ((colF bs l k' : Nat) : Int), .int .i64 ((t : Nat) : Int), .int .i64 0] ∧
    OwnL w B 37 true 2 (.slice xa bs.length xc) ((setB bs k' ln).map encB) ∧ OwnL w B 3 false 1 (.slice aa (fixL h bs l k' ln t).length ac) ((fixL h bs l k' ln t).map intV) ∧
    ∀ g, (Value.slice xa bs.length xc).ownBlock = some g → (Value.slice aa (fixL h bs l k' ln t).length ac).ownBlock ≠ some g)

section
variable (h : Int) (a : Option Addr) (c : Nat) (bs : List Blk) (la : Option Addr) (lc : Nat) (l : List Int) (w : World)
set_option maxHeartbeats 2000000 in
theorem Fix_galley (k ln : Int) (hll : l.length ≤ 100000) (hrow : RowV w true 2 (.slice a bs.length c) (bs.map encB)) (hbs : ∀ b ∈ bs, b.1.size ≤ 140737488351232) (htorn : At w 1 0 tornC) (hnone : At w 0 0 [.int .i64 (-1), .int .i64 (-1)]) [hl : RowI w (.slice la l.length lc) false 1 (l.map intV)] :
    Ct Tryz.prog 24 [.agg #[.int .i64 h, .slice a bs.length c], .slice la l.length lc, .int .i64 k, .int .i64 ln] w fun v w' => FixR h bs l k ln w.heap.size v w' := by
  have hrowI := RowI.mk hrow
  refine Ct.ofW (by simp) ?_
  (refine jjB ?_; refine jjC ?_)
  (refine jy rfl ?_; intro b4 w_b4 hb_b4 hs_b4 hS_b4 hk_b4; have hA_b4 := At.ofBlock hk_b4)
  ((skip); refine jjY ?_; intro b8 w_b8 hb_b8 hs_b8 hS_b8 hk_b8; have hA_b8 := Bk.of hk_b8)
  (apply jJ; exact eS rfl; apply jJ; exact eI rfl; apply jJ; exact eI rfl; apply jJ; exact eI rfl; refine jz ?_; refine jjB ?_; refine jjC ?_; refine jO rfl rfl rfl rfl ?_; apply jI; exact eS rfl)
  refine jjQ (broken_galley h a c bs la lc l _ (hrow.ext inferInstance) hbs (htorn.ext inferInstance)) rfl rfl ?_
  rintro _ w2 hS2 (⟨he, rfl⟩ | ⟨he, hg, hv, pf, mb, rfl, h1, h2, h3⟩)
  · repeat' (first|((first|apply jI|apply jJ); (first|exact eI rfl|exact eU rfl|exact eN rfl))|(refine jM ?_; refine jN rfl rfl rfl ?_)|(refine jW ?_; (first|refine jZ rfl rfl (by omega) ?_|refine jc rfl rfl ?_))|(refine jg ?_; refine jh rfl ?_)|(refine jm ?_; refine jn rfl ?_)|refine ju rfl rfl ?_|refine jz ?_|(refine jjA ?_; (first|refine jjB ?_|refine jjC ?_|refine jjG ?_))|(refine jjA ?_; (refine jjN rfl ?_ ?_ <;> intro _)))
    · (refine jjS (cells := [.int .i64 0, .slice none 0 0]) ?_ ?_; exact rfl)
      (apply jI; exact eI rfl)
      refine Ops.store rfl (eA rfl) rfl rfl rfl ?_
      intro w3 hp3
      have hB3 := Bk.of hp3.new
      (apply jJ; exact eS rfl; apply jJ; exact eI rfl; apply jJ; exact eI rfl; apply jJ; exact eI rfl; refine jz ?_; refine jjF ?_)
      have hE : Ext w w3 := hp3.ext inferInstance (by omega)
      refine fin5C rfl rfl rfl rfl rfl rfl rfl (Bk.toAt (h := hB3)) rfl rfl ⟨hE, .inl ⟨he, ?_⟩⟩
      exact rfl
    · exact absurd (Decidable.not_not.1 ‹_›) he
  · have hs := galleyB_spec hg
    have hfr := h3.frm
    have hsl := sumL_le hs.1
    have V := validI hs.1 hv
    have z4 := hS_b4.size
    have z8 := hS_b8.size
    have z2 := hS2.size
    (apply jI; exact eU rfl; refine ju rfl rfl ?_; refine ju rfl rfl ?_; apply jJ; exact eP rfl; apply jJ; exact eI rfl; refine jz ?_; refine jjB ?_; refine jjB ?_; refine jjC ?_; apply jI; exact eI rfl; refine jc rfl rfl ?_; refine jz ?_; refine jjK rfl ?_; refine jjG ?_; refine jjB ?_; refine jjB ?_; refine jjC ?_; refine jm ?_; refine jn rfl ?_; refine jN rfl rfl rfl ?_; refine jh rfl ?_; refine jZ rfl rfl (by omega) ?_; apply jI; exact eI rfl)
    (refine jjP (v := .int _ _) rfl (by exact rfl) (by exact rfl) (by exact rfl) (by exact rfl) ?_; intro b37 w_b37 hb_b37 hs_b37 hS_b37 hk_b37; have hR_b37 := RowV.one (agg := false) (k := 1) rfl hk_b37)
    ((skip); refine jjQ (in_galley 0 ((bs.length : Int) - 1) _ [k] _ hR_b37) rfl rfl ?_)
    rintro _ w3 hS3 rfl
    rw [in_1]
    have z3 := hS3.size
    have z37 := hS_b37.size
    have harg : ¬ ((0 ≤ k ∧ k ≤ (bs.length : Int) - 1) ∧ (1 ≤ ln ∧ ln ≤ 20)) → ∀ w', FixR h bs l k ln w.heap.size (.tuple #[.agg #[.int .i64 0, .slice none 0 0], .slice none 0 0, .int .i64 0, .int .i64 0, .int .i64 2]) w' := fun e w' => .inr (.inl ⟨he, e, rfl⟩)
    repeat' (first|((first|apply jI|apply jK rfl); (first|exact eI rfl|exact eB rfl))|(refine jS ?_; (first|refine jT rfl rfl rfl ?_|refine jU rfl rfl rfl rfl ?_))|(refine jo ?_; refine jr rfl ?_)|refine jz ?_|(refine jjA ?_; (first|refine jjB ?_|refine jjC ?_|refine jjJ rfl ?_))|(refine jS ?_; (refine jjL rfl rfl ?_ ?_ <;> intro _)))
    · (refine jjS (cells := [.int .i64 0, .slice none 0 0]) ?_ ?_; exact rfl)
      skip
      refine Ops.store rfl (eA rfl) rfl rfl rfl ?_
      intro w4 hp4
      have hB4 := Bk.of hp4.new
      (apply jJ; exact eS rfl; apply jJ; exact eI rfl; apply jJ; exact eI rfl; apply jJ; exact eI rfl; refine jz ?_; refine jjF ?_)
      have hE : Ext w w4 := hp4.ext inferInstance (by omega)
      refine fin5C rfl rfl rfl rfl rfl rfl rfl (Bk.toAt (h := hB4)) rfl rfl ⟨hE, ?_⟩
      exact harg (fun e => ‹¬ (0 ≤ k ∧ k ≤ (bs.length : Int) - 1)› e.1) w4
    have hin := Decidable.not_not.1 ‹¬ ¬ (0 ≤ k ∧ k ≤ (bs.length : Int) - 1)›
    (refine jjP (v := .int _ _) rfl (by exact rfl) (by exact rfl) (by exact rfl) (by exact rfl) ?_; intro b42 w_b42 hb_b42 hs_b42 hS_b42 hk_b42; have hR_b42 := RowV.one (agg := false) (k := 1) rfl hk_b42)
    (((refine jT rfl rfl rfl ?_)); refine jjQ (in_galley 1 20 _ [ln] _ hR_b42) rfl rfl ?_)
    rintro _ w5 hS5 rfl
    rw [in_1]
    have z42 := hS_b42.size
    have z5 := hS5.size
    repeat' (first|(apply jL rfl; exact eB rfl)|(refine jS ?_; refine jT rfl rfl rfl ?_)|(refine jo ?_; refine jr rfl ?_)|refine jz ?_|(refine jjA ?_; (first|refine jjB ?_|refine jjC ?_|refine jjG ?_))|(refine jjA ?_; (refine jjN rfl ?_ ?_ <;> intro _)))
    · (refine jjS (cells := [.int .i64 0, .slice none 0 0]) ?_ ?_; exact rfl)
      skip
      refine Ops.store rfl (eA rfl) rfl rfl rfl ?_
      intro w6 hp6
      have hB6 := Bk.of hp6.new
      (apply jJ; exact eS rfl; apply jJ; exact eI rfl; apply jJ; exact eI rfl; apply jJ; exact eI rfl; refine jz ?_; refine jjF ?_)
      have hE : Ext w w6 := hp6.ext inferInstance (by omega)
      refine fin5C rfl rfl rfl rfl rfl rfl rfl (Bk.toAt (h := hB6)) rfl rfl ⟨hE, ?_⟩
      exact harg (fun e => ‹¬ (1 ≤ ln ∧ ln ≤ 20)› e.2) w6
    have hin2 := Decidable.not_not.1 ‹¬ ¬ (1 ≤ ln ∧ ln ≤ 20)›
    obtain ⟨q, rfl⟩ : ∃ q : Nat, k = q := ⟨k.toNat, by omega⟩
    have hq : q < bs.length := by omega
    have D : FixD h bs l q ln := ⟨hq, hin2, hs.1, by omega, by omega, V⟩
    obtain ⟨f1, f2, f3, f4, f5, f6, f7, f8, f9, f10, f11⟩ := D.facts
    have hsum := D.sum
    have hmo : ln - bs[q].2 = moreF bs q ln := by rw [moreF, linesL_get hq]
    have hlq := hs.1 bs[q] (List.getElem_mem hq)
    have hb' := setB_ok (k := q) hs.1 hin2
    have hmd : moreF bs q ln = ln - linesL bs q := rfl
    -- the new galley
    refine W.draw (fun w' => At w' b4 0 [.int .i64 h, .slice a bs.length c]) ?_
    intro V1 hS1
    have z1 := hS1.size
    have hA1 : At V1 b4 0 [.int .i64 h, .slice a bs.length c] := inferInstance
    refine jjV [0, 1, 2, 3] (by decide +kernel) hA1 ?_
    (((apply jjT; exact rfl; rintro w' hq; have := hq; refine jm ?_; refine jn rfl ?_; refine jz ?_; exact ⟨rfl, rfl⟩; apply jjT; exact rfl; rintro w' hq; have := hq; refine jN rfl rfl rfl ?_; refine jz ?_; exact ⟨rfl, rfl⟩; apply jjT; exact rfl; rintro w' hq; have := hq; refine jm ?_; refine jn rfl ?_; refine jz ?_; exact ⟨rfl, rfl⟩; apply jjT; exact rfl; rintro w' hq; have := hq; refine jN rfl rfl rfl ?_; refine jz ?_; exact ⟨rfl, rfl⟩; refine jjU ?_)))
    apply jjW 4 (by decide +kernel) rfl hA1
    refine jjQ (Clone_Block a c bs _ (by omega)) rfl rfl ?_
    rintro _ V2 hS2' ⟨xa, xc, rfl, hX⟩
    have z2' := hS2'.size
    refine jz ?_
    have hA2 : At V2 b4 0 [.int .i64 h, .slice a bs.length c] := inferInstance
    refine jjV [5] (by decide +kernel) hA2 ?_
    refine jjT rfl (v := .agg #[.int .i64 h, .slice xa bs.length xc]) ?_ ?_
    · rintro w' hq
      (refine jjS (cells := [.int .i64 h, .slice xa bs.length xc]) ?_ ?_; exact rfl)
      refine jz ?_
      exact ⟨rfl, rfl⟩
    refine jjU ?_
    apply jjW 6 (by decide +kernel) rfl hA2
    refine Ops.store rfl (eA rfl) rfl rfl rfl ?_
    intro V3 hp3
    refine jz ?_
    refine jjX (by decide +kernel) (hp3.at_ hA2 (by omega)) ?_
    have hB83 : Bk V3 b8 [.int .i64 h, .slice xa bs.length xc] 24 := Bk.of hp3.new
    obtain ⟨g, rfl⟩ : ∃ g, xa = some ⟨g, 0, none⟩ := by
      rcases hX.own.2 with ⟨e, _⟩ | ⟨g, cap, cur, e, _⟩
      · simp only [Value.slice.injEq] at e; omega
      · simp only [Value.slice.injEq] at e; exact ⟨g, e.1⟩
    have hgb := hX.block g rfl
    have hX3 := hX.put hp3 (fun e => by have e' : some g = some b8 := e; cases e'; omega)
    have hE3 : Ext w V3 := hp3.ext inferInstance (by omega)
    have hSw3 := hE3.toStep
    have hA43 := hp3.at_ hA2 (show b4 ≠ b8 by omega)
    have hpf2 := h3.frm.lt
    have hmb2 := h3.may.lt
    have hfr3 : Bk V3 pf _ _ := hp3.bk (inferInstance : Bk V2 pf _ _) (by omega)
    have z3' := hp3.size
    (refine jjB ?_; refine jjC ?_; refine jm ?_; refine jn rfl ?_; refine jN rfl rfl rfl ?_; apply jI; exact eI rfl; apply jI; exact eI rfl)
    refine jH q rfl rfl rfl (by omega) ?_
    (refine jm ?_; refine jn rfl ?_)
    refine Ops.storeL (g := g) (j := q) (i := 1) (X := encB bs[q]) (X' := encB (bs[q].1, ln)) hX3 rfl (map_get hq) rfl rfl rfl (show Value.pointer (some ⟨g, 0 + q * 2 + 1, none⟩) = Value.pointer (some ⟨g, q * 2 + 1, none⟩) from by rw [Nat.zero_add]) (eI rfl) rfl rfl ?_
    intro V4 o4 hp4 hX4
    have eset : (bs.map encB).set q (encB (bs[q].1, ln)) = (setB bs q ln).map encB := by
      rw [setB, List.map_set]
      congr 2
      simp [List.getD_eq_getElem?_getD, hq]
    rw [eset] at hX4
    have hE4 : Ext w V4 := hp4.ext hE3 (by omega)
    have hSw4 := hE4.toStep
    have hB84 := hp4.bk hB83 (show b8 ≠ g by omega)
    have hA44 := hp4.at_ hA43 (show b4 ≠ g by omega)
    have hfr4 := hp4.bk hfr3 (show pf ≠ g by omega)
    have z4' := hp4.size
    (refine jz ?_; refine jjB ?_)
    obtain ⟨q1, o1, ha0, hAq⟩ := (hrow.ext hE4).place' (map_get hq)
    subst ha0
    refine W.draw (fun w' => Ext V4 w') ?_
    intro V5 hS5'
    refine jjV [0, 2, 3, 4, 5, 6, 7, 8, 9] (by decide +kernel) hS5'.ext ?_
    (((apply jjT; exact rfl; rintro w' hq; have := hq.toStep; refine jO rfl rfl rfl rfl ?_; refine jz ?_; exact ⟨rfl, rfl⟩; apply jjT; exact rfl; rintro w' hq; have := hq.toStep; apply jI; exact eI rfl; refine jz ?_; exact ⟨rfl, rfl⟩; apply jjT; exact rfl; rintro w' hq; have := hq.toStep; refine jm ?_; refine jn rfl ?_; refine jz ?_; exact ⟨rfl, rfl⟩; apply jjT; exact rfl; rintro w' hq; have := hq.toStep; refine jN rfl rfl rfl ?_; refine jz ?_; exact ⟨rfl, rfl⟩; apply jjT; exact rfl; rintro w' hq; have := hq.toStep; apply jI; exact eI rfl; refine jz ?_; exact ⟨rfl, rfl⟩; apply jjT; exact rfl; rintro w' hq; have := hq.toStep; refine jH _ rfl rfl rfl (by omega) ?_; refine jz ?_; exact ⟨rfl, rfl⟩; apply jjT; exact rfl; rintro w' hq; have := hq.toStep; refine jm ?_; refine jn rfl ?_; refine jz ?_; exact ⟨rfl, rfl⟩; apply jjT; exact rfl; rintro w' hq; have := hq.toStep; refine jP rfl rfl rfl ?_; refine jz ?_; exact ⟨rfl, rfl⟩; apply jjT; exact rfl; rintro w' hq; have := hq.toStep; refine jZ rfl rfl (by omega) ?_; refine jz ?_; exact ⟨rfl, rfl⟩; refine jjU ?_)))
    apply jjW 1 (by decide +kernel) rfl hS5'.ext
    have hXr : RowV V5 true 2 (.slice (some ⟨g, 0, none⟩) (setB bs q ln).length xc) ((setB bs q ln).map encB) := by rw [setB_len]; exact hX4.row.ext hS5'.ext
    have hop := opened_galley h (some ⟨g, 0, none⟩) xc (setB bs q ln) V5 hXr hb' (by rw [setB_len]; omega) (htorn.ext inferInstance)
    rw [setB_len] at hop
    refine jjQ hop rfl rfl ?_
    rintro _ V6 hS6 ⟨pf2, mb2, rfl, j1, j2, j3⟩
    have hE6 := hS5'.ext.trans hS6.ext
    refine jz ?_
    refine jjV [10, 11] (by decide +kernel) hE6 ?_
    (((apply jjT; exact rfl; rintro w' hq; have := hq.toStep; apply jJ; exact eP rfl; refine jz ?_; exact ⟨rfl, rfl⟩; apply jjT; exact rfl; rintro w' hq; have := hq.toStep; apply jJ; exact eI rfl; refine jz ?_; exact ⟨rfl, rfl⟩; refine jjU ?_)))
    refine jjX (by decide +kernel) hE6 ?_
    (refine jjB ?_; refine jjC ?_; apply jI; exact eP rfl; apply jI; exact eS rfl; apply jI; exact eI rfl)
    refine jjQ (columns_galley h (some ⟨q1, o1, none⟩) c bs la lc l _ pf (lastZ (endsF 0 bs)) (.map (some mb)) q hq hs.1 (by omega) (by omega) V.up) rfl rfl ?_
    rintro _ V7 hS7 rfl
    have hE7 : Ext V4 V7 := hE6.trans hS7.ext
    (apply jI; exact eU rfl; refine ju rfl rfl ?_; refine ju rfl rfl ?_; apply jJ; exact eI rfl; apply jJ; exact eI rfl; refine jz ?_; refine jjB ?_; refine jjC ?_; apply jI; exact eS rfl; apply jI; exact eI rfl)
    refine Ops.sliceH (inferInstance : RowI V7 (.slice la l.length lc) false 1 (l.map intV)).h rfl rfl rfl (by rw [List.length_map]; exact f9) ?_
    rintro _ hRk ⟨ak, ck, rfl⟩
    rw [← List.map_take] at hRk
    have etk : (l.take (colF bs l q)).length = colF bs l q := by simp; omega
    have hIk : RowI V7 (.slice ak (l.take (colF bs l q)).length ck) false 1 ((l.take (colF bs l q)).map intV) := ⟨by rw [etk]; exact hRk⟩
    have hcl := Clone_int ak ck (l.take (colF bs l q)) V7 (by omega)
    rw [etk] at hcl
    skip
    refine jjQ hcl rfl rfl ?_
    rintro v9 V8 hS8 hO9
    have z7 := hE7.size
    have z8' := hS8.size
    have hlz : lastZ (endsF 0 (setB bs q ln)) = sumL (setB bs q ln) := lz hb' (by rw [setB_len]; omega)
    have hmay := may_dec hb'
    have hfr2 := j3.frm
    rw [hlz] at hfr2
    repeat' (first|((first|apply jI|apply jJ); (first|exact eI rfl|exact eS rfl|exact rfl))|(refine jW ?_; (first|refine jZ rfl rfl (by omega) ?_|refine je rfl rfl ?_))|refine jz ?_|(refine jjA ?_; (first|refine jjB ?_|refine jjC ?_|refine jjD ?_|refine jjG ?_))|(refine jjA ?_; (refine jjN rfl ?_ ?_ <;> intro _)))
    refine jF (j := colF bs l q - 1) rfl rfl (by omega) (map_get (by omega)) ?_
    intro _ _ _
    have hst : l[colF bs l q - 1] = startF bs l q := by
      rw [startF, ← getD_lt (by omega : colF bs l q - 1 < l.length)]
      obtain ⟨u, hu⟩ : ∃ u, colF bs l q = u + 1 := ⟨colF bs l q - 1, by omega⟩
      rw [hu]; rfl
    (refine jQ rfl rfl ?_; apply jJ; exact eI rfl; refine jz ?_; refine jjB ?_; refine jjD ?_)
    rotate_left
    have hst : (0 : Int) = startF bs l q := by
      have : colF bs l q = 0 := by omega
      rw [startF, this]; rfl
    all_goals
      refine W.keep0 [(1, _), (8, _), (9, v9), (10, _), (11, _), (14, _), (15, .int .i64 (moreF bs q ln)), (16, .int .i64 (startF bs l q))] ⟨eS rfl, eP rfl, rfl, eI rfl, eI rfl, eP rfl, congrArg (Value.int .i64) hmo, congrArg (Value.int .i64) hst, trivial⟩ fun s0 => ?_
      clear hst
      refine W.loop (90 :: 91 :: 92 :: 93 :: 94 :: 95 :: 96 :: 97 :: 98 :: 89 :: 99 :: 100 :: 101 :: 17 :: 18 :: 19 :: 102 :: 103 :: 104 :: 105 :: 9 :: 87 :: 88 :: 11 :: []) (fun g s' _ => ∃ t : Nat, s' 11 = .int .i64 ((t : Nat) : Int) ∧ s' 9 = v9 ∧ g = l.length - t ∧ colT bs l q ≤ t ∧ t < l.length ∧ ∀ j, colT bs l q ≤ j → j < t → ¬ okT h bs l q ln j) (l.length - colT bs l q) ⟨colT bs l q, rfl, rfl, rfl, Nat.le_refl _, f8, by intros; omega⟩ ?_
      rintro _ d V9 hS9 ⟨t, h11, h9, rfl, ht1, ht2, hmin⟩
      refine W.fix h11 (W.fix (d := 9) h9 ?_)
      clear h11 h9
      have hat := D.at_ ht1 ht2
      have hgt := getD_lt ht2
      rw [hgt] at hat
      have z9 := hS9.size
      repeat' (first|(apply jI; (first|exact eI rfl|exact eP rfl|exact eS rfl))|(refine jM ?_; refine jQ rfl rfl ?_)|(refine jW ?_; refine jY rfl rfl (by omega) ?_)|(refine jE ?_; (refine jF rfl rfl rfl (map_get (by omega)) ?_; intro _ _ _))|(refine jjA ?_; (first|refine jjB ?_|refine jjC ?_|refine jjD ?_)))
      have hbt := between_galley pf2 mb2 h (sumL (setB bs q ln)) (startF bs l q) (l[t] + moreF bs q ln) (.slice (some ⟨g, 0, none⟩) (setB bs q ln).length xc) (endsF 0 (setB bs q ln)) V9 (hfr2.ext inferInstance) (j3.may.ext inferInstance) (hnone.ext inferInstance) (by omega) (by omega) (by omega)
      rw [hmay] at hbt
      refine jjQ hbt rfl rfl ?_
      have hok : okT h bs l q ln t ↔ onW h (sumL (setB bs q ln)) (l[t] + moreF bs q ln) (fun n => mayR n 0 (setB bs q ln)) (startF bs l q) ≠ noneW := by rw [okT, hgt]
      rintro _ V10 hS10 (⟨e, rfl⟩ | ⟨e, u, rfl, hU⟩)
      · have hno : ¬ okT h bs l q ln t := fun e' => hok.1 e' e
        have htl : t + 1 < l.length := by
          rcases Nat.lt_or_ge (t + 1) l.length with c1 | c1
          · exact c1
          · have : t = l.length - 1 := by omega
            subst this
            exact absurd D.last_ok hno
        repeat' (first|((first|apply jI|apply jJ); (first|exact eI rfl|exact eB rfl|exact eS rfl|exact eU rfl))|(refine jW ?_; refine jY rfl rfl (by omega) ?_)|refine ju rfl rfl ?_|refine jz ?_|(refine jjA ?_; (first|refine jjB ?_|refine jjC ?_|refine jjG ?_|refine jjK rfl ?_)))
        refine ⟨rfl, by (repeat' (first|exact Same.ovN|refine Same.upd rfl ?_)), l.length - (t + 1), by omega, inferInstance, t + 1, congrArg (Value.int .i64) (by omega), rfl, rfl, by omega, htl, fun j hj1 hj2 => ?_⟩
        by_cases ej : j = t
        · subst ej; exact hno
        · exact hmin j hj1 (by omega)
      · have hT : FixT h bs l q ln t := ⟨ht1, ht2, hok.2 e, hmin⟩
        have z10 := hS10.size
        repeat' (first|((first|apply jI|apply jJ); (first|exact eI rfl|exact eB rfl|exact eU rfl|exact rfl))|refine ju rfl rfl ?_|refine jz ?_|(refine jjA ?_; (first|refine jjB ?_|refine jjC ?_|refine jjJ rfl ?_)))
        refine Ops.appendL (hO9.ext inferInstance) (by omega) hU.row rfl rfl rfl rfl (all_ints' _) ?_ ?_ ?_
        · have := pathW_len (h := h) (tot := sumL (setB bs q ln)) (to := l[t] + moreF bs q ln) (may := fun n => mayR n 0 (setB bs q ln)) (l[t] + moreF bs q ln - startF bs l q).toNat (startF bs l q)
          simp only [List.length_map, etk]; omega
        · have := pathW_len (h := h) (tot := sumL (setB bs q ln)) (to := l[t] + moreF bs q ln) (may := fun n => mayR n 0 (setB bs q ln)) (l[t] + moreF bs q ln - startF bs l q).toNat (startF bs l q)
          simp only [List.length_map, etk]; omega
        intro v11 V11 hA hO11 _ hw11
        have hplen := pathW_len (h := h) (tot := sumL (setB bs q ln)) (to := l[t] + moreF bs q ln) (may := fun n => mayR n 0 (setB bs q ln)) (l[t] + moreF bs q ln - startF bs l q).toNat (startF bs l q)
        generalize hpa : pathW h (sumL (setB bs q ln)) (l[t] + moreF bs q ln) (fun n => mayR n 0 (setB bs q ln)) (l[t] + moreF bs q ln - startF bs l q).toNat (startF bs l q) = pa at *
        have hfix : fixL h bs l q ln t = l.take (colF bs l q) ++ pa ++ (l.drop (t + 1)).map fun n => n + moreF bs q ln := by rw [fixL, hgt, hpa]
        rw [← List.map_append] at hO11
        have hb9 : ∀ g', v9.ownBlock = some g' → V7.heap.size ≤ g' := fun g' e => (hO9.block g' e).1
        have hEw : Ext w V11 := hA.ext (inferInstance : Ext w V10) (by omega)
        have hB11 : Bk V11 b8 [.int .i64 h, .slice (some ⟨g, 0, none⟩) bs.length xc] 24 := hA.bk inferInstance (fun e => by have := hb9 _ e; omega)
        have hX11 := (hX4.ext (inferInstance : Ext V4 V10)).app hA (fun g' e1 e2 => by have e' : some g = some g' := e1; cases e'; have := hb9 _ e2; omega)
        have hSw11 := hEw.toStep
        repeat' (first|((first|apply jI|apply jJ); (first|exact eI rfl|exact eS rfl|exact rfl))|(refine jW ?_; refine jY rfl rfl (by omega) ?_)|refine jz ?_|(refine jjA ?_; (first|refine jjB ?_|refine jjC ?_|refine jjE ?_)))
        refine Ops.sliceL2 (w0 := w) (lo := t + 1) (xs := l.map intV) (agg := false) (a := la) (c := lc) (by rw [List.length_map]; exact hl.h.ext hEw) (by rw [List.length_map]; exact hl.h) (by rw [List.length_map]; exact rfl) rfl (by omega) (by rw [List.length_map]; omega) ?_
        rintro vd hRd ⟨ad, cd, evd⟩
        rw [List.length_map] at evd
        subst evd
        rw [← List.map_drop] at hRd
        have hdl : (l.drop (t + 1)).length = l.length - (t + 1) := by simp
        repeat' (first|(apply jI; exact eI rfl)|(refine jg ?_; refine jh rfl ?_)|refine jz ?_|(refine jjA ?_; refine jjD ?_))
        refine W.keep0 [(8, _), (9, v11), (10, _), (11, _), (15, _), (109, _), (110, _), (111, _)] ⟨eP rfl, rfl, eI rfl, eI rfl, eI rfl, eS rfl, eI rfl, eI rfl, trivial⟩ fun s1 => ?_
        refine W.loopG (112 :: 113 :: 114 :: 21 :: 115 :: 116 :: 117 :: 118 :: 119 :: 120 :: 9 :: 121 :: 111 :: []) (fun g' s' V' => ∃ (i : Nat) (v : Value), s' 111 = .int .i64 ((i : Nat) : Int) ∧ s' 9 = v ∧ g' = l.length - (t + 1) - i ∧ i ≤ l.length - (t + 1) ∧ Ext w V' ∧ V7.heap.size ≤ V'.heap.size ∧ Bk V' b8 [.int .i64 h, .slice (some ⟨g, 0, none⟩) bs.length xc] 24 ∧ OwnL V' V1.heap.size 37 true 2 (.slice (some ⟨g, 0, none⟩) bs.length xc) ((setB bs q ln).map encB) ∧ OwnL V' V7.heap.size 3 false 1 v ((l.take (colF bs l q) ++ pa ++ ((l.drop (t + 1)).take i).map fun n => n + moreF bs q ln).map intV)) (l.length - (t + 1)) ⟨0, v11, rfl, rfl, rfl, Nat.zero_le _, hEw, by have := hA.g.size; omega, hB11, hX11, ?_⟩ ?_
        · rw [List.take_zero, List.map_nil, List.append_nil]; exact hO11
        rintro _ d2 V12 ⟨i, v, h111, h9, rfl, hi, hE12, hz12, hB12, hX12, hO12⟩
        refine W.fix h111 (W.fix (d := 9) h9 ?_)
        clear h111 h9
        have hSw12 := hE12.toStep
        have hId := RowI.mk (hRd.ext hE12)
        have hb12 : ∀ g', v.ownBlock = some g' → V7.heap.size ≤ g' := fun g' e => (hO12.block g' e).1
        repeat' (first|((first|apply jI|apply jJ); (first|exact eI rfl|exact rfl))|(refine jM ?_; (first|refine jO rfl rfl rfl rfl ?_|refine jQ rfl rfl ?_))|(refine jW ?_; refine jX rfl rfl ?_)|(refine jE ?_; (refine jF rfl rfl rfl (map_get (by omega)) ?_; intro _ _ _))|refine jz ?_|(refine jjA ?_; (first|refine jjB ?_|refine jjC ?_|refine jjD ?_|refine jjE ?_|refine jjG ?_))|(refine jjA ?_; (refine jjN rfl ?_ ?_ <;> intro _)))
        · have hi' : i < (l.drop (t + 1)).length := by omega
          have hdg := drop_get hi'
          have hstp := D.V.step (t + 1 + i) (by omega)
          rw [← hdg] at hstp
          repeat' (first|(refine jW ?_; refine jY rfl rfl (by omega) ?_))
          (refine jjP (v := .int _ _) rfl (by exact rfl) (by exact rfl) (by exact rfl) (by exact rfl) ?_; intro b119 w_b119 hb_b119 hs_b119 hS_b119 hk_b119; have hR_b119 := RowV.one (agg := false) (k := 1) rfl hk_b119)
          have z119 := hS_b119.size
          refine Ops.appendL (hO12.ext hS_b119.ext) (by omega) hR_b119 rfl rfl rfl rfl (one_int _) ?_ ?_ ?_
          · simp only [List.length_map, List.length_append, List.length_take, List.length_cons, List.length_nil]; omega
          · simp only [List.length_map, List.length_append, List.length_take, List.length_cons, List.length_nil]; omega
          intro v13 V13 hA13 hO13 _ hw13
          have zA := hA13.g.size
          repeat' (first|((first|apply jI|apply jJ); (first|exact eI rfl|exact rfl))|(refine jW ?_; refine jY rfl rfl (by omega) ?_)|refine jz ?_|(refine jjA ?_; refine jjC ?_))
          refine ⟨rfl, by (repeat' (first|exact Same.ovN|refine Same.upd rfl ?_)), l.length - (t + 1) - (i + 1), by omega, i + 1, v13, congrArg (Value.int .i64) (by omega), rfl, rfl, by omega, hA13.ext (hE12.trans hS_b119.ext) (by omega), by omega, hA13.bk (hB12.ext hS_b119.ext) (fun e => by have := hb12 _ e; omega), (hX12.ext hS_b119.ext).app hA13 (fun g' e1 e2 => by have e' : some g = some g' := e1; cases e'; have := hb12 _ e2; omega), ?_⟩
          rw [List.take_succ_eq_append_getElem hi']
          simp only [List.map_append, List.map_cons, List.map_nil, List.append_assoc] at hO13 ⊢
          exact hO13
        · have hie : i = (l.drop (t + 1)).length := by omega
          rw [hie, List.take_length, ← hfix] at hO12
          obtain ⟨aa, ac, ev⟩ := hO12.slice
          rw [List.length_map] at ev
          subst ev
          refine Ops.store rfl (eA rfl) rfl rfl rfl ?_
          intro V14 hp14
          have hB14 := Bk.of hp14.new
          repeat' (first|(apply jJ; (first|exact eI rfl|exact eS rfl))|refine jz ?_|(refine jjA ?_; refine jjF ?_))
          refine fin5C rfl rfl rfl rfl rfl rfl rfl (Bk.toAt (h := hB14)) rfl rfl ⟨hp14.ext hE12 (by omega), .inr (.inr ⟨he, q, t, some ⟨g, 0, none⟩, xc, aa, ac, rfl, D, hT, ?_, ?_, ?_, ?_⟩)⟩
          · exact rfl
          · exact (hX12.put hp14 (fun e => by have e' : some g = some b8 := e; cases e'; omega)).mono (by omega)
          · exact (hO12.put hp14 (fun e => by have := hb12 _ e; omega)).mono (by omega)
          · intro g' e1 e2
            have e' : some g = some g' := e1
            cases e'
            have := hb12 _ e2
            omega
end
end Go.Proofs.YtfebegbjggoijaaGreatDoor

/- Plain law: the examples of the galleys' chapter. -/
namespace Go.Proofs.YtfebegbjggoijaaGreatDoor
open Go.RowKit

abbrev exG : List Blk := [(wAnd, 3), (wIs, 2), (wOld, 6), (wSea, 4)]
abbrev exL : List Int := [5, 9, 13, 15]
theorem ex_ok : galleyB 5 exG = true := by kernel_rfl
theorem ex_ends : endsF 0 exG = [3, 5, 7, 8, 9, 11, 13, 15] := by kernel_rfl
theorem ex_sum : sumL exG = 15 := by kernel_rfl
/-- The best ways from all numbers on, in a table. -/
def onT (h tot to : Int) (may : Int → Bool) : Nat → List (Int × Int)
  | 0 => [(0, to)]
  | d + 1 => firstW (noneW :: (List.range (min (d + 1) h.toNat)).filterMap fun (j : Nat) =>
      if may (to - (d : Int) + j) && decide (¬ (onT h tot to may d).getD j noneW = noneW) then some (((onT h tot to may d).getD j noneW).1 + colW h tot (to - (d : Int) - 1) (to - (d : Int) + j), to - (d : Int) + j) else none) :: onT h tot to may d
theorem onT_eq (h tot to : Int) (may : Int → Bool) : ∀ d, (onT h tot to may d).length = d + 1 ∧ ∀ j, j ≤ d → (onT h tot to may d).getD j noneW = onD h tot to may (d - j) := by
  intro d
  induction d with
  | zero =>
    refine ⟨rfl, fun j hj => ?_⟩
    obtain rfl : j = 0 := by omega
    rw [onD]; rfl
  | succ d ih =>
    obtain ⟨h1, h2⟩ := ih
    refine ⟨by rw [onT, List.length_cons, h1], fun j hj => ?_⟩
    cases j with
    | succ j =>
      show (onT h tot to may d).getD j noneW = _
      rw [h2 j (by omega), show d + 1 - (j + 1) = d - j by omega]
    | zero =>
      show firstW _ = onD h tot to may (d + 1)
      rw [onD]
      congr 2
      refine filterMap_same fun j hj => ?_
      have := List.mem_range.1 hj
      rw [h2 j (by omega)]
theorem onW_T {h tot to : Int} {may : Int → Bool} {n : Nat} {d : Nat} (hn : to - (n : Int) = (d : Int)) : onW h tot to may (n : Int) = (onT h tot to may d).getD 0 noneW := by
  rw [onW, if_pos (by omega), (onT_eq h tot to may d).2 0 (Nat.zero_le _)]
  congr 1
  omega
theorem ex_brk : brkL 5 exG = [5, 9, 13, 15] := by
  obtain ⟨hh, hl, hb, hs1, hs2⟩ := galley_yes ex_ok
  have ho : ∀ n, 0 ≤ n → n ≤ sumL exG → onW 5 (sumL exG) (sumL exG) (fun n => mayR n 0 exG) n ≠ noneW := fun n h0 hn => reach hb (by omega) (by omega) _ n rfl h0 hn
  rw [brkL, lastZ_ends hb hl.1, may_dec hb, if_neg (ho 0 (by omega) (by omega)), ex_sum]
  have e0 : onW 5 15 15 (fun n => mayR n 0 exG) 0 = (2, 5) := (onW_T (n := 0) (d := 15) (by omega)).trans (by kernel_rfl)
  have e1 : onW 5 15 15 (fun n => mayR n 0 exG) 5 = (2, 9) := (onW_T (n := 5) (d := 10) (by omega)).trans (by kernel_rfl)
  have e2 : onW 5 15 15 (fun n => mayR n 0 exG) 9 = (1, 13) := (onW_T (n := 9) (d := 6) (by omega)).trans (by kernel_rfl)
  have e3 : onW 5 15 15 (fun n => mayR n 0 exG) 13 = (0, 15) := (onW_T (n := 13) (d := 2) (by omega)).trans (by kernel_rfl)
  show pathW 5 15 15 (fun n => mayR n 0 exG) 15 0 = _
  simp only [pathW, e0, e1, e2, e3]
  rfl
theorem ex_valid : brkE 5 exG exL = 0 := by kernel_rfl
theorem ex_waste : wasteS 5 exG exL = 2 := by kernel_rfl
theorem ex_at : atS 5 exG exL 9 = (2, 0, 0) := by kernel_rfl
theorem ex_col : colS 5 exG exL 2 = (1, 2, 0) := by kernel_rfl
theorem ex_fix : fixL 5 exG exL 1 3 0 = [3, 6, 10, 14, 16] := by
  have e0 : onW 5 16 6 (fun n => mayR n 0 (setB exG 1 3)) 0 = (8, 3) := (onW_T (n := 0) (d := 6) (by omega)).trans (by kernel_rfl)
  have e1 : onW 5 16 6 (fun n => mayR n 0 (setB exG 1 3)) 3 = (4, 6) := (onW_T (n := 3) (d := 3) (by omega)).trans (by kernel_rfl)
  have s1 : sumL (setB exG 1 3) = 16 := by kernel_rfl
  have s2 : startF exG exL 1 = 0 := by kernel_rfl
  have s3 : exL.getD 0 0 + moreF exG 1 3 = 6 := by kernel_rfl
  have s4 : exL.take (colF exG exL 1) = [] := by kernel_rfl
  have s5 : (exL.drop (0 + 1)).map (fun n => n + moreF exG 1 3) = [10, 14, 16] := by kernel_rfl
  rw [fixL, s1, s2, s3, s4, s5]
  show [] ++ pathW 5 16 6 (fun n => mayR n 0 (setB exG 1 3)) 6 0 ++ _ = _
  simp only [pathW, e0, e1]
  rfl
theorem ex_colT : colT exG exL 1 = 0 ∧ colF exG exL 1 = 0 := by constructor <;> kernel_rfl
theorem ex_set : setR seaT 14 3 4 = ((4, [(wAnd, 2), (wIs, 2), (wOld, 3), (wSea, 5), (wThe, 3)]), 0) := by
  have hc : cutB 14 3 = true := by kernel_rfl
  have hb : blkL (allS seaT 3 14) (vocL (wsOf seaT)) = [(wAnd, 2), (wIs, 2), (wOld, 3), (wSea, 5), (wThe, 3)] := (blk_places sea_valid hc).trans (by kernel_rfl)
  rw [setR_yes sea_ask3 (by kernel_rfl) (by rw [hb]; kernel_rfl), hb]
end Go.Proofs.YtfebegbjggoijaaGreatDoor

/- The proof engine, part 18: division of numbers that are not negative; equality of pairs. -/
namespace Go.Proofs.YtfebegbjggoijaaGreatDoor
open Go.RowKit

section rules
variable {P : Program} {ro : Option Nat} {n : Nat} {all rest : List Oper} {K : Sl → World → Prop} {s : Sl} {w : World} {d : Nat} {ty : Nat} {pos : String} {af : Array Edge} {x y : Operand} {t t' : Nat} {a b : Int}
theorem Ops.rem (hx : ev n s x = .int .i64 a) (hy : ev n s y = .int .i64 b) (h0 : 0 ≤ a) (h1 : 0 < b) (h : Ops P ro n all rest K (upd s d (.int .i64 (a % b))) w) :
    Ops P ro n all (⟨some d, .binOp .rem t x y t', ty, pos, af, none⟩ :: rest) K s w :=
  Ops.ofRun rfl (by
    have e1 : Int.tmod a b = a % b := Int.tmod_eq_emod_of_nonneg h0
    have e3 : ¬ b = 0 := by omega
    simp [execOp, hx, hy, go_sem, Op.intDiv, e1, e3]) h
end rules

end Go.Proofs.YtfebegbjggoijaaGreatDoor

/- The proof engine, part 30: comparisons of booleans; >= of strings. -/
namespace Go.Proofs.YtfebegbjggoijaaGreatDoor
open Go.RowKit
section rules
variable {P : Program} {ro : Option Nat} {n : Nat} {all rest : List Oper} {K : Sl → World → Prop} {s : Sl} {w : World} {d : Nat} {ty : Nat} {pos : String} {af : Array Edge}
variable {x y : Operand} {t t' : Nat}
end rules
end Go.Proofs.YtfebegbjggoijaaGreatDoor

/- The proof engine, part 31: min and max of three integers; integers of 16 bits. -/
namespace Go.Proofs.YtfebegbjggoijaaGreatDoor
open Go.RowKit
section rules
variable {P : Program} {ro : Option Nat} {n : Nat} {all rest : List Oper} {K : Sl → World → Prop} {s : Sl} {w : World} {d : Nat} {ty : Nat} {pos : String} {af : Array Edge}
variable {x y z : Operand} {at_ : Array Nat}
end rules
end Go.Proofs.YtfebegbjggoijaaGreatDoor

/- The reference of galley: Galley, total, may. -/
namespace Go.Proofs.YtfebegbjggoijaaGreatDoor
open Go.RowKit

theorem inB_no {lo hi n : Int} (e : ¬ (lo ≤ n ∧ n ≤ hi)) : inB lo hi n = false := decide_eq_false e
theorem inB_yes {lo hi n : Int} (e : ¬ ¬ (lo ≤ n ∧ n ≤ hi)) : inB lo hi n = true := decide_eq_true (Decidable.not_not.1 e)
theorem gal_no1 {h : Int} {bs : List Blk} (e : ¬ (4 ≤ h ∧ h ≤ 40)) : false = galleyB h bs := by simp [galleyB, inB_no e]
theorem gal_no2 {h : Int} {bs : List Blk} (e : ¬ (1 ≤ (bs.length : Int) ∧ (bs.length : Int) ≤ 30)) : false = galleyB h bs := by simp [galleyB, inB_no e]
theorem gal_no3 {h : Int} {bs : List Blk} {k : Nat} (hk : k < bs.length) (e : blockB bs[k] = false) : false = galleyB h bs := by
  have : bs.all blockB = false := by
    rw [List.all_eq_false]
    exact ⟨bs[k], List.getElem_mem hk, by simp [e]⟩
  simp [galleyB, this]
theorem blk_no1 {b : Blk} (e : (!wordB b.1) = true) : blockB b = false := by
  simp only [Bool.not_eq_true'] at e; simp [blockB, e]
theorem blk_no2 {b : Blk} (e : ¬ (1 ≤ b.2 ∧ b.2 ≤ 20)) : blockB b = false := by simp [blockB, inB_no e]
theorem blk_yes {b : Blk} (e : (!wordB b.1) = false) (e2 : ¬ ¬ (1 ≤ b.2 ∧ b.2 ≤ 20)) : blockB b = true := by
  simp only [Bool.not_eq_false'] at e; simp [blockB, e, inB_yes e2]
theorem gal_yes {h : Int} {bs : List Blk} (e1 : ¬ ¬ (4 ≤ h ∧ h ≤ 40)) (e2 : ¬ ¬ (1 ≤ (bs.length : Int) ∧ (bs.length : Int) ≤ 30)) (e3 : ∀ (j : Nat) (hj : j < bs.length), blockB bs[j] = true) : true = galleyB h bs := by
  have : bs.all blockB = true := by
    rw [List.all_eq_true]
    intro b hb
    obtain ⟨j, hj, rfl⟩ := List.getElem_of_mem hb
    exact e3 j hj
  simp [galleyB, this, inB_yes e1, inB_yes e2]

theorem Galley_ref (h : Int) (a : Option Addr) (c : Nat) (bs : List Blk) (w : World) [RowI w (.slice a bs.length c) true 2 (bs.map encB)] (hbs : ∀ b ∈ bs, b.1.size ≤ 140737488351232) (hl : bs.length ≤ 140737488355328) :
    Ct Tryz.prog 13 [.agg #[.int .i64 h, .slice a bs.length c]] w fun v _ => v = .bool (galleyB h bs) := by
  refine Ct.ofW (by simp) ?_
  (refine jjB ?_; refine jjC ?_)
  (refine jy rfl ?_; intro b1 w_b1 hb_b1 hs_b1 hS_b1 hk_b1; have hA_b1 := At.ofBlock hk_b1)
  (apply jJ; exact eB rfl; refine jz ?_; refine jjB ?_; refine jjB ?_; refine jjC ?_; refine jm ?_; refine jn rfl ?_; refine jN rfl rfl rfl ?_)
  refine jjQ (within_postilref08 h 4 40 _) rfl rfl ?_
  rintro _ w2 hS2 rfl
  repeat' (first|((first|apply jI|apply jJ|apply jK rfl); exact eB rfl)|(refine jM ?_; refine jN rfl rfl rfl ?_)|(refine jS ?_; (first|refine jT rfl rfl rfl ?_|refine jU rfl rfl rfl rfl ?_))|(refine jg ?_; refine jh rfl ?_)|(refine jm ?_; refine jn rfl ?_)|(refine jo ?_; refine jr rfl ?_)|refine jz ?_|(refine jjA ?_; (first|refine jjB ?_|refine jjC ?_|refine jjF ?_|refine jjJ rfl ?_))|(refine jS ?_; (refine jjL rfl rfl ?_ ?_ <;> intro _))|refine jB rfl rfl ⟨inferInstance, ?_⟩)
  · exact congrArg Value.bool (gal_no1 ‹_›)
  · refine jjQ (within_postilref08 _ 1 30 _) rfl rfl ?_
    rintro _ w3 hS3 rfl
    repeat' (first|((first|apply jJ|apply jL rfl); (first|exact eI rfl|exact eB rfl))|(refine jS ?_; refine jT rfl rfl rfl ?_)|(refine jo ?_; refine jr rfl ?_)|refine jz ?_|(refine jjA ?_; (first|refine jjB ?_|refine jjC ?_|refine jjD ?_|refine jjF ?_|refine jjG ?_))|(refine jjA ?_; (refine jjN rfl ?_ ?_ <;> intro _))|refine jB rfl rfl ⟨inferInstance, ?_⟩)
    · exact congrArg Value.bool (gal_no2 ‹_›)
    refine W.loop (15 :: 16 :: 17 :: 18 :: 19 :: 22 :: 23 :: 24 :: 25 :: 26 :: 27 :: 28 :: 29 :: 30 :: 31 :: 32 :: 33 :: 34 :: 35 :: 36 :: 37 :: 38 :: 39 :: 2 :: 20 :: 21 :: 3 :: []) (fun g s' _ => ∃ k : Nat, s' 3 = .int .i64 k ∧ g = bs.length - k ∧ k ≤ bs.length ∧ ∀ (j : Nat) (hj : j < bs.length), j < k → blockB bs[j] = true) bs.length ⟨0, rfl, by omega, by omega, by intros; omega⟩ ?_
    rintro _ d w' hS ⟨k, h3, rfl, hk, hpre⟩
    refine W.fix h3 ?_
    repeat' (first|((first|apply jI|apply jJ); (first|exact eI rfl|exact eB rfl))|(refine jM ?_; (first|refine jN rfl rfl rfl ?_|refine jP rfl rfl rfl ?_))|(refine jW ?_; refine jX rfl rfl ?_)|(refine jg ?_; refine jh rfl ?_)|(refine jm ?_; refine jn rfl ?_)|(refine jE ?_; (refine jF rfl rfl rfl (map_get (by omega)) ?_; intro _ _ _))|refine jz ?_|(refine jjA ?_; (first|refine jjB ?_|refine jjC ?_|refine jjD ?_|refine jjE ?_|refine jjF ?_|refine jjG ?_))|(refine jjA ?_; (refine jjN rfl ?_ ?_ <;> intro _))|refine jB rfl rfl ⟨inferInstance, ?_⟩)
    · have hk' : k < bs.length := by omega
      refine jjQ (Word_ref _ _ (by have := hbs bs[k] (List.getElem_mem hk'); omega)) rfl rfl ?_
      rintro _ w4 hS4 rfl
      repeat' (first|((first|apply jI|apply jJ|apply jK rfl); (first|exact eI rfl|exact eB rfl))|(refine jM ?_; (first|refine jN rfl rfl rfl ?_|refine jP rfl rfl rfl ?_))|(refine jS ?_; (first|refine jT rfl rfl rfl ?_|refine jU rfl rfl rfl rfl ?_))|(refine jm ?_; refine jn rfl ?_)|(refine jo ?_; refine js rfl ?_)|(refine jE ?_; (refine jF rfl rfl rfl (map_get (by omega)) ?_; intro _ _ _))|refine jz ?_|(refine jjA ?_; (first|refine jjB ?_|refine jjC ?_|refine jjF ?_|refine jjJ rfl ?_))|(refine jS ?_; (refine jjM rfl rfl ?_ ?_ <;> intro _))|refine jB rfl rfl ⟨inferInstance, ?_⟩)
      · exact congrArg Value.bool (gal_no3 hk' (blk_no1 ‹_›))
      · refine jjQ (within_postilref08 _ 1 20 _) rfl rfl ?_
        rintro _ w5 hS5 rfl
        repeat' (first|((first|apply jI|apply jJ|apply jL rfl); (first|exact eI rfl|exact eB rfl))|(refine jS ?_; refine jT rfl rfl rfl ?_)|(refine jW ?_; refine jY rfl rfl (by omega) ?_)|(refine jo ?_; refine jr rfl ?_)|refine jz ?_|(refine jjA ?_; (first|refine jjB ?_|refine jjC ?_|refine jjF ?_|refine jjG ?_))|(refine jjA ?_; (refine jjN rfl ?_ ?_ <;> intro _))|refine jB rfl rfl ⟨inferInstance, ?_⟩)
        · exact congrArg Value.bool (gal_no3 hk' (blk_no2 ‹_›))
        · refine ⟨rfl, by ((refine Same.upd rfl ?_; refine Same.upd rfl ?_; refine Same.upd rfl ?_; refine Same.upd rfl ?_; refine Same.upd rfl ?_; refine Same.upd rfl ?_; refine Same.upd rfl ?_; refine Same.upd rfl ?_; refine Same.upd rfl ?_; refine Same.upd rfl ?_; refine Same.upd rfl ?_; refine Same.upd rfl ?_; refine Same.upd rfl ?_; refine Same.upd rfl ?_; refine Same.upd rfl ?_; refine Same.upd rfl ?_; refine Same.upd rfl ?_; refine Same.upd rfl ?_; refine Same.upd rfl ?_; refine Same.upd rfl ?_; refine Same.upd rfl ?_; refine Same.upd rfl ?_; refine Same.upd rfl ?_; refine Same.upd rfl ?_; refine Same.upd rfl ?_; refine Same.upd rfl ?_; refine Same.upd rfl ?_; refine Same.upd rfl ?_; exact Same.ovN)), bs.length - (k + 1), by omega, inferInstance, k + 1, rfl, rfl, by omega, fun j hj hjk => ?_⟩
          by_cases e : j = k
          · subst e; exact blk_yes ‹_› ‹_›
          · exact hpre j hj (by omega)
    · exact congrArg Value.bool (gal_yes ‹_› ‹_› fun j hj => hpre j hj (by omega))

theorem sumL_pre {bs : List Blk} (hb : ∀ b ∈ bs, 1 ≤ b.2 ∧ b.2 ≤ 20) (hl : bs.length ≤ 1000) (k : Nat) : 0 ≤ sumL (bs.take k) ∧ sumL (bs.take k) ≤ 20000 := by
  have := sumL_le (bs := bs.take k) fun b h => hb b (List.mem_of_mem_take h)
  have h2 : (bs.take k).length ≤ 1000 := by simp; omega
  omega
theorem total_ref (h : Int) (a : Option Addr) (c : Nat) (bs : List Blk) (w : World) [RowI w (.slice a bs.length c) true 2 (bs.map encB)] (hb : ∀ b ∈ bs, 1 ≤ b.2 ∧ b.2 ≤ 20) (hl : bs.length ≤ 1000) :
    Ct Tryz.prog 51 [.agg #[.int .i64 h, .slice a bs.length c]] w fun v _ => v = .int .i64 (sumL bs) := by
  refine Ct.ofW (by simp) ?_
  (refine jjB ?_; refine jjC ?_)
  (refine jy rfl ?_; intro b1 w_b1 hb_b1 hs_b1 hS_b1 hk_b1; have hA_b1 := At.ofBlock hk_b1)
  (apply jJ; exact eI rfl; refine jz ?_; refine jjB ?_; refine jjC ?_; apply jJ; exact eI rfl; refine jz ?_; refine jjB ?_; refine jjB ?_; refine jjC ?_; apply jJ; exact eI rfl; refine jz ?_; refine jjD ?_)
  refine W.loop (5 :: 6 :: 7 :: 8 :: 9 :: 12 :: 13 :: 14 :: 15 :: 16 :: 17 :: 18 :: 19 :: 3 :: 10 :: 11 :: 4 :: []) (fun g s' _ => ∃ k : Nat, s' 4 = .int .i64 k ∧ s' 3 = .int .i64 (sumL (bs.take k)) ∧ g = bs.length - k ∧ k ≤ bs.length) bs.length ⟨0, rfl, rfl, by omega, by omega⟩ ?_
  rintro _ d w' hS ⟨k, h4, h3, rfl, hk⟩
  refine W.fix h4 (W.fix (d := 3) h3 ?_)
  have hs := sumL_pre hb hl k
  repeat' (first|((first|apply jI|apply jJ); exact eI rfl)|(refine jM ?_; (first|refine jN rfl rfl rfl ?_|refine jP rfl rfl rfl ?_))|(refine jW ?_; refine jX rfl rfl ?_)|(refine jg ?_; refine jh rfl ?_)|(refine jm ?_; refine jn rfl ?_)|(refine jE ?_; (refine jF rfl rfl rfl (map_get (by omega)) ?_; intro _ _ _))|refine jz ?_|(refine jjA ?_; (first|refine jjB ?_|refine jjC ?_|refine jjD ?_|refine jjE ?_|refine jjF ?_|refine jjG ?_))|(refine jjA ?_; (refine jjN rfl ?_ ?_ <;> intro _))|refine jB rfl rfl ⟨inferInstance, ?_⟩)
  · have hk' : k < bs.length := by omega
    have h1 := hb bs[k] (List.getElem_mem hk')
    (refine jY rfl rfl (by omega) ?_; apply jJ; exact eI rfl; refine jz ?_; refine jjC ?_; apply jI; exact eI rfl; refine jY rfl rfl (by omega) ?_; apply jJ; exact eI rfl; refine jz ?_)
    exact ⟨rfl, by ((refine Same.upd rfl ?_; refine Same.upd rfl ?_; refine Same.upd rfl ?_; refine Same.upd rfl ?_; refine Same.upd rfl ?_; refine Same.upd rfl ?_; refine Same.upd rfl ?_; refine Same.upd rfl ?_; refine Same.upd rfl ?_; refine Same.upd rfl ?_; refine Same.upd rfl ?_; refine Same.upd rfl ?_; refine Same.upd rfl ?_; refine Same.upd rfl ?_; refine Same.upd rfl ?_; refine Same.upd rfl ?_; refine Same.upd rfl ?_; refine Same.upd rfl ?_; refine Same.upd rfl ?_; exact Same.ovN)), bs.length - (k + 1), by omega, inferInstance, k + 1, rfl, congrArg (Value.int .i64) (sumL_take_succ hk').symm, rfl, by omega⟩
  · exact congrArg (Value.int .i64) (by rw [List.take_of_length_le (by omega)])

theorem mayR_skip {bs : List Blk} {k : Nat} (hk : k < bs.length) {n p : Int} (h : ¬ n ≤ p + bs[k].2) : mayR n p (bs.drop k) = mayR n (p + bs[k].2) (bs.drop (k + 1)) := by
  rw [List.drop_eq_getElem_cons hk, mayR, if_neg h]
theorem mayR_here {bs : List Blk} {k : Nat} (hk : k < bs.length) {n p : Int} (h : n ≤ p + bs[k].2) : mayR n p (bs.drop k) = (decide (p < n) && endOk bs[k].2 (n - p)) := by
  rw [List.drop_eq_getElem_cons hk, mayR, if_pos h]

theorem may_1 {bs : List Blk} {k : Nat} {n p : Int} {r : Bool} (hm : r = mayR n p (bs.drop k)) (hk : k < bs.length) (h : n ≤ p + bs[k].2) (h1 : p < n) (h2 : n = p + bs[k].2) : true = r := by
  rw [hm, mayR_here hk h, decide_eq_true h1, endOk_eq (by omega)]; rfl
theorem may_2 {bs : List Blk} {k : Nat} {n p : Int} {r : Bool} (hm : r = mayR n p (bs.drop k)) (hk : k < bs.length) (h : n ≤ p + bs[k].2) (h1 : p < n) (h2 : ¬ n = p + bs[k].2) (h3 : 2 ≤ n - p) : decide (2 ≤ p + bs[k].2 - n) = r := by
  rw [hm, mayR_here hk h, decide_eq_true h1, endOk_ne (by omega)]
  simp only [tearsB, Bool.true_and, decide_eq_decide]; omega
theorem may_3 {bs : List Blk} {k : Nat} {n p : Int} {r : Bool} (hm : r = mayR n p (bs.drop k)) (hk : k < bs.length) (h : n ≤ p + bs[k].2) (h1 : p < n) (h2 : ¬ n = p + bs[k].2) (h3 : ¬ 2 ≤ n - p) : false = r := by
  rw [hm, mayR_here hk h, decide_eq_true h1, endOk_ne (by omega)]
  simp only [tearsB, Bool.true_and, Bool.false_eq, decide_eq_false_iff_not]; omega
theorem may_4 {bs : List Blk} {k : Nat} {n p : Int} {r : Bool} (hm : r = mayR n p (bs.drop k)) (hk : k < bs.length) (h : n ≤ p + bs[k].2) (h1 : ¬ p < n) : false = r := by
  rw [hm, mayR_here hk h, decide_eq_false h1]; rfl
theorem may_ref (h n : Int) (a : Option Addr) (c : Nat) (bs : List Blk) (w : World) [RowI w (.slice a bs.length c) true 2 (bs.map encB)] (hb : ∀ b ∈ bs, 1 ≤ b.2 ∧ b.2 ≤ 20) (hl : bs.length ≤ 1000) (hn : -1000000 ≤ n ∧ n ≤ 1000000) :
    Ct Tryz.prog 52 [.agg #[.int .i64 h, .slice a bs.length c], .int .i64 n] w fun v _ => v = .bool (mayR n 0 bs) := by
  refine Ct.ofW (by simp) ?_
  (refine jjB ?_; refine jjC ?_)
  (refine jy rfl ?_; intro b1 w_b1 hb_b1 hs_b1 hS_b1 hk_b1; have hA_b1 := At.ofBlock hk_b1)
  (apply jJ; exact eB rfl; refine jz ?_; refine jjB ?_; refine jjC ?_; apply jJ; exact eI rfl; refine jz ?_; refine jjB ?_; refine jjB ?_; refine jjC ?_; apply jJ; exact eI rfl; refine jz ?_; refine jjD ?_)
  refine W.loop (8 :: 9 :: 10 :: 11 :: 12 :: 15 :: 16 :: 17 :: 18 :: 19 :: 20 :: 7 :: 21 :: 22 :: 23 :: 24 :: 25 :: 26 :: 27 :: 28 :: 29 :: 30 :: 31 :: 32 :: 33 :: 34 :: 35 :: 36 :: 37 :: 38 :: 39 :: 40 :: 41 :: 42 :: 43 :: 44 :: 45 :: 46 :: 47 :: 48 :: 49 :: 4 :: 50 :: 51 :: 52 :: 5 :: 13 :: 14 :: 6 :: []) (fun g s' _ => ∃ k : Nat, s' 6 = .int .i64 k ∧ s' 5 = .int .i64 (sumL (bs.take k)) ∧ g = bs.length - k ∧ k ≤ bs.length ∧ mayR n 0 bs = mayR n (sumL (bs.take k)) (bs.drop k)) bs.length ⟨0, rfl, rfl, by omega, by omega, rfl⟩ ?_
  rintro _ d w' hS ⟨k, h6, h5, rfl, hk, hm⟩
  refine W.fix h6 (W.fix (d := 5) h5 ?_)
  have hs := sumL_pre hb hl k
  repeat' (first|((first|apply jI|apply jJ); (first|exact eI rfl|exact eB rfl))|(refine jM ?_; (first|refine jN rfl rfl rfl ?_|refine jP rfl rfl rfl ?_))|(refine jW ?_; refine jX rfl rfl ?_)|(refine jg ?_; refine jh rfl ?_)|(refine jm ?_; refine jn rfl ?_)|(refine jE ?_; (refine jF rfl rfl rfl (map_get (by omega)) ?_; intro _ _ _))|refine jz ?_|(refine jjA ?_; (first|refine jjB ?_|refine jjC ?_|refine jjD ?_|refine jjE ?_|refine jjF ?_|refine jjG ?_))|(refine jjA ?_; (refine jjN rfl ?_ ?_ <;> intro _))|refine jB rfl rfl ⟨inferInstance, ?_⟩)
  · have hk' : k < bs.length := by omega
    have h1 := hb bs[k] (List.getElem_mem hk')
    repeat' (first|((first|apply jI|apply jJ|apply jK rfl|apply jL rfl); (first|exact eI rfl|exact eB rfl))|(refine jS ?_; (first|refine jT rfl rfl rfl ?_|refine jU rfl rfl rfl rfl ?_|refine jV rfl rfl ?_))|(refine jW ?_; (first|refine jY rfl rfl (by omega) ?_|refine jZ rfl rfl (by omega) ?_|refine jb rfl rfl ?_|refine jd rfl rfl ?_|refine je rfl rfl ?_|refine jf rfl rfl ?_))|refine jz ?_|(refine jjA ?_; (first|refine jjB ?_|refine jjC ?_|refine jjF ?_|refine jjG ?_))|(refine jS ?_; (refine jjL rfl rfl ?_ ?_ <;> intro _))|(refine jjA ?_; (refine jjN rfl ?_ ?_ <;> intro _))|refine jB rfl rfl ⟨inferInstance, ?_⟩)
    · exact congrArg Value.bool (may_1 hm hk' ‹_› ‹_› ‹_›)
    · exact congrArg Value.bool (may_2 hm hk' ‹_› ‹_› ‹_› ‹_›)
    · exact congrArg Value.bool (may_3 hm hk' ‹_› ‹_› ‹_› ‹_›)
    · exact congrArg Value.bool (may_4 hm hk' ‹_› ‹_›)
    · refine ⟨rfl, by ((refine Same.upd rfl ?_; refine Same.upd rfl ?_; refine Same.upd rfl ?_; refine Same.upd rfl ?_; refine Same.upd rfl ?_; refine Same.upd rfl ?_; refine Same.upd rfl ?_; refine Same.upd rfl ?_; refine Same.upd rfl ?_; refine Same.upd rfl ?_; refine Same.upd rfl ?_; refine Same.upd rfl ?_; refine Same.upd rfl ?_; refine Same.upd rfl ?_; refine Same.upd rfl ?_; refine Same.upd rfl ?_; refine Same.upd rfl ?_; refine Same.upd rfl ?_; refine Same.upd rfl ?_; refine Same.upd rfl ?_; refine Same.upd rfl ?_; refine Same.upd rfl ?_; refine Same.upd rfl ?_; refine Same.upd rfl ?_; refine Same.upd rfl ?_; refine Same.upd rfl ?_; exact Same.ovN)), bs.length - (k + 1), by omega, inferInstance, k + 1, rfl, congrArg (Value.int .i64) (sumL_take_succ hk').symm, rfl, by omega, ?_⟩
      rw [hm, mayR_skip hk' ‹_›, sumL_take_succ hk']
  · rw [hm, List.drop_eq_nil_of_le (by omega)]; exact rfl
end Go.Proofs.YtfebegbjggoijaaGreatDoor

/- The reference of galley: Check, Total, ends, Ends, ended, column. -/
namespace Go.Proofs.YtfebegbjggoijaaGreatDoor
open Go.RowKit

section
variable (h : Int) (a : Option Addr) (c : Nat) (bs : List Blk) (w : World) [RowI w (.slice a bs.length c) true 2 (bs.map encB)]

end
end Go.Proofs.YtfebegbjggoijaaGreatDoor

/- The reference of galley: Valid. -/
namespace Go.Proofs.YtfebegbjggoijaaGreatDoor
open Go.RowKit

section
variable (h : Int) (a : Option Addr) (c : Nat) (bs : List Blk) (la : Option Addr) (lc : Nat) (l : List Int) (w : World) [RowI w (.slice a bs.length c) true 2 (bs.map encB)] [hl : RowI w (.slice la l.length lc) false 1 (l.map intV)]

set_option maxHeartbeats 1000000 in
theorem Valid_ref (hh : 0 ≤ h ∧ h ≤ 1000) (hb : ∀ b ∈ bs, 1 ≤ b.2 ∧ b.2 ≤ 20) (hbl : bs.length ≤ 1000) : Ct Tryz.prog 17 [.agg #[.int .i64 h, .slice a bs.length c], .slice la l.length lc] w fun v _ => v = .bool (validB h bs l) := by
  have hll := hl.h.len
  simp only [List.length_map] at hll
  have hsl := sumL_le hb
  refine Ct.ofW (by simp) ?_
  (refine jjB ?_; refine jjC ?_)
  (refine jy rfl ?_; intro b2 w_b2 hb_b2 hs_b2 hS_b2 hk_b2; have hA_b2 := At.ofBlock hk_b2)
  (apply jJ; exact eB rfl; refine jz ?_; refine jjB ?_; refine jjC ?_; apply jJ; exact eI rfl; refine jz ?_; refine jjB ?_; refine jjB ?_; refine jjC ?_; apply jJ; exact eI rfl; refine jz ?_; refine jjD ?_)
  refine W.loop (7 :: 8 :: 9 :: 10 :: 13 :: 14 :: 15 :: 16 :: 17 :: 18 :: 19 :: 20 :: 21 :: 22 :: 23 :: 24 :: 25 :: 26 :: 27 :: 28 :: 29 :: 30 :: 31 :: 32 :: 33 :: 34 :: 35 :: 36 :: 37 :: 38 :: 39 :: 40 :: 41 :: 42 :: 43 :: 44 :: 45 :: 46 :: 47 :: 4 :: 48 :: 49 :: 50 :: 51 :: 5 :: 11 :: 12 :: 6 :: []) (fun g s' _ => ∃ k : Nat, s' 6 = .int .i64 k ∧ s' 5 = .int .i64 (prevD l k) ∧ g = l.length - k ∧ k ≤ l.length ∧ ∀ j, j < k → stepB h bs l j = true) l.length ⟨0, rfl, rfl, rfl, Nat.zero_le _, by intros; omega⟩ ?_
  rintro _ d w' hS ⟨k, h6, h5, rfl, hk, hpre⟩
  refine W.fix h6 (W.fix (d := 5) h5 ?_)
  clear h6 h5
  have hpb : 0 ≤ prevD l k ∧ prevD l k ≤ sumL bs := by
    cases k with
    | zero => exact ⟨Int.le_refl _, hsl.1⟩
    | succ k =>
      have := hpre k (by omega)
      simp only [stepB, Bool.and_eq_true] at this
      have := may_in hb this.1
      simp only [prevD]; omega
  repeat' (first|(apply jI; (first|exact eI rfl|exact eS rfl))|(refine jM ?_; refine jO rfl rfl rfl rfl ?_)|(refine jW ?_; refine jX rfl rfl ?_)|(refine jg ?_; refine jh rfl ?_)|refine jz ?_|(refine jjA ?_; (first|refine jjB ?_|refine jjC ?_|refine jjD ?_|refine jjE ?_|refine jjG ?_))|(refine jjA ?_; (refine jjN rfl ?_ ?_ <;> intro _)))
  · have hk' : k < l.length := by omega
    have hgk := getD_lt hk'
    refine W.draw (fun w'' => Ext w' w'') ?_
    intro V1 hS1
    obtain ⟨q1, o1, rfl, hA1⟩ := (hl.h.ext ((inferInstance : Ext w w_b2).trans hS.ext)).place' (map_get hk')
    rw [Nat.mul_one] at hA1
    have hno : stepB h bs l k = false → false = validB h bs l := fun e => (valid_no hk' e).symm
    by_cases c1 : l[k] ≤ prevD l k
    · refine jjV [0, 1, 2, 3, 4, 5, 6, 7, 8, 9, 10, 11, 12, 13, 14, 15, 16, 17, 18, 19, 20, 21, 22, 23, 24, 25, 26, 27, 28, 29, 30, 31, 32, 33, 34] (by decide +kernel) hS1.ext ?_
      (((apply jjT; exact rfl; rintro w' hq; have := hq.toStep; apply jI; exact eS rfl; refine jz ?_; exact ⟨rfl, rfl⟩; apply jjT; exact rfl; rintro w' hq; have := hq.toStep; apply jI; exact eI rfl; refine jz ?_; exact ⟨rfl, rfl⟩; apply jjT; exact rfl; rintro w' hq; have := hq.toStep; refine jG rfl rfl rfl (by omega) ?_; refine jz ?_; exact ⟨rfl, rfl⟩; apply jjT; exact rfl; rintro w' hq; have := hq.toStep; refine jQ rfl rfl ?_; refine jz ?_; exact ⟨rfl, rfl⟩; apply jjT; exact rfl; rintro w' hq; have := hq.toStep; apply jI; exact eI rfl; refine jz ?_; exact ⟨rfl, rfl⟩; apply jjT; exact rfl; rintro w' hq; have := hq.toStep; refine jjb rfl rfl (by omega) ?_; refine jz ?_; exact ⟨rfl, rfl⟩; apply jjT; exact rfl; rintro w' hq; have := hq.toStep; apply jI; exact eB rfl; refine jz ?_; exact ⟨rfl, rfl⟩; apply jjT; exact rfl; rintro w' hq; have := hq.toStep; refine jU rfl rfl rfl rfl ?_; refine jz ?_; exact ⟨rfl, rfl⟩; apply jjT; exact rfl; rintro w' hq; have := hq.toStep; refine jU rfl rfl rfl rfl ?_; refine jz ?_; exact ⟨rfl, rfl⟩; apply jjT; exact rfl; rintro w' hq; have := hq.toStep; refine jU rfl rfl rfl rfl ?_; refine jz ?_; exact ⟨rfl, rfl⟩; apply jjT; exact rfl; rintro w' hq; have := hq.toStep; refine jU rfl rfl rfl rfl ?_; refine jz ?_; exact ⟨rfl, rfl⟩; apply jjT; exact rfl; rintro w' hq; have := hq.toStep; refine jU rfl rfl rfl rfl ?_; refine jz ?_; exact ⟨rfl, rfl⟩; apply jjT; exact rfl; rintro w' hq; have := hq.toStep; refine jU rfl rfl rfl rfl ?_; refine jz ?_; exact ⟨rfl, rfl⟩; apply jjT; exact rfl; rintro w' hq; have := hq.toStep; refine jU rfl rfl rfl rfl ?_; refine jz ?_; exact ⟨rfl, rfl⟩; apply jjT; exact rfl; rintro w' hq; have := hq.toStep; apply jK rfl; exact eB rfl; refine jz ?_; exact ⟨rfl, rfl⟩; apply jjT; exact rfl; rintro w' hq; have := hq.toStep; apply jI; exact eB rfl; refine jz ?_; exact ⟨rfl, rfl⟩; apply jjT; exact rfl; rintro w' hq; have := hq.toStep; refine jU rfl rfl rfl rfl ?_; refine jz ?_; exact ⟨rfl, rfl⟩; apply jjT; exact rfl; rintro w' hq; have := hq.toStep; refine jU rfl rfl rfl rfl ?_; refine jz ?_; exact ⟨rfl, rfl⟩; apply jjT; exact rfl; rintro w' hq; have := hq.toStep; refine jU rfl rfl rfl rfl ?_; refine jz ?_; exact ⟨rfl, rfl⟩; apply jjT; exact rfl; rintro w' hq; have := hq.toStep; refine jU rfl rfl rfl rfl ?_; refine jz ?_; exact ⟨rfl, rfl⟩; apply jjT; exact rfl; rintro w' hq; have := hq.toStep; refine jU rfl rfl rfl rfl ?_; refine jz ?_; exact ⟨rfl, rfl⟩; apply jjT; exact rfl; rintro w' hq; have := hq.toStep; refine jU rfl rfl rfl rfl ?_; refine jz ?_; exact ⟨rfl, rfl⟩; apply jjT; exact rfl; rintro w' hq; have := hq.toStep; refine jU rfl rfl rfl rfl ?_; refine jz ?_; exact ⟨rfl, rfl⟩; apply jjT; exact rfl; rintro w' hq; have := hq.toStep; refine jU rfl rfl rfl rfl ?_; refine jz ?_; exact ⟨rfl, rfl⟩; apply jjT; exact rfl; rintro w' hq; have := hq.toStep; refine jU rfl rfl rfl rfl ?_; refine jz ?_; exact ⟨rfl, rfl⟩; apply jjT; exact rfl; rintro w' hq; have := hq.toStep; apply jK rfl; exact eB rfl; refine jz ?_; exact ⟨rfl, rfl⟩; apply jjT; exact rfl; rintro w' hq; have := hq.toStep; apply jI; exact eB rfl; refine jz ?_; exact ⟨rfl, rfl⟩; apply jjT; exact rfl; rintro w' hq; have := hq.toStep; refine jU rfl rfl rfl rfl ?_; refine jz ?_; exact ⟨rfl, rfl⟩; apply jjT; exact rfl; rintro w' hq; have := hq.toStep; refine jU rfl rfl rfl rfl ?_; refine jz ?_; exact ⟨rfl, rfl⟩; apply jjT; exact rfl; rintro w' hq; have := hq.toStep; refine jU rfl rfl rfl rfl ?_; refine jz ?_; exact ⟨rfl, rfl⟩; apply jjT; exact rfl; rintro w' hq; have := hq.toStep; refine jU rfl rfl rfl rfl ?_; refine jz ?_; exact ⟨rfl, rfl⟩; apply jjT; exact rfl; rintro w' hq; have := hq.toStep; refine jU rfl rfl rfl rfl ?_; refine jz ?_; exact ⟨rfl, rfl⟩; apply jjT; exact rfl; rintro w' hq; have := hq.toStep; refine jU rfl rfl rfl rfl ?_; refine jz ?_; exact ⟨rfl, rfl⟩; apply jjT; exact rfl; rintro w' hq; have := hq.toStep; refine jU rfl rfl rfl rfl ?_; refine jz ?_; exact ⟨rfl, rfl⟩; apply jjT; exact rfl; rintro w' hq; have := hq.toStep; apply jK rfl; exact eB rfl; refine jz ?_; exact ⟨rfl, rfl⟩; refine jjU ?_)))
      refine jjX (by decide +kernel) hS1.ext ?_
      (refine jjJ rfl ?_; refine jjB ?_; refine jjC ?_; apply jJ; exact eB rfl; refine jz ?_; refine jjF ?_; refine jB rfl rfl ⟨inferInstance, ?_⟩)
      exact congrArg Value.bool (hno (by rw [stepB, hgk, decide_eq_false (by omega), Bool.and_false]))
    · refine jjV [0, 1, 2, 3, 4, 5, 6, 7, 8, 9, 10, 11] (by decide +kernel) hS1.ext ?_
      (((apply jjT; exact rfl; rintro w' hq; have := hq.toStep; apply jI; exact eS rfl; refine jz ?_; exact ⟨rfl, rfl⟩; apply jjT; exact rfl; rintro w' hq; have := hq.toStep; apply jI; exact eI rfl; refine jz ?_; exact ⟨rfl, rfl⟩; apply jjT; exact rfl; rintro w' hq; have := hq.toStep; refine jG rfl rfl rfl (by omega) ?_; refine jz ?_; exact ⟨rfl, rfl⟩; apply jjT; exact rfl; rintro w' hq; have := hq.toStep; refine jQ rfl rfl ?_; refine jz ?_; exact ⟨rfl, rfl⟩; apply jjT; exact rfl; rintro w' hq; have := hq.toStep; apply jI; exact eI rfl; refine jz ?_; exact ⟨rfl, rfl⟩; apply jjT; exact rfl; rintro w' hq; have := hq.toStep; refine jjc rfl rfl (by omega) ?_; refine jz ?_; exact ⟨rfl, rfl⟩; apply jjT; exact rfl; rintro w' hq; have := hq.toStep; apply jI; exact eB rfl; refine jz ?_; exact ⟨rfl, rfl⟩; apply jjT; exact rfl; rintro w' hq; have := hq.toStep; refine jT rfl rfl rfl ?_; apply jI; exact eS rfl; refine jz ?_; exact ⟨rfl, rfl⟩; apply jjT; exact rfl; rintro w' hq; have := hq.toStep; refine jT rfl rfl rfl ?_; apply jI; exact eI rfl; refine jz ?_; exact ⟨rfl, rfl⟩; apply jjT; exact rfl; rintro w' hq; have := hq.toStep; refine jT rfl rfl rfl ?_; refine jG rfl rfl rfl (by omega) ?_; refine jz ?_; exact ⟨rfl, rfl⟩; apply jjT; exact rfl; rintro w' hq; have := hq.toStep; refine jT rfl rfl rfl ?_; refine jQ rfl rfl ?_; refine jz ?_; exact ⟨rfl, rfl⟩; apply jjT; exact rfl; rintro w' hq; have := hq.toStep; refine jT rfl rfl rfl ?_; refine jO rfl rfl rfl rfl ?_; refine jz ?_; exact ⟨rfl, rfl⟩; refine jjU ?_)))
      apply jjW 12 (by decide +kernel) rfl hS1.ext
      (refine jT rfl rfl rfl ?_)
      refine jjQ (total_ref h a c bs _ hb hbl) rfl rfl ?_
      rintro _ V2 hS2 rfl
      have hE2 := hS1.ext.trans hS2.ext
      refine jz ?_
      by_cases c2 : sumL bs < l[k]
      · refine jjV [13, 14, 15, 16, 17, 18, 19, 20, 21, 22, 23, 24, 25, 26, 27, 28, 29, 30, 31, 32, 33, 34] (by decide +kernel) hE2 ?_
        (((apply jjT; exact rfl; rintro w' hq; have := hq.toStep; refine jT rfl rfl rfl ?_; refine jjd rfl rfl (by omega) ?_; refine jz ?_; exact ⟨rfl, rfl⟩; apply jjT; exact rfl; rintro w' hq; have := hq.toStep; apply jL rfl; exact eB rfl; refine jz ?_; exact ⟨rfl, rfl⟩; apply jjT; exact rfl; rintro w' hq; have := hq.toStep; apply jI; exact eB rfl; refine jz ?_; exact ⟨rfl, rfl⟩; apply jjT; exact rfl; rintro w' hq; have := hq.toStep; refine jU rfl rfl rfl rfl ?_; refine jz ?_; exact ⟨rfl, rfl⟩; apply jjT; exact rfl; rintro w' hq; have := hq.toStep; refine jU rfl rfl rfl rfl ?_; refine jz ?_; exact ⟨rfl, rfl⟩; apply jjT; exact rfl; rintro w' hq; have := hq.toStep; refine jU rfl rfl rfl rfl ?_; refine jz ?_; exact ⟨rfl, rfl⟩; apply jjT; exact rfl; rintro w' hq; have := hq.toStep; refine jU rfl rfl rfl rfl ?_; refine jz ?_; exact ⟨rfl, rfl⟩; apply jjT; exact rfl; rintro w' hq; have := hq.toStep; refine jU rfl rfl rfl rfl ?_; refine jz ?_; exact ⟨rfl, rfl⟩; apply jjT; exact rfl; rintro w' hq; have := hq.toStep; refine jU rfl rfl rfl rfl ?_; refine jz ?_; exact ⟨rfl, rfl⟩; apply jjT; exact rfl; rintro w' hq; have := hq.toStep; refine jU rfl rfl rfl rfl ?_; refine jz ?_; exact ⟨rfl, rfl⟩; apply jjT; exact rfl; rintro w' hq; have := hq.toStep; refine jU rfl rfl rfl rfl ?_; refine jz ?_; exact ⟨rfl, rfl⟩; apply jjT; exact rfl; rintro w' hq; have := hq.toStep; refine jU rfl rfl rfl rfl ?_; refine jz ?_; exact ⟨rfl, rfl⟩; apply jjT; exact rfl; rintro w' hq; have := hq.toStep; apply jK rfl; exact eB rfl; refine jz ?_; exact ⟨rfl, rfl⟩; apply jjT; exact rfl; rintro w' hq; have := hq.toStep; apply jI; exact eB rfl; refine jz ?_; exact ⟨rfl, rfl⟩; apply jjT; exact rfl; rintro w' hq; have := hq.toStep; refine jU rfl rfl rfl rfl ?_; refine jz ?_; exact ⟨rfl, rfl⟩; apply jjT; exact rfl; rintro w' hq; have := hq.toStep; refine jU rfl rfl rfl rfl ?_; refine jz ?_; exact ⟨rfl, rfl⟩; apply jjT; exact rfl; rintro w' hq; have := hq.toStep; refine jU rfl rfl rfl rfl ?_; refine jz ?_; exact ⟨rfl, rfl⟩; apply jjT; exact rfl; rintro w' hq; have := hq.toStep; refine jU rfl rfl rfl rfl ?_; refine jz ?_; exact ⟨rfl, rfl⟩; apply jjT; exact rfl; rintro w' hq; have := hq.toStep; refine jU rfl rfl rfl rfl ?_; refine jz ?_; exact ⟨rfl, rfl⟩; apply jjT; exact rfl; rintro w' hq; have := hq.toStep; refine jU rfl rfl rfl rfl ?_; refine jz ?_; exact ⟨rfl, rfl⟩; apply jjT; exact rfl; rintro w' hq; have := hq.toStep; refine jU rfl rfl rfl rfl ?_; refine jz ?_; exact ⟨rfl, rfl⟩; apply jjT; exact rfl; rintro w' hq; have := hq.toStep; apply jK rfl; exact eB rfl; refine jz ?_; exact ⟨rfl, rfl⟩; refine jjU ?_)))
        refine jjX (by decide +kernel) hE2 ?_
        (refine jjJ rfl ?_; refine jjB ?_; refine jjC ?_; apply jJ; exact eB rfl; refine jz ?_; refine jjF ?_; refine jB rfl rfl ⟨inferInstance, ?_⟩)
        exact congrArg Value.bool (hno (by rw [stepB, hgk, mayR_high hb (by omega), Bool.false_and]))
      · by_cases c3 : h < l[k] - prevD l k
        · refine jjV [13, 14, 15, 16, 17, 18, 19, 20, 21, 22, 23, 24, 25, 26, 27, 28, 29, 30, 31, 32, 33, 34] (by decide +kernel) hE2 ?_
          (((apply jjT; exact rfl; rintro w' hq; have := hq.toStep; refine jT rfl rfl rfl ?_; refine jje rfl rfl (by omega) ?_; refine jz ?_; exact ⟨rfl, rfl⟩; apply jjT; exact rfl; rintro w' hq; have := hq.toStep; apply jL rfl; exact eB rfl; refine jz ?_; exact ⟨rfl, rfl⟩; apply jjT; exact rfl; rintro w' hq; have := hq.toStep; apply jI; exact eB rfl; refine jz ?_; exact ⟨rfl, rfl⟩; apply jjT; exact rfl; rintro w' hq; have := hq.toStep; refine jT rfl rfl rfl ?_; apply jI; exact eS rfl; refine jz ?_; exact ⟨rfl, rfl⟩; apply jjT; exact rfl; rintro w' hq; have := hq.toStep; refine jT rfl rfl rfl ?_; apply jI; exact eI rfl; refine jz ?_; exact ⟨rfl, rfl⟩; apply jjT; exact rfl; rintro w' hq; have := hq.toStep; refine jT rfl rfl rfl ?_; refine jG rfl rfl rfl (by omega) ?_; refine jz ?_; exact ⟨rfl, rfl⟩; apply jjT; exact rfl; rintro w' hq; have := hq.toStep; refine jT rfl rfl rfl ?_; refine jQ rfl rfl ?_; refine jz ?_; exact ⟨rfl, rfl⟩; apply jjT; exact rfl; rintro w' hq; have := hq.toStep; refine jT rfl rfl rfl ?_; apply jI; exact eI rfl; refine jz ?_; exact ⟨rfl, rfl⟩; apply jjT; exact rfl; rintro w' hq; have := hq.toStep; refine jT rfl rfl rfl ?_; refine jZ rfl rfl (by omega) ?_; refine jz ?_; exact ⟨rfl, rfl⟩; apply jjT; exact rfl; rintro w' hq; have := hq.toStep; refine jT rfl rfl rfl ?_; refine jm ?_; refine jn rfl ?_; refine jz ?_; exact ⟨rfl, rfl⟩; apply jjT; exact rfl; rintro w' hq; have := hq.toStep; refine jT rfl rfl rfl ?_; refine jN rfl rfl rfl ?_; refine jz ?_; exact ⟨rfl, rfl⟩; apply jjT; exact rfl; rintro w' hq; have := hq.toStep; refine jT rfl rfl rfl ?_; refine jjd rfl rfl (by omega) ?_; refine jz ?_; exact ⟨rfl, rfl⟩; apply jjT; exact rfl; rintro w' hq; have := hq.toStep; apply jL rfl; exact eB rfl; refine jz ?_; exact ⟨rfl, rfl⟩; apply jjT; exact rfl; rintro w' hq; have := hq.toStep; apply jI; exact eB rfl; refine jz ?_; exact ⟨rfl, rfl⟩; apply jjT; exact rfl; rintro w' hq; have := hq.toStep; refine jU rfl rfl rfl rfl ?_; refine jz ?_; exact ⟨rfl, rfl⟩; apply jjT; exact rfl; rintro w' hq; have := hq.toStep; refine jU rfl rfl rfl rfl ?_; refine jz ?_; exact ⟨rfl, rfl⟩; apply jjT; exact rfl; rintro w' hq; have := hq.toStep; refine jU rfl rfl rfl rfl ?_; refine jz ?_; exact ⟨rfl, rfl⟩; apply jjT; exact rfl; rintro w' hq; have := hq.toStep; refine jU rfl rfl rfl rfl ?_; refine jz ?_; exact ⟨rfl, rfl⟩; apply jjT; exact rfl; rintro w' hq; have := hq.toStep; refine jU rfl rfl rfl rfl ?_; refine jz ?_; exact ⟨rfl, rfl⟩; apply jjT; exact rfl; rintro w' hq; have := hq.toStep; refine jU rfl rfl rfl rfl ?_; refine jz ?_; exact ⟨rfl, rfl⟩; apply jjT; exact rfl; rintro w' hq; have := hq.toStep; refine jU rfl rfl rfl rfl ?_; refine jz ?_; exact ⟨rfl, rfl⟩; apply jjT; exact rfl; rintro w' hq; have := hq.toStep; apply jK rfl; exact eB rfl; refine jz ?_; exact ⟨rfl, rfl⟩; refine jjU ?_)))
          refine jjX (by decide +kernel) hE2 ?_
          (refine jjJ rfl ?_; refine jjB ?_; refine jjC ?_; apply jJ; exact eB rfl; refine jz ?_; refine jjF ?_; refine jB rfl rfl ⟨inferInstance, ?_⟩)
          exact congrArg Value.bool (hno (by rw [stepB, hgk, decide_eq_false (by omega), Bool.and_false]))
        · refine jjV [13, 14, 15, 16, 17, 18, 19, 20, 21, 22, 23, 24, 25, 26, 27, 28, 29, 30, 31] (by decide +kernel) hE2 ?_
          (((apply jjT; exact rfl; rintro w' hq; have := hq.toStep; refine jT rfl rfl rfl ?_; refine jje rfl rfl (by omega) ?_; refine jz ?_; exact ⟨rfl, rfl⟩; apply jjT; exact rfl; rintro w' hq; have := hq.toStep; apply jL rfl; exact eB rfl; refine jz ?_; exact ⟨rfl, rfl⟩; apply jjT; exact rfl; rintro w' hq; have := hq.toStep; apply jI; exact eB rfl; refine jz ?_; exact ⟨rfl, rfl⟩; apply jjT; exact rfl; rintro w' hq; have := hq.toStep; refine jT rfl rfl rfl ?_; apply jI; exact eS rfl; refine jz ?_; exact ⟨rfl, rfl⟩; apply jjT; exact rfl; rintro w' hq; have := hq.toStep; refine jT rfl rfl rfl ?_; apply jI; exact eI rfl; refine jz ?_; exact ⟨rfl, rfl⟩; apply jjT; exact rfl; rintro w' hq; have := hq.toStep; refine jT rfl rfl rfl ?_; refine jG rfl rfl rfl (by omega) ?_; refine jz ?_; exact ⟨rfl, rfl⟩; apply jjT; exact rfl; rintro w' hq; have := hq.toStep; refine jT rfl rfl rfl ?_; refine jQ rfl rfl ?_; refine jz ?_; exact ⟨rfl, rfl⟩; apply jjT; exact rfl; rintro w' hq; have := hq.toStep; refine jT rfl rfl rfl ?_; apply jI; exact eI rfl; refine jz ?_; exact ⟨rfl, rfl⟩; apply jjT; exact rfl; rintro w' hq; have := hq.toStep; refine jT rfl rfl rfl ?_; refine jZ rfl rfl (by omega) ?_; refine jz ?_; exact ⟨rfl, rfl⟩; apply jjT; exact rfl; rintro w' hq; have := hq.toStep; refine jT rfl rfl rfl ?_; refine jm ?_; refine jn rfl ?_; refine jz ?_; exact ⟨rfl, rfl⟩; apply jjT; exact rfl; rintro w' hq; have := hq.toStep; refine jT rfl rfl rfl ?_; refine jN rfl rfl rfl ?_; refine jz ?_; exact ⟨rfl, rfl⟩; apply jjT; exact rfl; rintro w' hq; have := hq.toStep; refine jT rfl rfl rfl ?_; refine jje rfl rfl (by omega) ?_; refine jz ?_; exact ⟨rfl, rfl⟩; apply jjT; exact rfl; rintro w' hq; have := hq.toStep; apply jL rfl; exact eB rfl; refine jz ?_; exact ⟨rfl, rfl⟩; apply jjT; exact rfl; rintro w' hq; have := hq.toStep; apply jI; exact eB rfl; refine jz ?_; exact ⟨rfl, rfl⟩; apply jjT; exact rfl; rintro w' hq; have := hq.toStep; refine jT rfl rfl rfl ?_; refine jO rfl rfl rfl rfl ?_; refine jz ?_; exact ⟨rfl, rfl⟩; apply jjT; exact rfl; rintro w' hq; have := hq.toStep; refine jT rfl rfl rfl ?_; apply jI; exact eS rfl; refine jz ?_; exact ⟨rfl, rfl⟩; apply jjT; exact rfl; rintro w' hq; have := hq.toStep; refine jT rfl rfl rfl ?_; apply jI; exact eI rfl; refine jz ?_; exact ⟨rfl, rfl⟩; apply jjT; exact rfl; rintro w' hq; have := hq.toStep; refine jT rfl rfl rfl ?_; refine jG rfl rfl rfl (by omega) ?_; refine jz ?_; exact ⟨rfl, rfl⟩; apply jjT; exact rfl; rintro w' hq; have := hq.toStep; refine jT rfl rfl rfl ?_; refine jQ rfl rfl ?_; refine jz ?_; exact ⟨rfl, rfl⟩; refine jjU ?_)))
          apply jjW 32 (by decide +kernel) rfl hE2
          (refine jT rfl rfl rfl ?_)
          refine jjQ (may_ref h l[k] a c bs _ hb hbl (by omega)) rfl rfl ?_
          rintro _ V3 hS3 rfl
          have hE3 := hE2.trans hS3.ext
          refine jz ?_
          refine jjV [33, 34] (by decide +kernel) hE3 ?_
          (((apply jjT; exact rfl; rintro w' hq; have := hq.toStep; refine jT rfl rfl rfl ?_; refine js rfl ?_; refine jz ?_; exact ⟨rfl, rfl⟩; apply jjT; exact rfl; rintro w' hq; have := hq.toStep; apply jL rfl; exact eB rfl; refine jz ?_; exact ⟨rfl, rfl⟩; refine jjU ?_)))
          refine jjX (by decide +kernel) hE3 ?_
          repeat' (first|((first|apply jI|apply jJ); (first|exact eI rfl|exact eB rfl|exact eS rfl))|(refine jM ?_; refine jQ rfl rfl ?_)|(refine jW ?_; refine jY rfl rfl (by omega) ?_)|(refine jE ?_; (refine jF rfl rfl rfl (map_get (by omega)) ?_; intro _ _ _))|refine jz ?_|(refine jjA ?_; (first|refine jjB ?_|refine jjC ?_|refine jjF ?_|refine jjG ?_))|(refine jjA ?_; (refine jjO rfl ?_ ?_ <;> intro _))|refine jB rfl rfl ⟨inferInstance, ?_⟩)
          · have e : mayR l[k] 0 bs = false := by simpa using ‹(!mayR l[k] 0 bs) = true›
            exact congrArg Value.bool (hno (by rw [stepB, hgk, e, Bool.false_and]))
          · have e : mayR l[k] 0 bs = true := by simpa using ‹(!mayR l[k] 0 bs) = false›
            have hcell : V3.cell? ⟨q1, o1 + k, none⟩ = some (intV l[k]) := by
              have := (hA1.ext hE3).h 0 (intV l[k]) rfl
              simpa using this
            have := hcell
            skip
            refine ⟨rfl, by ((refine Same.upd rfl ?_; refine Same.upd rfl ?_; refine Same.upd rfl ?_; refine Same.upd rfl ?_; refine Same.upd rfl ?_; refine Same.upd rfl ?_; refine Same.upd rfl ?_; refine Same.upd rfl ?_; refine Same.upd rfl ?_; refine Same.upd rfl ?_; refine Same.upd rfl ?_; refine Same.upd rfl ?_; refine Same.upd rfl ?_; refine Same.upd rfl ?_; refine Same.upd rfl ?_; refine Same.upd rfl ?_; refine Same.upd rfl ?_; refine Same.upd rfl ?_; refine Same.upd rfl ?_; refine Same.upd rfl ?_; refine Same.upd rfl ?_; refine Same.upd rfl ?_; refine Same.upd rfl ?_; refine Same.upd rfl ?_; refine Same.upd rfl ?_; refine Same.upd rfl ?_; refine Same.upd rfl ?_; refine Same.upd rfl ?_; refine Same.upd rfl ?_; refine Same.upd rfl ?_; refine Same.upd rfl ?_; refine Same.upd rfl ?_; refine Same.upd rfl ?_; refine Same.upd rfl ?_; refine Same.upd rfl ?_; refine Same.upd rfl ?_; refine Same.upd rfl ?_; refine Same.upd rfl ?_; refine Same.upd rfl ?_; refine Same.upd rfl ?_; refine Same.upd rfl ?_; refine Same.upd rfl ?_; refine Same.upd rfl ?_; refine Same.upd rfl ?_; refine Same.upd rfl ?_; refine Same.upd rfl ?_; refine Same.upd rfl ?_; refine Same.upd rfl ?_; refine Same.upd rfl ?_; exact Same.ovN)), l.length - (k + 1), by omega, inferInstance, k + 1, congrArg (Value.int .i64) (by omega), congrArg (Value.int .i64) (by simp only [prevD]; exact hgk.symm), rfl, by omega, fun j hj => ?_⟩
            by_cases ej : j = k
            · subst ej
              rw [stepB, hgk, e, decide_eq_true (by omega)]; rfl
            · exact hpre j (by omega)
  · have hke : k = l.length := by omega
    subst hke
    refine jjQ (total_ref h a c bs _ hb hbl) rfl rfl ?_
    rintro _ V3 hS3 rfl
    (refine jb rfl rfl ?_; apply jJ; exact eB rfl; refine jz ?_; refine jjF ?_; refine jB rfl rfl ⟨inferInstance, ?_⟩)
    refine congrArg Value.bool ?_
    by_cases e : prevD l l.length = sumL bs
    · rw [decide_eq_true e, valid_yes hpre e]
    · rw [decide_eq_false e, valid_end e]
end
end Go.Proofs.YtfebegbjggoijaaGreatDoor

/- The references: lists of numbers that are the same. -/
namespace Go.Proofs.YtfebegbjggoijaaGreatDoor
open Go.RowKit

theorem RowV.place {w : World} {agg : Bool} {k l c j : Nat} {a : Option Addr} {xs : List Value} {x : Value} (h : RowV w agg k (.slice a l c) xs) (hj : xs[j]? = some x) : ∃ b o, a = some ⟨b, o, none⟩ ∧ At w b (o + j * k) x.cells.toList := by
  rcases h.at_ with ⟨rfl, _⟩ | ⟨b, o, c', hv, hl, hc⟩
  · simp at hj
  · simp only [Value.slice.injEq] at hv
    exact ⟨b, o, hv.1, hc j x hj⟩
theorem list_ne_len {α : Type} {xs ys : List α} (h : xs.length ≠ ys.length) : xs ≠ ys := fun e => h (by rw [e])
theorem list_ne_get {α : Type} {xs ys : List α} {k : Nat} (hk : k < xs.length) (hk' : k < ys.length) (h : xs[k] ≠ ys[k]) : xs ≠ ys := fun e => by subst e; exact h rfl
theorem list_eq_get {α : Type} {xs ys : List α} (hl : xs.length = ys.length) (h : ∀ k (h1 : k < xs.length) (h2 : k < ys.length), xs[k] = ys[k]) : xs = ys := List.ext_getElem hl h

theorem SameInts_ref (a1 a2 : Option Addr) (c1 c2 : Nat) (xs ys : List Int) (w : World) [h1 : RowI w (.slice a1 xs.length c1) false 1 (xs.map intV)] [h2 : RowI w (.slice a2 ys.length c2) false 1 (ys.map intV)] :
    Ct Tryz.prog 61 [.slice a1 xs.length c1, .slice a2 ys.length c2] w fun v _ => v = .bool (decide (xs = ys)) := by
  have hl1 := h1.h.len
  simp only [List.length_map] at hl1
  refine Ct.ofW (by simp) ?_
  repeat' (first|((first|apply jI|apply jJ); (first|exact eI rfl|exact eB rfl|exact eS rfl))|(refine jW ?_; refine jc rfl rfl ?_)|(refine jg ?_; refine jh rfl ?_)|refine jz ?_|(refine jjA ?_; (first|refine jjB ?_|refine jjC ?_|refine jjD ?_|refine jjF ?_|refine jjG ?_))|(refine jjA ?_; (refine jjN rfl ?_ ?_ <;> intro _))|refine jB rfl rfl ⟨inferInstance, ?_⟩)
  · exact congrArg Value.bool (decide_eq_false (list_ne_len (by omega))).symm
  · refine W.loop (11 :: 12 :: 13 :: 14 :: 17 :: 18 :: 19 :: 20 :: 21 :: 22 :: 23 :: 24 :: 25 :: 4 :: 15 :: 16 :: 5 :: []) (fun g s' _ => ∃ k : Nat, s' 5 = .int .i64 k ∧ g = xs.length - k ∧ k ≤ xs.length ∧ ∀ (j : Nat) (q1 : j < xs.length) (q2 : j < ys.length), j < k → xs[j] = ys[j]) xs.length ⟨0, rfl, rfl, by omega, by intros; omega⟩ ?_
    rintro _ d w' hS ⟨k, h5, rfl, hk, hpre⟩
    refine W.fix h5 ?_
    repeat' (first|((first|apply jI|apply jJ); (first|exact eI rfl|exact eB rfl|exact eS rfl))|(refine jW ?_; refine jX rfl rfl ?_)|(refine jg ?_; refine jh rfl ?_)|refine jz ?_|(refine jjA ?_; (first|refine jjB ?_|refine jjC ?_|refine jjD ?_|refine jjE ?_|refine jjF ?_|refine jjG ?_))|(refine jjA ?_; (refine jjN rfl ?_ ?_ <;> intro _))|refine jB rfl rfl ⟨inferInstance, ?_⟩)
    · have k1 : k < xs.length := by omega
      have k2 : k < ys.length := by omega
      refine W.draw (fun w'' => Ext w' w'') ?_
      intro V1 hS1
      obtain ⟨q1, o1, rfl, hA1⟩ := (h1.h.ext hS.ext).place (map_get k1)
      obtain ⟨q2, o2, rfl, hA2⟩ := (h2.h.ext hS.ext).place (map_get k2)
      rw [Nat.mul_one] at hA1 hA2
      refine jjV [0, 1, 2, 3, 4, 5, 6, 7, 8] (by decide +kernel) hS1.ext ?_
      (((apply jjT; exact rfl; rintro w' hq; have := hq.toStep; apply jI; exact eS rfl; refine jz ?_; exact ⟨rfl, rfl⟩; apply jjT; exact rfl; rintro w' hq; have := hq.toStep; apply jI; exact eI rfl; refine jz ?_; exact ⟨rfl, rfl⟩; apply jjT; exact rfl; rintro w' hq; have := hq.toStep; refine jG rfl rfl rfl (by omega) ?_; refine jz ?_; exact ⟨rfl, rfl⟩; apply jjT; exact rfl; rintro w' hq; have := hq.toStep; refine jQ rfl rfl ?_; refine jz ?_; exact ⟨rfl, rfl⟩; apply jjT; exact rfl; rintro w' hq; have := hq.toStep; apply jI; exact eS rfl; refine jz ?_; exact ⟨rfl, rfl⟩; apply jjT; exact rfl; rintro w' hq; have := hq.toStep; apply jI; exact eI rfl; refine jz ?_; exact ⟨rfl, rfl⟩; apply jjT; exact rfl; rintro w' hq; have := hq.toStep; refine jG rfl rfl rfl (by omega) ?_; refine jz ?_; exact ⟨rfl, rfl⟩; apply jjT; exact rfl; rintro w' hq; have := hq.toStep; refine jQ rfl rfl ?_; refine jz ?_; exact ⟨rfl, rfl⟩; apply jjT; exact rfl; rintro w' hq; have := hq.toStep; refine jc rfl rfl ?_; refine jz ?_; exact ⟨rfl, rfl⟩; refine jjU ?_)))
      refine jjX (by decide +kernel) hS1.ext ?_
      repeat' (first|((first|apply jI|apply jJ); (first|exact eI rfl|exact eB rfl))|(refine jW ?_; refine jY rfl rfl (by omega) ?_)|refine jz ?_|(refine jjA ?_; (first|refine jjB ?_|refine jjC ?_|refine jjF ?_|refine jjG ?_))|(refine jjA ?_; (refine jjN rfl ?_ ?_ <;> intro _))|refine jB rfl rfl ⟨inferInstance, ?_⟩)
      · exact congrArg Value.bool (decide_eq_false (list_ne_get k1 k2 ‹_›)).symm
      · refine ⟨rfl, by ((refine Same.upd rfl ?_; refine Same.upd rfl ?_; refine Same.upd rfl ?_; refine Same.upd rfl ?_; refine Same.upd rfl ?_; refine Same.upd rfl ?_; refine Same.upd rfl ?_; refine Same.upd rfl ?_; refine Same.upd rfl ?_; refine Same.upd rfl ?_; refine Same.upd rfl ?_; refine Same.upd rfl ?_; refine Same.upd rfl ?_; refine Same.upd rfl ?_; refine Same.upd rfl ?_; refine Same.upd rfl ?_; refine Same.upd rfl ?_; exact Same.ovN)), xs.length - (k + 1), by omega, inferInstance, k + 1, congrArg (Value.int .i64) (by omega), rfl, by omega, fun j q1 q2 hj => ?_⟩
        by_cases e : j = k
        · subst e; exact Decidable.not_not.1 ‹_›
        · exact hpre j q1 q2 (by omega)
    · exact congrArg Value.bool (decide_eq_true (list_eq_get (by omega) fun j q1 q2 => hpre j q1 q2 (by omega))).symm

theorem RowV.ints {α : Type} {enc : α → Value} {w : World} {v : Value} {agg : Bool} {k : Nat} {xs : List α} (h : RowV w agg k v (xs.map enc)) : ∃ a c, v = .slice a xs.length c ∧ RowI w (.slice a xs.length c) agg k (xs.map enc) := by
  obtain ⟨a, c, rfl⟩ := h.slice
  rw [List.length_map] at h ⊢
  exact ⟨a, c, rfl, ⟨h⟩⟩
end Go.Proofs.YtfebegbjggoijaaGreatDoor

/- The reference of galley: SameInts, Same, Great, great. -/
namespace Go.Proofs.YtfebegbjggoijaaGreatDoor
open Go.RowKit

theorem Same_ref (h1' h2' : Int) (a1 a2 : Option Addr) (c1 c2 : Nat) (xs ys : List Blk) (w : World) [h1 : RowI w (.slice a1 xs.length c1) true 2 (xs.map encB)] [h2 : RowI w (.slice a2 ys.length c2) true 2 (ys.map encB)] :
    Ct Tryz.prog 26 [.agg #[.int .i64 h1', .slice a1 xs.length c1], .agg #[.int .i64 h2', .slice a2 ys.length c2]] w fun v _ => v = .bool (decide (h1' = h2' ∧ xs = ys)) := by
  have hl1 := h1.h.len
  simp only [List.length_map] at hl1
  refine Ct.ofW (by simp) ?_
  (refine jjB ?_; refine jjC ?_)
  (refine jy rfl ?_; intro b1 w_b1 hb_b1 hs_b1 hS_b1 hk_b1; have hA_b1 := At.ofBlock hk_b1)
  skip
  (refine jy rfl ?_; intro b2 w_b2 hb_b2 hs_b2 hS_b2 hk_b2; have hA_b2 := At.ofBlock hk_b2)
  repeat' (first|((first|apply jI|apply jJ|apply jK rfl|apply jL rfl); (first|exact eI rfl|exact eB rfl))|(refine jM ?_; refine jN rfl rfl rfl ?_)|(refine jS ?_; (first|refine jT rfl rfl rfl ?_|refine jU rfl rfl rfl rfl ?_))|(refine jW ?_; refine jc rfl rfl ?_)|(refine jg ?_; refine jh rfl ?_)|(refine jm ?_; refine jn rfl ?_)|refine jz ?_|(refine jjA ?_; (first|refine jjB ?_|refine jjC ?_|refine jjD ?_|refine jjF ?_|refine jjG ?_|refine jjJ rfl ?_))|(refine jS ?_; (refine jjL rfl rfl ?_ ?_ <;> intro _))|(refine jjA ?_; (refine jjN rfl ?_ ?_ <;> intro _))|refine jB rfl rfl ⟨inferInstance, ?_⟩)
  · exact congrArg Value.bool (decide_eq_false fun e => absurd e.1 ‹_›).symm
  · exact congrArg Value.bool (decide_eq_false fun e => list_ne_len (by omega) e.2).symm
  · refine W.loop (20 :: 21 :: 22 :: 23 :: 24 :: 27 :: 28 :: 29 :: 30 :: 31 :: 32 :: 33 :: 34 :: 35 :: 36 :: 37 :: 4 :: 25 :: 26 :: 5 :: []) (fun g s' _ => ∃ k : Nat, s' 5 = .int .i64 k ∧ g = xs.length - k ∧ k ≤ xs.length ∧ ∀ (j : Nat) (q1 : j < xs.length) (q2 : j < ys.length), j < k → xs[j] = ys[j]) xs.length ⟨0, rfl, rfl, by omega, by intros; omega⟩ ?_
    rintro _ d w' hS ⟨k, h5, rfl, hk, hpre⟩
    refine W.fix h5 ?_
    repeat' (first|((first|apply jI|apply jJ); (first|exact eI rfl|exact eB rfl))|(refine jM ?_; refine jN rfl rfl rfl ?_)|(refine jW ?_; refine jX rfl rfl ?_)|(refine jg ?_; refine jh rfl ?_)|(refine jm ?_; refine jn rfl ?_)|refine jz ?_|(refine jjA ?_; (first|refine jjB ?_|refine jjC ?_|refine jjD ?_|refine jjE ?_|refine jjF ?_|refine jjG ?_))|(refine jjA ?_; (refine jjN rfl ?_ ?_ <;> intro _))|refine jB rfl rfl ⟨inferInstance, ?_⟩)
    · have k1 : k < xs.length := by omega
      have k2 : k < ys.length := by omega
      refine W.draw (fun w'' => Ext w' w'') ?_
      intro V1 hS1
      obtain ⟨q1, o1, rfl, hA1⟩ := ((h1.h.ext (inferInstance : Ext w w_b2)).ext hS.ext).place (map_get k1)
      obtain ⟨q2, o2, rfl, hA2⟩ := ((h2.h.ext (inferInstance : Ext w w_b2)).ext hS.ext).place (map_get k2)
      refine jjV [0, 1, 2, 3, 4, 5, 6, 7, 8, 9] (by decide +kernel) hS1.ext ?_
      (((apply jjT; exact rfl; rintro w' hq; have := hq.toStep; refine jm ?_; refine jn rfl ?_; refine jz ?_; exact ⟨rfl, rfl⟩; apply jjT; exact rfl; rintro w' hq; have := hq.toStep; refine jN rfl rfl rfl ?_; refine jz ?_; exact ⟨rfl, rfl⟩; apply jjT; exact rfl; rintro w' hq; have := hq.toStep; apply jI; exact eI rfl; refine jz ?_; exact ⟨rfl, rfl⟩; apply jjT; exact rfl; rintro w' hq; have := hq.toStep; refine jH _ rfl rfl rfl (by omega) ?_; refine jz ?_; exact ⟨rfl, rfl⟩; apply jjT; exact rfl; rintro w' hq; have := hq.toStep; refine jQ rfl rfl ?_; refine jz ?_; exact ⟨rfl, rfl⟩; apply jjT; exact rfl; rintro w' hq; have := hq.toStep; refine jm ?_; refine jn rfl ?_; refine jz ?_; exact ⟨rfl, rfl⟩; apply jjT; exact rfl; rintro w' hq; have := hq.toStep; refine jN rfl rfl rfl ?_; refine jz ?_; exact ⟨rfl, rfl⟩; apply jjT; exact rfl; rintro w' hq; have := hq.toStep; apply jI; exact eI rfl; refine jz ?_; exact ⟨rfl, rfl⟩; apply jjT; exact rfl; rintro w' hq; have := hq.toStep; refine jH _ rfl rfl rfl (by omega) ?_; refine jz ?_; exact ⟨rfl, rfl⟩; apply jjT; exact rfl; rintro w' hq; have := hq.toStep; refine jQ rfl rfl ?_; refine jz ?_; exact ⟨rfl, rfl⟩; refine jjU ?_)))
      refine jjV [10] (by decide +kernel) hS1.ext ?_
      refine jjT rfl (v := .bool (decide (¬ xs[k] = ys[k]))) ?_ ?_
      · rintro w' hq
        refine Ops.neqT (enc := encSI) xs[k] ys[k] rfl rfl ?_
        refine jz ?_
        exact ⟨rfl, rfl⟩
      refine jjU ?_
      refine jjX (by decide +kernel) hS1.ext ?_
      repeat' (first|((first|apply jI|apply jJ); (first|exact eI rfl|exact eB rfl))|(refine jW ?_; refine jY rfl rfl (by omega) ?_)|refine jz ?_|(refine jjA ?_; (first|refine jjB ?_|refine jjC ?_|refine jjF ?_|refine jjG ?_))|(refine jjA ?_; (refine jjN rfl ?_ ?_ <;> intro _))|refine jB rfl rfl ⟨inferInstance, ?_⟩)
      · exact congrArg Value.bool (decide_eq_false fun e => list_ne_get k1 k2 ‹_› e.2).symm
      · refine ⟨rfl, by ((refine Same.upd rfl ?_; refine Same.upd rfl ?_; refine Same.upd rfl ?_; refine Same.upd rfl ?_; refine Same.upd rfl ?_; refine Same.upd rfl ?_; refine Same.upd rfl ?_; refine Same.upd rfl ?_; refine Same.upd rfl ?_; refine Same.upd rfl ?_; refine Same.upd rfl ?_; refine Same.upd rfl ?_; refine Same.upd rfl ?_; refine Same.upd rfl ?_; refine Same.upd rfl ?_; refine Same.upd rfl ?_; refine Same.upd rfl ?_; refine Same.upd rfl ?_; refine Same.upd rfl ?_; refine Same.upd rfl ?_; exact Same.ovN)), xs.length - (k + 1), by omega, inferInstance, k + 1, congrArg (Value.int .i64) (by omega), rfl, by omega, fun j q1 q2 hj => ?_⟩
        by_cases e : j = k
        · subst e; exact Decidable.not_not.1 ‹_›
        · exact hpre j q1 q2 (by omega)
    · exact congrArg Value.bool (decide_eq_true ⟨Decidable.not_not.1 ‹_›, list_eq_get (by omega) fun j q1 q2 => hpre j q1 q2 (by omega)⟩).symm

def greatB (bs : List Blk) : Bool := decide (40 < bs.length) || bs.any fun b => decide (40 < b.1.size)
theorem great_no {bs : List Blk} (h : greatB bs = false) : bs.length ≤ 40 ∧ ∀ b ∈ bs, b.1.size ≤ 40 := by
  simp [greatB] at h
  exact ⟨h.1, fun b hb => h.2 b.1 b.2 hb⟩
theorem Great_ref (h : Int) (a : Option Addr) (c : Nat) (bs : List Blk) (w : World) [h1 : RowI w (.slice a bs.length c) true 2 (bs.map encB)] :
    Ct Tryz.prog 43 [.agg #[.int .i64 h, .slice a bs.length c]] w fun v _ => v = .bool (greatB bs) := by
  refine Ct.ofW (by simp) ?_
  (refine jjB ?_; refine jjC ?_)
  (refine jy rfl ?_; intro b1 w_b1 hb_b1 hs_b1 hS_b1 hk_b1; have hA_b1 := At.ofBlock hk_b1)
  repeat' (first|(apply jJ; (first|exact eI rfl|exact eB rfl))|(refine jM ?_; refine jN rfl rfl rfl ?_)|(refine jW ?_; refine je rfl rfl ?_)|(refine jg ?_; refine jh rfl ?_)|(refine jm ?_; refine jn rfl ?_)|refine jz ?_|(refine jjA ?_; (first|refine jjB ?_|refine jjC ?_|refine jjD ?_|refine jjF ?_|refine jjG ?_))|(refine jjA ?_; (refine jjN rfl ?_ ?_ <;> intro _))|refine jB rfl rfl ⟨inferInstance, ?_⟩)
  · exact congrArg Value.bool (by simp [greatB]; omega)
  · refine W.loop (8 :: 9 :: 10 :: 11 :: 12 :: 15 :: 16 :: 17 :: 18 :: 19 :: 20 :: 21 :: 22 :: 2 :: 13 :: 14 :: 3 :: []) (fun g s' _ => ∃ k : Nat, s' 3 = .int .i64 k ∧ g = bs.length - k ∧ k ≤ bs.length ∧ ∀ (j : Nat) (q1 : j < bs.length), j < k → bs[j].1.size ≤ 40) bs.length ⟨0, rfl, rfl, by omega, by intros; omega⟩ ?_
    rintro _ d w' hS ⟨k, h5, rfl, hk, hpre⟩
    refine W.fix h5 ?_
    repeat' (first|((first|apply jI|apply jJ); (first|exact eI rfl|exact eB rfl))|(refine jM ?_; (first|refine jN rfl rfl rfl ?_|refine jP rfl rfl rfl ?_))|(refine jW ?_; (first|refine jX rfl rfl ?_|refine jY rfl rfl (by omega) ?_|refine je rfl rfl ?_))|(refine jg ?_; (first|refine jh rfl ?_|refine ji rfl ?_))|(refine jm ?_; refine jn rfl ?_)|(refine jE ?_; (refine jF rfl rfl rfl (map_get (by omega)) ?_; intro _ _ _))|refine jz ?_|(refine jjA ?_; (first|refine jjB ?_|refine jjC ?_|refine jjD ?_|refine jjE ?_|refine jjF ?_|refine jjG ?_))|(refine jjA ?_; (refine jjN rfl ?_ ?_ <;> intro _))|refine jB rfl rfl ⟨inferInstance, ?_⟩)
    · have k1 : k < bs.length := by omega
      refine congrArg Value.bool (Eq.symm ?_)
      simp only [greatB, Bool.or_eq_true, List.any_eq_true, decide_eq_true_eq]
      exact .inr ⟨bs[k], List.getElem_mem k1, by omega⟩
    · refine ⟨rfl, by ((refine Same.upd rfl ?_; refine Same.upd rfl ?_; refine Same.upd rfl ?_; refine Same.upd rfl ?_; refine Same.upd rfl ?_; refine Same.upd rfl ?_; refine Same.upd rfl ?_; refine Same.upd rfl ?_; refine Same.upd rfl ?_; refine Same.upd rfl ?_; refine Same.upd rfl ?_; refine Same.upd rfl ?_; refine Same.upd rfl ?_; refine Same.upd rfl ?_; refine Same.upd rfl ?_; refine Same.upd rfl ?_; refine Same.upd rfl ?_; exact Same.ovN)), bs.length - (k + 1), by omega, inferInstance, k + 1, congrArg (Value.int .i64) (by omega), rfl, by omega, fun j q1 hj => ?_⟩
      by_cases e : j = k
      · subst e; omega
      · exact hpre j q1 (by omega)
    · refine congrArg Value.bool (Eq.symm ?_)
      simp only [greatB, Bool.or_eq_false_iff, List.any_eq_false, decide_eq_true_eq, decide_eq_false_iff_not]
      refine ⟨by omega, fun b hb => ?_⟩
      obtain ⟨j, hj, rfl⟩ := List.getElem_of_mem hb
      have := hpre j hj (by omega)
      omega

theorem GreatBreaks_ref (a : Option Addr) (l c : Nat) (w : World) :
    Ct Tryz.prog 44 [.slice a l c] w fun v _ => v = .bool (decide (700 < l)) := by
  refine Ct.ofW (by simp) ?_
  (refine jjB ?_; refine jjC ?_; apply jJ; exact eB rfl; refine jz ?_; refine jjB ?_; refine jjC ?_; apply jI; exact eS rfl; refine jh rfl ?_; refine je rfl rfl ?_; apply jJ; exact eB rfl; refine jz ?_; refine jjF ?_; refine jB rfl rfl ⟨inferInstance, ?_⟩)
  exact congrArg Value.bool (by rw [decide_eq_decide]; omega)
theorem great_ref (h : Int) (a : Option Addr) (c : Nat) (bs : List Blk) (a2 : Option Addr) (l2 c2 : Nat) (w : World) [h1 : RowI w (.slice a bs.length c) true 2 (bs.map encB)] :
    Ct Tryz.prog 12 [.agg #[.int .i64 h, .slice a bs.length c], .slice a2 l2 c2] w fun v _ => v = .bool (greatB bs || decide (700 < l2)) := by
  refine Ct.ofW (by simp) ?_
  (refine jjB ?_; refine jjC ?_)
  (refine jy rfl ?_; intro b1 w_b1 hb_b1 hs_b1 hS_b1 hk_b1; have hA_b1 := At.ofBlock hk_b1)
  (apply jJ; exact eB rfl; refine jz ?_; refine jjB ?_; refine jjC ?_; refine jO rfl rfl rfl rfl ?_)
  refine jjQ (Great_ref h a c bs _) rfl rfl ?_
  rintro _ w2 hS2 rfl
  repeat' (first|((first|apply jI|apply jJ|apply jK rfl); (first|exact eB rfl|exact eS rfl))|(refine jS ?_; (first|refine jT rfl rfl rfl ?_|refine jU rfl rfl rfl rfl ?_))|refine jz ?_|(refine jjA ?_; refine jjF ?_)|(refine jS ?_; (refine jjM rfl rfl ?_ ?_ <;> intro _))|refine jB rfl rfl ⟨inferInstance, ?_⟩)
  · exact congrArg Value.bool (by rw [‹greatB bs = true›]; rfl)
  · refine jjQ (GreatBreaks_ref a2 l2 c2 _) rfl rfl ?_
    rintro _ w3 hS3 rfl
    (apply jL rfl; exact eB rfl; apply jJ; exact eB rfl; refine jz ?_; refine jjF ?_; refine jB rfl rfl ⟨inferInstance, ?_⟩)
    exact congrArg Value.bool (by rw [‹greatB bs = false›]; rfl)
end Go.Proofs.YtfebegbjggoijaaGreatDoor

/- The reference of galley: Twin. -/
namespace Go.Proofs.YtfebegbjggoijaaGreatDoor
open Go.RowKit

theorem Same_yes (h : Int) (a1 a2 : Option Addr) (c1 c2 : Nat) (xs : List Blk) (w : World) [h1 : RowI w (.slice a1 xs.length c1) true 2 (xs.map encB)] [h2 : RowI w (.slice a2 xs.length c2) true 2 (xs.map encB)] :
    Ct Tryz.prog 26 [.agg #[.int .i64 h, .slice a1 xs.length c1], .agg #[.int .i64 h, .slice a2 xs.length c2]] w fun v _ => v = .bool true :=
  (Same_ref h h a1 a2 c1 c2 xs xs w).mono fun v _ _ e => e.trans (by rw [decide_eq_true ⟨rfl, rfl⟩])

section
variable (h : Int) (a : Option Addr) (c : Nat) (bs : List Blk) (w : World) [hrow : RowI w (.slice a bs.length c) true 2 (bs.map encB)]
end
end Go.Proofs.YtfebegbjggoijaaGreatDoor

/- The reference of galley: asked, waste, Waste, standing, At, begins, columns, Columns, Torn. -/
namespace Go.Proofs.YtfebegbjggoijaaGreatDoor
open Go.RowKit

section
variable (h : Int) (a : Option Addr) (c : Nat) (bs : List Blk) (la : Option Addr) (lc : Nat) (l : List Int) (w : World)

variable [hrow : RowI w (.slice a bs.length c) true 2 (bs.map encB)] [hl : RowI w (.slice la l.length lc) false 1 (l.map intV)]
end
end Go.Proofs.YtfebegbjggoijaaGreatDoor

/- The law GalleyPlaced. -/
namespace Go.Proofs.YtfebegbjggoijaaGreatDoor
open Go.RowKit

section
variable (h : Int) (a : Option Addr) (c : Nat) (bs : List Blk) (la : Option Addr) (lc : Nat) (l : List Int) (w : World)
end
end Go.Proofs.YtfebegbjggoijaaGreatDoor

/- The laws of galleys: choices, lines, breakings by choices, the order of lists. -/
namespace Go.Proofs.YtfebegbjggoijaaGreatDoor
open Go.RowKit

theorem place_at8 {w : World} {agg : Bool} {k l c j b o : Nat} {xs : List Value} {x : Value} (h : RowV w agg k (.slice (some ⟨b, o, none⟩) l c) xs) (hj : xs[j]? = some x) : At w b (o + j * k) x.cells.toList := by
  obtain ⟨b', o', e, hA⟩ := h.place hj
  cases e
  exact hA
theorem choose_law8 (ba : Option Addr) (bc : Nat) (by_ : List Int) (i : Nat) (hu : U32s by_) (hi : i ≤ 100000000) (w : World) [hb : RowI w (.slice ba by_.length bc) false 1 (by_.map u32V)] :
    Ct Tryz.prog 28 [.slice ba by_.length bc, .int .i64 (i : Int)] w fun v _ => ∃ x : Int, v = .int .i64 x ∧ 0 ≤ x ∧ x ≤ 4294967295 := by
  refine Ct.ofW (by simp) ?_
  by_cases h0 : by_.length = 0
  · (refine jjB ?_; refine jjC ?_; apply jJ; exact eI rfl; refine jz ?_; refine jjB ?_; refine jjB ?_; refine jjC ?_; apply jI; exact eS rfl; refine jh rfl ?_; refine jjh rfl rfl (by omega) ?_; refine jz ?_; refine jjJ rfl ?_; refine jjB ?_; refine jjC ?_; apply jJ; exact eI rfl; refine jz ?_; refine jjF ?_; refine jB rfl rfl ⟨inferInstance, ?_⟩)
    exact ⟨0, rfl, by omega, by omega⟩
  (refine jjB ?_; refine jjC ?_; apply jJ; exact eI rfl; refine jz ?_; refine jjB ?_; refine jjB ?_; refine jjC ?_; apply jI; exact eS rfl; refine jh rfl ?_; refine jji rfl rfl (by omega) ?_; refine jz ?_; refine jjK rfl ?_; refine jjG ?_; refine jjB ?_; refine jjC ?_; apply jI; exact eS rfl; apply jI; exact eI rfl; apply jI; exact eS rfl; refine jh rfl ?_)
  refine Ops.rem rfl rfl (by omega) (by omega) ?_
  have hr1 : (i : Int) % (by_.length : Int) = ((i % by_.length : Nat) : Int) := by omega
  have hX := Nat.mod_lt i (show 0 < by_.length by omega)
  rw [hr1]
  generalize i % by_.length = X at *
  have hv := hu by_[X] (List.getElem_mem hX)
  (refine jF rfl rfl rfl (map_get (by omega)) ?_; intro _ _ _; refine jQ rfl rfl ?_)
  refine Ops.convI rfl rfl (wrapi (by omega) (by omega)) ?_
  (apply jJ; exact eI rfl; refine jz ?_; refine jjF ?_; refine jB rfl rfl ⟨inferInstance, ?_⟩)
  exact ⟨_, rfl, hv.1, hv.2⟩
theorem lines_law8 (h : Int) (a : Option Addr) (c : Nat) (bs : List Blk) (w : World) [RowI w (.slice a bs.length c) true 2 (bs.map encB)] (hb : ∀ b ∈ bs, 1 ≤ b.2 ∧ b.2 ≤ 20) (hl : bs.length ≤ 1000) :
    Ct Tryz.prog 20 [.agg #[.int .i64 h, .slice a bs.length c]] w fun v _ => v = .int .i64 (sumL bs) := by
  refine Ct.ofW (by simp) ?_
  (refine jjB ?_; refine jjC ?_)
  (refine jy rfl ?_; intro b1 w_b1 hb_b1 hs_b1 hS_b1 hk_b1; have hA_b1 := At.ofBlock hk_b1)
  (apply jJ; exact eI rfl; refine jz ?_; refine jjB ?_; refine jjC ?_; apply jJ; exact eI rfl; refine jz ?_; refine jjB ?_; refine jjB ?_; refine jjC ?_; refine jm ?_; refine jn rfl ?_; refine jN rfl rfl rfl ?_; refine jh rfl ?_; apply jI; exact eI rfl; refine jz ?_; refine jjD ?_)
  refine W.loop (10 :: 11 :: 12 :: 5 :: 13 :: 14 :: 15 :: 16 :: 3 :: 17 :: 9 :: []) (fun g s' _ => ∃ k : Nat, s' 9 = .int .i64 k ∧ s' 3 = .int .i64 (sumL (bs.take k)) ∧ g = bs.length - k ∧ k ≤ bs.length) bs.length ⟨0, rfl, rfl, by omega, by omega⟩ ?_
  rintro _ d w' hS ⟨k, h4, h3, rfl, hk⟩
  refine W.fix h4 (W.fix (d := 3) h3 ?_)
  have hs := sumL_pre hb hl k
  repeat' (first|((first|apply jI|apply jJ); exact eI rfl)|(refine jM ?_; refine jQ rfl rfl ?_)|(refine jW ?_; refine jX rfl rfl ?_)|(refine jE ?_; (refine jF rfl rfl rfl (map_get (by omega)) ?_; intro _ _ _))|refine jz ?_|(refine jjA ?_; (first|refine jjB ?_|refine jjC ?_|refine jjD ?_|refine jjE ?_|refine jjF ?_|refine jjG ?_))|(refine jjA ?_; (refine jjN rfl ?_ ?_ <;> intro _))|refine jB rfl rfl ⟨inferInstance, ?_⟩)
  · have hk' : k < bs.length := by omega
    have h1 := hb bs[k] (List.getElem_mem hk')
    (apply jjR rfl; (intro _; first|exact eI rfl|exact eB rfl|exact eP rfl|exact eS rfl|exact eT rfl|exact eA rfl|exact eU rfl|exact eF rfl|exact eM rfl|exact eN rfl|exact rfl); exact rfl; exact rfl; exact rfl; exact rfl; intro b5 w_b5 hb_b5 hs_b5 hS_b5 hk_b5; have hA_b5 := Bk.of hk_b5)
    have hA5 : At w_b5 b5 0 [.string bs[k].1, .int .i64 bs[k].2] := Bk.toAt (h := hA_b5)
    (refine jz ?_; refine jjC ?_; apply jI; exact eI rfl; refine jm ?_; refine jn rfl ?_; refine jN rfl rfl rfl ?_; refine jY rfl rfl (by omega) ?_; apply jJ; exact eI rfl; refine jz ?_; refine jjC ?_; refine jY rfl rfl (by omega) ?_; apply jI; exact eI rfl; refine jz ?_)
    exact ⟨rfl, by ((refine Same.upd rfl ?_; refine Same.upd rfl ?_; refine Same.upd rfl ?_; refine Same.upd rfl ?_; refine Same.upd rfl ?_; refine Same.upd rfl ?_; refine Same.upd rfl ?_; refine Same.upd rfl ?_; refine Same.upd rfl ?_; refine Same.upd rfl ?_; refine Same.upd rfl ?_; refine Same.upd rfl ?_; refine Same.upd rfl ?_; exact Same.ovN)), bs.length - (k + 1), by omega, inferInstance, k + 1, rfl, congrArg (Value.int .i64) (sumL_take_succ hk').symm, rfl, by omega⟩
  · exact congrArg (Value.int .i64) (by rw [List.take_of_length_le (by omega)])
theorem befL_drop {a b : List Int} : ∀ {k : Nat}, k ≤ a.length → k ≤ b.length → (∀ j, j < k → a.getD j 0 = b.getD j 0) → befL a b = befL (a.drop k) (b.drop k) := by
  induction a generalizing b with
  | nil => intro k hk _ _; obtain rfl : k = 0 := by simpa using hk
           rfl
  | cons x a ih =>
    intro k ha hb h
    cases k with
    | zero => rfl
    | succ k =>
      cases b with
      | nil => simp at hb
      | cons y b =>
        have e : x = y := h 0 (by omega)
        rw [befL, if_pos e, List.drop_succ_cons, List.drop_succ_cons]
        exact ih (by simpa using ha) (by simpa using hb) fun j hj => h (j + 1) (by omega)
theorem before_law8 (a1 a2 : Option Addr) (c1 c2 : Nat) (xs ys : List Int) (w : World) (hx : xs.length ≤ 1000000) (hy : ys.length ≤ 1000000) [h1 : RowI w (.slice a1 xs.length c1) false 1 (xs.map intV)] [h2 : RowI w (.slice a2 ys.length c2) false 1 (ys.map intV)] :
    Ct Tryz.prog 23 [.slice a1 xs.length c1, .slice a2 ys.length c2] w fun v _ => v = .bool (befL xs ys) := by
  refine Ct.ofW (by simp) ?_
  (refine jjB ?_; refine jjC ?_; apply jJ; exact eB rfl; refine jz ?_; refine jjB ?_; refine jjB ?_; refine jjC ?_; apply jI; exact eS rfl; refine jh rfl ?_; apply jI; exact eS rfl; refine jh rfl ?_; refine jj rfl rfl ?_; apply jI; exact eI rfl; refine jz ?_; refine jjD ?_)
  refine W.loop (12 :: 13 :: 5 :: 14 :: 15 :: 16 :: 17 :: 18 :: 19 :: 20 :: 21 :: 22 :: 23 :: 24 :: 25 :: 26 :: 27 :: 28 :: 29 :: 30 :: 31 :: 4 :: 32 :: 11 :: []) (fun g s' _ => ∃ k : Nat, s' 11 = .int .i64 k ∧ g = xs.length - k ∧ k ≤ xs.length ∧ k ≤ ys.length ∧ ∀ j, j < k → xs.getD j 0 = ys.getD j 0) xs.length ⟨0, rfl, by omega, by omega, by omega, by intros; omega⟩ ?_
  rintro _ d w' hS ⟨k, h4, rfl, hk1, hk2, hpre⟩
  refine W.fix h4 ?_
  have hbe := befL_drop hk1 hk2 hpre
  by_cases hk : k < xs.length ∧ k < ys.length
  · have e1 : xs.getD k 0 = xs[k]'hk.1 := getD_lt hk.1
    have e2 : ys.getD k 0 = ys[k]'hk.2 := getD_lt hk.2
    have ed : befL xs ys = if xs[k]'hk.1 = ys[k]'hk.2 then befL (xs.drop (k + 1)) (ys.drop (k + 1)) else decide (xs[k]'hk.1 < ys[k]'hk.2) := by
      rw [hbe, List.drop_eq_getElem_cons hk.1, List.drop_eq_getElem_cons hk.2, befL]
    obtain ⟨hk1', hk2'⟩ := hk
    (refine jjB ?_; refine jjC ?_; refine jjZ rfl rfl (by omega) ?_; refine jz ?_; refine jjB ?_; refine jjJ rfl ?_; refine jjG ?_; refine jjB ?_; refine jjD ?_; refine jjB ?_; refine jjC ?_; apply jI; exact eI rfl; apply jJ; exact eI rfl; refine jz ?_; refine jjB ?_)
    refine W.draw (fun w'' => Ext w' w'') ?_
    intro w5 hS5
    obtain ⟨p1, o1, rfl, hA1⟩ := (h1.h.ext hS.ext).place (map_get hk1')
    obtain ⟨p2, o2, rfl, hA2⟩ := (h2.h.ext hS.ext).place (map_get hk2')
    rw [Nat.mul_one] at hA1 hA2
    by_cases e : xs[k]'hk1' = ys[k]'hk2'
    · refine jjV [0, 1, 2, 3, 4, 5, 6, 7, 8] (by decide +kernel) hS5.ext ?_
      (((apply jjT; exact rfl; rintro w'' hq; have := hq.toStep; apply jI; exact eS rfl; refine jz ?_; exact ⟨rfl, rfl⟩; apply jjT; exact rfl; rintro w'' hq; have := hq.toStep; apply jI; exact eI rfl; refine jz ?_; exact ⟨rfl, rfl⟩; apply jjT; exact rfl; rintro w'' hq; have := hq.toStep; refine jG rfl rfl rfl (by omega) ?_; refine jz ?_; exact ⟨rfl, rfl⟩; apply jjT; exact rfl; rintro w'' hq; have := hq.toStep; refine jQ rfl rfl ?_; refine jz ?_; exact ⟨rfl, rfl⟩; apply jjT; exact rfl; rintro w'' hq; have := hq.toStep; apply jI; exact eS rfl; refine jz ?_; exact ⟨rfl, rfl⟩; apply jjT; exact rfl; rintro w'' hq; have := hq.toStep; apply jI; exact eI rfl; refine jz ?_; exact ⟨rfl, rfl⟩; apply jjT; exact rfl; rintro w'' hq; have := hq.toStep; refine jG rfl rfl rfl (by omega) ?_; refine jz ?_; exact ⟨rfl, rfl⟩; apply jjT; exact rfl; rintro w'' hq; have := hq.toStep; refine jQ rfl rfl ?_; refine jz ?_; exact ⟨rfl, rfl⟩; apply jjT; exact rfl; rintro w'' hq; have := hq.toStep; refine jjk rfl rfl (by omega) ?_; refine jz ?_; exact ⟨rfl, rfl⟩; refine jjU ?_)))
      refine jjX (by decide +kernel) hS5.ext ?_
      (refine jjK rfl ?_; refine jjG ?_; refine jjC ?_; refine jY rfl rfl (by omega) ?_; apply jI; exact eI rfl; refine jz ?_)
      exact ⟨rfl, by ((refine Same.upd rfl ?_; refine Same.upd rfl ?_; refine Same.upd rfl ?_; refine Same.upd rfl ?_; refine Same.upd rfl ?_; refine Same.upd rfl ?_; refine Same.upd rfl ?_; refine Same.upd rfl ?_; refine Same.upd rfl ?_; refine Same.upd rfl ?_; refine Same.upd rfl ?_; refine Same.upd rfl ?_; refine Same.upd rfl ?_; refine Same.upd rfl ?_; refine Same.upd rfl ?_; exact Same.ovN)), xs.length - (k + 1), by omega, inferInstance, k + 1, congrArg (Value.int .i64) (by omega), rfl, by omega, by omega, fun j hj => by
        by_cases ej : j = k
        · subst ej; rw [e1, e2, e]
        · exact hpre j (by omega)⟩
    · refine jjV [0, 1, 2, 3, 4, 5, 6, 7, 8] (by decide +kernel) hS5.ext ?_
      (((apply jjT; exact rfl; rintro w'' hq; have := hq.toStep; apply jI; exact eS rfl; refine jz ?_; exact ⟨rfl, rfl⟩; apply jjT; exact rfl; rintro w'' hq; have := hq.toStep; apply jI; exact eI rfl; refine jz ?_; exact ⟨rfl, rfl⟩; apply jjT; exact rfl; rintro w'' hq; have := hq.toStep; refine jG rfl rfl rfl (by omega) ?_; refine jz ?_; exact ⟨rfl, rfl⟩; apply jjT; exact rfl; rintro w'' hq; have := hq.toStep; refine jQ rfl rfl ?_; refine jz ?_; exact ⟨rfl, rfl⟩; apply jjT; exact rfl; rintro w'' hq; have := hq.toStep; apply jI; exact eS rfl; refine jz ?_; exact ⟨rfl, rfl⟩; apply jjT; exact rfl; rintro w'' hq; have := hq.toStep; apply jI; exact eI rfl; refine jz ?_; exact ⟨rfl, rfl⟩; apply jjT; exact rfl; rintro w'' hq; have := hq.toStep; refine jG rfl rfl rfl (by omega) ?_; refine jz ?_; exact ⟨rfl, rfl⟩; apply jjT; exact rfl; rintro w'' hq; have := hq.toStep; refine jQ rfl rfl ?_; refine jz ?_; exact ⟨rfl, rfl⟩; apply jjT; exact rfl; rintro w'' hq; have := hq.toStep; refine jjj rfl rfl (by omega) ?_; refine jz ?_; exact ⟨rfl, rfl⟩; refine jjU ?_)))
      refine jjX (by decide +kernel) hS5.ext ?_
      (refine jjJ rfl ?_; refine jjB ?_)
      refine W.draw (fun w'' => Ext w5 w'') ?_
      intro w6 hS6
      (refine jjV [0, 1, 2, 3, 4, 5, 6, 7, 8, 9] ?_ ?_ ?_; (decide +kernel); (exact hS6.ext); (((apply jjT; exact rfl; rintro w'' hq; have := hq.toStep; apply jI; exact eS rfl; refine jz ?_; exact ⟨rfl, rfl⟩; apply jjT; exact rfl; rintro w'' hq; have := hq.toStep; apply jI; exact eI rfl; refine jz ?_; exact ⟨rfl, rfl⟩; apply jjT; exact rfl; rintro w'' hq; have := hq.toStep; refine jG rfl rfl rfl (by omega) ?_; refine jz ?_; exact ⟨rfl, rfl⟩; apply jjT; exact rfl; rintro w'' hq; have := hq.toStep; refine jQ rfl rfl ?_; refine jz ?_; exact ⟨rfl, rfl⟩; apply jjT; exact rfl; rintro w'' hq; have := hq.toStep; apply jI; exact eS rfl; refine jz ?_; exact ⟨rfl, rfl⟩; apply jjT; exact rfl; rintro w'' hq; have := hq.toStep; apply jI; exact eI rfl; refine jz ?_; exact ⟨rfl, rfl⟩; apply jjT; exact rfl; rintro w'' hq; have := hq.toStep; refine jG rfl rfl rfl (by omega) ?_; refine jz ?_; exact ⟨rfl, rfl⟩; apply jjT; exact rfl; rintro w'' hq; have := hq.toStep; refine jQ rfl rfl ?_; refine jz ?_; exact ⟨rfl, rfl⟩; apply jjT; exact rfl; rintro w'' hq; have := hq.toStep; refine jX rfl rfl ?_; refine jz ?_; exact ⟨rfl, rfl⟩; apply jjT; exact rfl; rintro w'' hq; have := hq.toStep; apply jJ; exact eB rfl; refine jz ?_; exact ⟨rfl, rfl⟩; refine jjU ?_))))
      refine jjX (by decide +kernel) hS6.ext ?_
      (refine jjF ?_; refine jB rfl rfl ⟨inferInstance, ?_⟩)
      exact congrArg Value.bool (by rw [ed, if_neg e])
  · (refine jjB ?_; refine jjC ?_; refine jja rfl rfl (by omega) ?_; refine jz ?_; refine jjB ?_; refine jjK rfl ?_; refine jjE ?_; refine jjB ?_; refine jjC ?_; apply jI; exact eS rfl; refine jh rfl ?_; apply jI; exact eS rfl; refine jh rfl ?_; refine jX rfl rfl ?_; apply jJ; exact eB rfl; refine jz ?_; refine jjF ?_; refine jB rfl rfl ⟨inferInstance, ?_⟩)
    refine congrArg Value.bool ?_
    rw [hbe]
    by_cases c : k < xs.length
    · have : ys.drop k = [] := List.drop_eq_nil_of_le (by omega)
      rw [this, List.drop_eq_getElem_cons c, befL]
      exact decide_eq_false (by omega)
    · have : xs.drop k = [] := List.drop_eq_nil_of_le (by omega)
      rw [this]
      by_cases c2 : k < ys.length
      · rw [List.drop_eq_getElem_cons c2, befL]
        exact decide_eq_true (by omega)
      · rw [List.drop_eq_nil_of_le (show ys.length ≤ k by omega), befL]
        exact decide_eq_false (by omega)
theorem same_law8 (a1 a2 : Option Addr) (c1 c2 : Nat) (xs ys : List Int) (w : World) [h1 : RowI w (.slice a1 xs.length c1) false 1 (xs.map intV)] [h2 : RowI w (.slice a2 ys.length c2) false 1 (ys.map intV)] :
    Ct Tryz.prog 27 [.slice a1 xs.length c1, .slice a2 ys.length c2] w fun v _ => v = .bool (decide (xs = ys)) := by
  refine Ct.ofW (by simp) ?_
  (refine jjB ?_; refine jjC ?_; apply jJ; exact eB rfl; refine jz ?_; refine jjB ?_; refine jjC ?_; apply jI; exact eS rfl; apply jI; exact eS rfl)
  refine jjQ (SameInts_ref a1 a2 c1 c2 xs ys _) rfl rfl ?_
  rintro _ w2 hS2 rfl
  (apply jJ; exact eB rfl; refine jz ?_; refine jjF ?_; refine jB rfl rfl ⟨inferInstance, ?_⟩)
  exact rfl
theorem ints_law8 (v : Value) (a : Option Addr) (l c : Nat) (hv : v = .slice a l c) (w : World) : Ct Tryz.prog 32 [v] w fun r _ => r = v := by
  subst hv
  refine Ct.ofW (by simp) ?_
  (refine jjB ?_; refine jjC ?_; apply jJ; exact eS rfl; refine jz ?_; refine jjB ?_; refine jjC ?_; apply jI; exact eS rfl; apply jJ; exact eS rfl; refine jz ?_; refine jjF ?_; refine jB rfl rfl ⟨inferInstance, ?_⟩)
  exact rfl
/-! ### A breaking by choices -/
theorem chn_up {h to : Int} {may : Int → Bool} : ∀ {l : List Int} {n : Int}, Chn h may to n l → n + l.length ≤ to
  | [], n, e => by have : n = to := e; simp; omega
  | m :: l, n, ⟨_, h1, _, h3⟩ => by
    have := chn_up h3
    rw [List.length_cons]
    push_cast
    omega
theorem Chn.snoc1 {h : Int} {may : Int → Bool} {to m : Int} (hm : may m = true) (h1 : to < m) (h2 : m ≤ to + h) : ∀ {l : List Int} {n : Int}, Chn h may to n l → Chn h may m n (l ++ [m])
  | [], n, e => by
    obtain rfl : n = to := e
    exact ⟨hm, h1, h2, rfl⟩
  | x :: l, n, ⟨a, b, c, d⟩ => ⟨a, b, c, d.snoc1 hm h1 h2⟩
theorem filt_snoc {l : List Int} {k : Nat} (hk : k < l.length) (p : Int → Bool) : (l.take (k + 1)).filter p = (l.take k).filter p ++ if p l[k] then [l[k]] else [] := by
  rw [take_snoc_get (List.getElem?_eq_getElem hk), List.filter_append]
  congr 1
  rw [List.filter_cons]
  split <;> rfl
theorem chosen_law8 (h : Int) (a : Option Addr) (c : Nat) (bs : List Blk) (ea : Option Addr) (ec : Nat) (xs : List Int) (ba : Option Addr) (bc : Nat) (by_ : List Int) (hu : U32s by_) (w : World) (hg : galleyB h bs = true) (hxs : xs = endsF 0 bs)
    [hrow : RowI w (.slice a bs.length c) true 2 (bs.map encB)] [he : RowI w (.slice ea xs.length ec) false 1 (xs.map intV)] [hb : RowI w (.slice ba by_.length bc) false 1 (by_.map u32V)] :
    Ct Tryz.prog 16 [.agg #[.int .i64 h, .slice a bs.length c], .slice ea xs.length ec, .slice ba by_.length bc] w fun v w' => ∃ (l : List Int) (u : Value), v = .tuple #[u, .bool true] ∧ OwnL w' w.heap.size 3 false 1 u (l.map intV) ∧ validB h bs l = true ∧ l.length ≤ 600 := by
  obtain ⟨hh, hlb, hbb, hs1, hs2⟩ := galley_yes hg
  have hxl : xs.length ≤ 600 := by have := endsF_len hbb 0; rw [← hxs] at this; omega
  have hxm : ∀ x, x ∈ xs ↔ mayR x 0 bs = true := fun x => by rw [hxs]; exact mem_endsF hbb x
  have hxb : ∀ (k : Nat) (hk : k < xs.length), 1 ≤ xs[k] ∧ xs[k] ≤ sumL bs := fun k hk => by
    have := ends_bound hbb xs[k] (by rw [← hxs]; exact List.getElem_mem hk)
    exact this
  refine Ct.ofW (by simp) ?_
  (refine jjB ?_; refine jjC ?_)
  (refine jy rfl ?_; intro b3 w_b3 hb_b3 hs_b3 hS_b3 hk_b3; have hA_b3 := At.ofBlock hk_b3)
  (apply jJ; exact eS rfl; apply jJ; exact eB rfl; refine jz ?_; refine jjB ?_; refine jjC ?_; apply jJ; exact eS rfl; refine jz ?_; refine jjB ?_; refine jjC ?_; apply jJ; exact eI rfl; refine jz ?_; refine jjB ?_; refine jjD ?_)
  refine W.keep0 [(1, .slice ea xs.length ec), (2, .slice ba by_.length bc), (3, .pointer (some ⟨b3, 0, none⟩)), (8, .slice none 0 0), (9, .int .i64 0)] ⟨eS rfl, eS rfl, eP rfl, eS rfl, eI rfl, trivial⟩ fun s0 => ?_
  refine W.loop (14 :: 15 :: 16 :: 17 :: 10 :: 18 :: 19 :: 20 :: 21 :: 22 :: 23 :: 12 :: 24 :: 25 :: 26 :: 27 :: 28 :: 29 :: 30 :: 31 :: 32 :: 33 :: 34 :: 35 :: 36 :: 37 :: 38 :: 39 :: 40 :: 41 :: 42 :: 6 :: 7 :: 43 :: 44 :: 45 :: 46 :: 47 :: 48 :: 49 :: 50 :: 51 :: 52 :: 53 :: 54 :: 13 :: 55 :: 56 :: 57 :: 58 :: 9 :: 59 :: 60 :: 61 :: 62 :: 8 :: []) (fun g s' V => ∃ (n : Int) (l : List Int) (v : Value), s' 9 = .int .i64 n ∧ s' 8 = v ∧ OwnL V w_b3.heap.size 3 false 1 v (l.map intV) ∧ Chn h (fun n => mayR n 0 bs) n 0 l ∧ 0 ≤ n ∧ n ≤ sumL bs ∧ g = (sumL bs - n).toNat) (sumL bs).toNat ⟨0, [], _, rfl, rfl, OwnL.nil _ _ _ _ _, rfl, by omega, by omega, by omega⟩ ?_
  rintro _ sd V hS ⟨n, l, v, h9, h8, hO, hC, h0, hn, rfl⟩
  refine W.fix (d := 9) h9 ?_
  clear h9
  have hup := chn_up hC
  obtain ⟨la, lc, rfl⟩ := hO.slice
  rw [List.length_map] at h8 hO
  refine W.fix (d := 8) h8 ?_
  clear h8
  (refine jjB ?_; refine jjB ?_; refine jjC ?_; apply jI; exact eI rfl; refine jO rfl rfl rfl rfl ?_)
  refine jjQ (lines_law8 h a c bs _ hbb (by omega)) rfl rfl ?_
  rintro _ w2 hS2 rfl
  have hO2 := hO.ext hS2.ext
  by_cases hlt : n < sumL bs
  rotate_left
  · have e : n = sumL bs := by omega
    subst e
    (refine jja rfl rfl (by omega) ?_; refine jz ?_; refine jjK rfl ?_; refine jjE ?_; refine jjB ?_; refine jjC ?_; apply jI; exact eS rfl; apply jJ; exact eS rfl; apply jJ; exact eB rfl; refine jz ?_; refine jjF ?_; refine jC rfl rfl rfl ⟨inferInstance, ?_⟩)
    exact ⟨l, _, rfl, hO2.mono (by have := hS_b3.size; omega), valid_chn.2 hC, by omega⟩
  (refine jjZ rfl rfl (by omega) ?_; refine jz ?_; refine jjJ rfl ?_; refine jjG ?_; refine jjD ?_; refine jjB ?_; refine jjC ?_; apply jJ; exact eS rfl; refine jz ?_; refine jjB ?_; refine jjB ?_; refine jjC ?_; apply jI; exact eS rfl; refine jh rfl ?_; apply jI; exact eI rfl; refine jz ?_; refine jjD ?_)
  refine W.loop (21 :: 22 :: 23 :: 12 :: 24 :: 25 :: 26 :: 27 :: 28 :: 29 :: 30 :: 31 :: 32 :: 33 :: 34 :: 35 :: 36 :: 37 :: 38 :: 10 :: 39 :: 20 :: []) (fun g s' V => ∃ (k : Nat) (v : Value), s' 20 = .int .i64 ((k : Nat) : Int) ∧ s' 10 = v ∧ OwnL V w2.heap.size 3 false 1 v (((xs.take k).filter fun x => decide (n < x) && decide (x - n ≤ h)).map intV) ∧ g = xs.length - k ∧ k ≤ xs.length) xs.length ⟨0, _, rfl, rfl, OwnL.nil _ _ _ _ _, rfl, by omega⟩ ?_
  rintro _ sd2 V2 hSV2 ⟨k, v2, h20, h10, hO3, rfl, hk⟩
  refine W.fix (d := 20) h20 (W.fix (d := 10) h10 ?_)
  clear h20 h10
  have hfl : ((xs.take k).filter fun x => decide (n < x) && decide (x - n ≤ h)).length ≤ k := by
    have := List.length_filter_le (fun x => decide (n < x) && decide (x - n ≤ h)) (xs.take k)
    rw [List.length_take] at this
    omega
  by_cases hk3 : k < xs.length
  · have hx := hxb k hk3
    have hsn := filt_snoc hk3 fun x => decide (n < x) && decide (x - n ≤ h)
    by_cases hc : n < xs[k] ∧ xs[k] - n ≤ h
    · obtain ⟨hc1, hc2⟩ := hc
      rw [if_pos (by rw [decide_eq_true hc1, decide_eq_true hc2]; rfl)] at hsn
      (refine jjB ?_; refine jjC ?_; refine jjZ rfl rfl (by omega) ?_; refine jz ?_; refine jjB ?_; refine jjJ rfl ?_; refine jjG ?_; refine jjB ?_; refine jjD ?_; refine jjB ?_; refine jjC ?_; refine jF rfl rfl rfl (map_get (by omega)) ?_; intro _ _ _; refine jQ rfl rfl ?_; apply jJ; exact eI rfl; refine jz ?_; refine jjB ?_; refine jjC ?_; apply jI; exact eI rfl; apply jI; exact eI rfl; refine jjd rfl rfl (by omega) ?_; apply jI; exact eB rfl; refine jT rfl rfl rfl ?_; apply jI; exact eI rfl; refine jT rfl rfl rfl ?_; apply jI; exact eI rfl; refine jT rfl rfl rfl ?_; refine jZ rfl rfl (by omega) ?_; refine jT rfl rfl rfl ?_; refine jm ?_; refine jn rfl ?_; refine jT rfl rfl rfl ?_; refine jN rfl rfl rfl ?_; refine jT rfl rfl rfl ?_; refine jjb rfl rfl (by omega) ?_; apply jK rfl; exact eB rfl; refine jz ?_; refine jjJ rfl ?_; refine jjC ?_; apply jI; exact rfl; apply jI; exact eI rfl)
      (refine jjP (v := .int _ _) rfl (by exact rfl) (by exact rfl) (by exact rfl) (by exact rfl) ?_; intro b11 w_b11 hb_b11 hs_b11 hS_b11 hk_b11; have hR_b11 := RowV.one (agg := false) (k := 1) rfl hk_b11)
      refine Ops.appendL (hO3.ext inferInstance) (Ext.size inferInstance) hR_b11 rfl rfl rfl rfl rfl ?_ ?_ ?_
      · simp only [List.length_map, List.length_cons, List.length_nil]; omega
      · simp only [List.length_map, List.length_cons, List.length_nil]; omega
      intro v4 w4 hA4 hO4 _ _
      have hE4 : Ext w2 w4 := hA4.ext inferInstance (Nat.le_refl _)
      (apply jJ; exact rfl; refine jz ?_; refine jjC ?_; refine jY rfl rfl (by omega) ?_; apply jI; exact eI rfl; refine jz ?_)
      refine ⟨rfl, by ((refine Same.upd rfl ?_; refine Same.upd rfl ?_; refine Same.upd rfl ?_; refine Same.upd rfl ?_; refine Same.upd rfl ?_; refine Same.upd rfl ?_; refine Same.upd rfl ?_; refine Same.upd rfl ?_; refine Same.upd rfl ?_; refine Same.upd rfl ?_; refine Same.upd rfl ?_; refine Same.upd rfl ?_; refine Same.upd rfl ?_; refine Same.upd rfl ?_; refine Same.upd rfl ?_; refine Same.upd rfl ?_; refine Same.upd rfl ?_; refine Same.upd rfl ?_; refine Same.upd rfl ?_; refine Same.upd rfl ?_; refine Same.upd rfl ?_; refine Same.upd rfl ?_; refine Same.upd rfl ?_; refine Same.upd rfl ?_; exact Same.ovN)), xs.length - (k + 1), by omega, hE4, k + 1, v4, congrArg (Value.int .i64) (by omega), rfl, ?_, rfl, by omega⟩
      rw [hsn, List.map_append]
      exact hO4
    · rw [if_neg (by rw [Bool.and_eq_true, decide_eq_true_eq, decide_eq_true_eq]; exact hc), List.append_nil] at hsn
      repeat' (first|((first|apply jI|apply jJ|apply jK rfl|apply jL rfl); (first|exact eI rfl|exact eB rfl|exact rfl))|(refine jM ?_; (first|refine jN rfl rfl rfl ?_|refine jQ rfl rfl ?_))|(refine jS ?_; (first|refine jT rfl rfl rfl ?_|refine jU rfl rfl rfl rfl ?_))|(refine jW ?_; (first|refine jX rfl rfl ?_|refine jY rfl rfl (by omega) ?_|refine jZ rfl rfl (by omega) ?_|refine jd rfl rfl ?_|refine je rfl rfl ?_))|(refine jm ?_; refine jn rfl ?_)|(refine jE ?_; (refine jF rfl rfl rfl (map_get (by omega)) ?_; intro _ _ _))|refine jz ?_|(refine jjA ?_; (first|refine jjB ?_|refine jjC ?_|refine jjD ?_|refine jjE ?_|refine jjG ?_|refine jjK rfl ?_))|(refine jS ?_; (refine jjL rfl rfl ?_ ?_ <;> intro _))|(refine jjA ?_; (refine jjN rfl ?_ ?_ <;> intro _)))
      all_goals (try (exfalso; omega))
      all_goals exact ⟨rfl, by (repeat' (first|exact Same.ovN|refine Same.upd rfl ?_)), xs.length - (k + 1), by omega, inferInstance, k + 1, v2, congrArg (Value.int .i64) (by omega), rfl, by rw [hsn]; exact hO3, rfl, by omega⟩
  obtain rfl : k = xs.length := by omega
  rw [List.take_length] at hO3 hfl
  have hO5 := hO2.ext hSV2.ext
  have hmem : ∀ y ∈ xs.filter (fun x => decide (n < x) && decide (x - n ≤ h)), mayR y 0 bs = true ∧ n < y ∧ y ≤ n + h := fun y hy => by
    obtain ⟨y1, y2⟩ := List.mem_filter.1 hy
    rw [Bool.and_eq_true, decide_eq_true_eq, decide_eq_true_eq] at y2
    exact ⟨(hxm y).1 y1, y2.1, by omega⟩
  have hpos : 0 < (xs.filter fun x => decide (n < x) && decide (x - n ≤ h)).length := by
    obtain ⟨m, m1, m2, m3⟩ := may_next hbb h0 hlt
    exact List.length_pos_of_mem (List.mem_filter.2 ⟨(hxm m).2 m1, by rw [decide_eq_true m2, decide_eq_true (by omega)]; rfl⟩)
  generalize xs.filter (fun x => decide (n < x) && decide (x - n ≤ h)) = NX at *
  obtain ⟨na, nc, rfl⟩ := hO3.slice
  rw [List.length_map] at hO3 ⊢
  (refine jjB ?_; refine jjC ?_; refine jja rfl rfl (by omega) ?_; refine jz ?_; refine jjB ?_; refine jjK rfl ?_; refine jjE ?_; refine jjB ?_; refine jjB ?_; refine jjC ?_; apply jI; exact eS rfl; refine jh rfl ?_; refine jji rfl rfl (by omega) ?_; refine jz ?_; refine jjK rfl ?_; refine jjG ?_; refine jjB ?_; refine jjC ?_; apply jI; exact eS rfl; refine jh rfl ?_; refine jZ rfl rfl (by omega) ?_; apply jI; exact eS rfl; apply jI; exact eS rfl; refine jh rfl ?_)
  refine jjQ (choose_law8 ba bc by_ l.length hu (by omega) _) rfl rfl ?_
  rintro _ w6 hS6 ⟨x, rfl, hx0, hx1⟩
  (apply jI; exact eS rfl; refine jh rfl ?_; refine jj rfl rfl ?_)
  refine Ops.rem rfl rfl (by omega) (by omega) ?_
  have hr1 := Int.emod_nonneg x (show min (NX.length : Int) 3 ≠ 0 by omega)
  have hr2 := Int.emod_lt_of_pos x (show 0 < min (NX.length : Int) 3 by omega)
  generalize x % min (NX.length : Int) 3 = r at *
  obtain ⟨j, hj⟩ : ∃ j : Nat, (NX.length : Int) - 1 - r = (j : Int) := ⟨((NX.length : Int) - 1 - r).toNat, by omega⟩
  have iN : RowI w6 (.slice na NX.length nc) false 1 (NX.map intV) := RowI.mk (hO3.row.ext hS6.ext)
  (refine jZ rfl rfl (by omega) ?_; apply jJ; exact eI rfl; refine jz ?_; refine jjB ?_; refine jjC ?_; apply jI; exact eS rfl; apply jI; exact eI rfl)
  rw [hj]
  have hjl : j < NX.length := by omega
  have hy := hmem NX[j] (List.getElem_mem hjl)
  generalize hyv : NX[j] = y at hy
  have hyb := may_in hbb hy.1
  (refine jF rfl rfl rfl (map_get (by omega)) ?_; intro _ _ _; refine jQ rfl rfl ?_; apply jJ; exact eI rfl; refine jz ?_; refine jjC ?_; apply jI; exact eS rfl; apply jI; exact eI rfl)
  rw [hyv]
  (refine jjP (v := .int _ _) rfl (by exact rfl) (by exact rfl) (by exact rfl) (by exact rfl) ?_; intro b12 w_b12 hb_b12 hs_b12 hS_b12 hk_b12; have hR_b12 := RowV.one (agg := false) (k := 1) rfl hk_b12)
  refine Ops.appendL ((hO5.ext hS6.ext).ext inferInstance) (Ext.size inferInstance) hR_b12 rfl rfl rfl rfl rfl ?_ ?_ ?_
  · simp only [List.length_map, List.length_cons, List.length_nil]; omega
  · simp only [List.length_map, List.length_cons, List.length_nil]; omega
  intro v7 w7 hA7 hO7 _ _
  have hE7 : Ext w_b3 w7 := hA7.ext inferInstance (Nat.le_refl _)
  (apply jJ; exact rfl; refine jz ?_)
  refine ⟨rfl, by ((refine Same.upd rfl ?_; refine Same.upd rfl ?_; refine Same.upd rfl ?_; refine Same.upd rfl ?_; refine Same.upd rfl ?_; refine Same.upd rfl ?_; refine Same.upd rfl ?_; refine Same.upd rfl ?_; refine Same.upd rfl ?_; refine Same.upd rfl ?_; refine Same.upd rfl ?_; refine Same.upd rfl ?_; refine Same.upd rfl ?_; refine Same.upd rfl ?_; refine Same.upd rfl ?_; refine Same.upd rfl ?_; refine Same.upd rfl ?_; refine Same.upd rfl ?_; refine Same.upd rfl ?_; refine Same.upd rfl ?_; refine Same.upd rfl ?_; refine Same.upd rfl ?_; refine Same.upd rfl ?_; refine Same.upd rfl ?_; refine Same.upd rfl ?_; refine Same.upd rfl ?_; refine Same.upd rfl ?_; refine Same.upd rfl ?_; refine Same.upd rfl ?_; refine Same.ovN' rfl ?_; refine Same.upd rfl ?_; refine Same.upd rfl ?_; refine Same.upd rfl ?_; refine Same.upd rfl ?_; refine Same.upd rfl ?_; refine Same.upd rfl ?_; refine Same.upd rfl ?_; refine Same.upd rfl ?_; refine Same.upd rfl ?_; refine Same.upd rfl ?_; exact Same.ovN)), (sumL bs - y).toNat, by omega, hE7, y, l ++ [y], v7, rfl, rfl, ?_, hC.snoc1 hy.1 hy.2.1 hy.2.2, by omega, hyb.2, rfl⟩
  rw [List.map_append]
  exact hO7
end Go.Proofs.YtfebegbjggoijaaGreatDoor

/- slices.AppendSeq, slices.Collect of texts, out of an iterator that writes a block of its own. -/
namespace Go.Proofs.YtfebegbjggoijaaGreatDoor
open Go.RowKit

theorem str_one (s : ByteArray) : ([s].map strV).all (fun v => v.cells.toList.all (·.oneCell')) = true := rfl
set_option maxHeartbeats 2000000 in
theorem AppendSeq_strH (xs : List ByteArray) (gf kb : Nat) (lb : List Value) (Fct I : World → Prop) (w : World) (hit : IterH Tryz.prog gf lb xs (fun s => [.string s]) kb Fct I) [he : Enters Tryz.prog gf] (hkb : kb < w.heap.size) (hkd : KbD kb w) (hF : ∀ V, Only kb w V → Fct V) (hI : ∀ V, Ext w V → I V) (hlen : xs.length ≤ 1000000) :
    Calls Tryz.prog 118 [.slice none 0 0, .func (.func gf) #[] lb.toArray].toArray w fun e w' => ∃ v, e = .returned v ∧ Only kb w w' ∧ OwnL w' w.heap.size 9 false 1 v (xs.map strV) := by
  refine Calls.ofWM (by simp) ?_
  (refine jjB ?_; refine jjC ?_)
  (refine jy rfl ?_; intro b2 w_b2 hb_b2 hs_b2 hS_b2 hk_b2; have hA_b2 := At.ofBlock hk_b2)
  have hBk := Bk.of (cs := [.slice none 0 0]) hk_b2
  (apply jJ; exact eS rfl; refine jz ?_; refine jjB ?_; refine jjB ?_; refine jjC ?_; apply jI; exact eF rfl; refine jz ?_; refine jjD ?_)
  have hsz := hS_b2.size
  have hbk : b2 ≠ kb := by omega
  refine W.rangeH w.heap.size kb xs (fun s => [.string s]) hit (by omega) rfl (fun _ => rfl) trivial inferInstance hsz
    (fun i V => Only kb w V ∧ KbD kb V ∧ w_b2.heap.size ≤ V.heap.size ∧ ∃ v, Bk V b2 [v] 71 ∧ OwnL V w_b2.heap.size 9 false 1 v ((xs.take i).map strV))
    (fun _ _ _ => False) ?hJ (fun _ _ _ _ h _ => h) (fun i V h => hF V h.1) (fun V e => hI V (hS_b2.ext.trans e)) (fun i V h => h.2.1) (fun _ _ _ h => h.elim) ⟨.ofExt hS_b2.ext, let ⟨o, h1, h2⟩ := hkd; ⟨o, hS_b2.ext.block' h1, h2⟩, Nat.le_refl _, _, hBk, OwnL.nil _ _ _ _ _⟩
    (MOb b2) ?hM1 ?hM2 (fun x s' V => s' 2 = .pointer (some ⟨b2, 0, none⟩) ∧ s' 5 = .string x) (fun x s V V' h g => h) ?hassign ?hbody ?hdone (fun _ _ _ _ _ _ h => h.elim)
  case hJ =>
    rintro i V V' ⟨h1, h2, h3, v, h4, h5⟩ g
    exact ⟨h1.growB g hsz, g.kd h2, Nat.le_trans h3 g.size, v, h4.growB g hbk, h5.growB g fun e => by have := (h5.block _ e).1; omega⟩
  case hM1 => exact fun i V k ⟨h1, h2, h3, v, h4, h5⟩ h => MOb.lt h4 h5 hbk (by omega) h
  case hM2 => exact fun i V V' k ⟨h1, h2, h3, v, h4, h5⟩ g h => MOb.back h4 g hbk h
  case hassign =>
    rintro l i x V hx h hl hr
    (refine jjC ?_; apply jJ; exact eT rfl; refine jz ?_)
    exact ⟨rfl, Tr.refl _, Fr.refl _ _, h, rfl, rfl⟩
  case hbody =>
    rintro l i x s' V hx ⟨h1, h2, h3, v, h4, h5⟩ ⟨ha2, ha5⟩ hl hr
    have hlt := (List.getElem?_eq_some_iff.1 hx).1
    refine W.fix (d := 2) ha2 (W.fix (d := 5) ha5 ?_)
    (refine jjD ?_; refine jjC ?_; refine jN rfl rfl rfl ?_; apply jI; exact eT rfl)
    (refine jjP (v := .string _) rfl (by exact rfl) (by exact rfl) (by exact rfl) (by exact rfl) ?_; intro b10 w_b10 hb_b10 hs_b10 hS_b10 hk_b10; have hR_b10 := RowV.one (agg := false) (k := 1) rfl hk_b10)
    have e10 := hS_b10.ext
    have hz10 := e10.size
    have hR1 : RowV w_b10 false 1 (.slice (some ⟨b10, 0, none⟩) 1 1) ([x].map strV) := hR_b10
    refine Ops.appendL (h5.ext e10) (by omega) hR1 rfl rfl rfl rfl (str_one x) (by simp; omega) (by simp; omega) ?_
    intro v2 V2 hA hO _ hown2
    obtain ⟨a2, c2, rfl⟩ := hO.slice
    have hb2 : ∀ g, v.ownBlock = some g → w_b2.heap.size ≤ g := fun g hg => (h5.block g hg).1
    have hne : v.ownBlock ≠ some b2 := fun e => by have := hb2 b2 e; omega
    have hnk : v.ownBlock ≠ some kb := fun e => by have := hb2 kb e; omega
    have hB2 : Bk V2 b2 [v] 71 := hA.bk (h4.ext e10) hne
    skip
    refine Ops.store rfl rfl rfl rfl rfl ?_
    intro V3 hp3
    (refine jz ?_)
    have hB3 : Bk V3 b2 [.slice a2 (List.map strV (xs.take i) ++ List.map strV [x]).length c2] 71 := ⟨hp3.new⟩
    have hne2 : (Value.slice a2 (List.map strV (xs.take i) ++ List.map strV [x]).length c2).ownBlock ≠ some b2 := fun e => by rcases hown2 with h | h <;> rw [h] at e; exact hne e; cases e; omega
    have hkV : KbD kb V3 := by
      obtain ⟨o, q1, q2⟩ := h2
      exact ⟨o, (hp3.other kb (fun e => hbk e.symm)).trans (hA.other (e10.block' q1) hnk), q2⟩
    refine ⟨(e10.tr.trans hA.tr).trans (hp3.tr ⟨_, hB2.h, rfl⟩), (Fr.ofExt e10 fun k hk => .inl (MOb.same h4 (h4.ext e10) hk)).trans (MOb.append (h4.ext e10) hA hp3 hB3 hown2), ?_, hkV, ?_, _, hB3, ?_⟩
    · have hO1 : Only kb w_b2 V3 → Only kb w V3 := fun h => (Only.ofExt hS_b2.ext).trans h
      refine ⟨hp3.os.trans (hA.g.os.trans (e10.b.os.trans h1.os)), hp3.tape.trans (hA.g.tape.trans (e10.b.tape.trans h1.tape)), hp3.output.trans (hA.g.output.trans (e10.b.output.trans h1.output)), ?_, fun k hk hn => ?_⟩
      · have := hA.g.size; have := h1.size; rw [hp3.size]; omega
      · have hkV' : k < V.heap.size := by have := h1.size; omega
        refine (hp3.other k (by omega)).trans ((hA.g.block k (by omega) (fun e => by have := hb2 k e.symm; omega)).trans ((e10.block hkV').trans (h1.other k hk hn)))
    · have := hA.g.size; rw [hp3.size]; omega
    · rw [take_snoc_get hx, List.map_append]
      exact hO.put hp3 hne2
  case hdone =>
    rintro ds' V hmk ⟨h1, h2, h3, v, h4, h5⟩
    have := h4
    (refine jjB ?_; refine jjC ?_; refine jN rfl rfl rfl ?_; apply jJ; exact rfl; refine jz ?_; refine jjF ?_)
    refine fin1M rfl rfl hmk fun w' g => ⟨_, rfl, h1.growB (g.toB (kb := kb)) (Nat.le_refl _), ?_⟩
    rw [List.take_length] at h5
    exact (h5.grow g).mono hsz
theorem Collect_strH (xs : List ByteArray) (gf kb : Nat) (lb : List Value) (Fct I : World → Prop) (w : World) (hit : IterH Tryz.prog gf lb xs (fun s => [.string s]) kb Fct I) [he : Enters Tryz.prog gf] (hkb : kb < w.heap.size) (hkd : KbD kb w) (hF : ∀ V, Only kb w V → Fct V) (hI : ∀ V, Ext w V → I V) (hlen : xs.length ≤ 1000000) :
    Calls Tryz.prog 107 [.func (.func gf) #[] lb.toArray].toArray w fun e w' => ∃ v, e = .returned v ∧ Only kb w w' ∧ OwnL w' w.heap.size 9 false 1 v (xs.map strV) := by
  refine Calls.ofW (by simp) ?_
  (refine jjB ?_; refine jjC ?_; apply jJ; exact eS rfl; refine jz ?_; refine jjB ?_; refine jjC ?_; apply jI; exact eF rfl)
  refine Ops.callR rfl (Enters.h (P := Tryz.prog) (g := 118)) rfl (AppendSeq_strH xs gf kb lb Fct I w hit hkb hkd hF hI hlen) ?_
  rintro e w' ⟨v, rfl, hO, hL⟩
  refine ⟨v, rfl, ?_⟩
  (apply jJ; exact rfl; refine jz ?_; refine jjF ?_)
  refine jB rfl rfl ⟨_, rfl, hO, hL⟩
end Go.Proofs.YtfebegbjggoijaaGreatDoor

/- slices.SortFunc of texts by cmp.Compare: the contract of the library's shelf at this program. -/
namespace Go.Proofs.YtfebegbjggoijaaGreatDoor
open Go.Shelf Go.RowKit Go.Lib Go.Sort
def sh_laysSlF6_f108_ren : Go.Shelf.Ren := ⟨fun | 6 => 108 | 15 => 120 | 14 => 119 | 28 => 134 | 29 => 135 | 20 => 126 | 21 => 127 | 22 => 128 | 23 => 129 | 24 => 130 | 25 => 131 | 26 => 132 | 27 => 133 | 46 => 138 | 47 => 139 | 48 => 140 | 49 => 141 | 50 => 142 | 57 => 145 | n => n, fun | 22 => 71 | 24 => 9 | 25 => 129 | 3 => 3 | 39 => 167 | 0 => 0 | 53 => 108 | 55 => 206 | 4 => 4 | 46 => 199 | 45 => 198 | 50 => 103 | 5 => 5 | 9 => 9 | 66 => 208 | 70 => 212 | 76 => 217 | 77 => 99 | n => n, fun | n => n⟩

theorem sh_laysSlF6_f108 : Go.Proofs.SlLaysF.n6 Tryz.prog sh_laysSlF6_f108_ren := {
  mixed := by kernel_rfl
  f6 := ⟨Tryz.f108.name, by decide, Tryz.func108.trans (congrArg some (by kernel_rfl))⟩
  f14 := ⟨Tryz.f119.name, by decide, Tryz.func119.trans (congrArg some (by kernel_rfl))⟩
  f15 := Tryz.func120.trans (congrArg some (by kernel_rfl))
  f20 := ⟨Tryz.f126.name, by decide, Tryz.func126.trans (congrArg some (by kernel_rfl))⟩
  f21 := ⟨Tryz.f127.name, by decide, Tryz.func127.trans (congrArg some (by kernel_rfl))⟩
  f22 := ⟨Tryz.f128.name, by decide, Tryz.func128.trans (congrArg some (by kernel_rfl))⟩
  f23 := ⟨Tryz.f129.name, by decide, Tryz.func129.trans (congrArg some (by kernel_rfl))⟩
  f24 := ⟨Tryz.f130.name, by decide, Tryz.func130.trans (congrArg some (by kernel_rfl))⟩
  f25 := ⟨Tryz.f131.name, by decide, Tryz.func131.trans (congrArg some (by kernel_rfl))⟩
  f26 := ⟨Tryz.f132.name, by decide, Tryz.func132.trans (congrArg some (by kernel_rfl))⟩
  f27 := ⟨Tryz.f133.name, by decide, Tryz.func133.trans (congrArg some (by kernel_rfl))⟩
  f28 := Tryz.func134.trans (congrArg some (by kernel_rfl))
  f29 := Tryz.func135.trans (congrArg some (by kernel_rfl))
  f46 := ⟨Tryz.f138.name, by decide, Tryz.func138.trans (congrArg some (by kernel_rfl))⟩
  f47 := Tryz.func139.trans (congrArg some (by kernel_rfl))
  f48 := Tryz.func140.trans (congrArg some (by kernel_rfl))
  f49 := ⟨Tryz.f141.name, by decide, Tryz.func141.trans (congrArg some (by kernel_rfl))⟩
  f50 := ⟨Tryz.f142.name, by decide, Tryz.func142.trans (congrArg some (by kernel_rfl))⟩
  f57 := ⟨Tryz.f145.name, by decide, Tryz.func145.trans (congrArg some (by kernel_rfl))⟩
  t0 := Tryz.underlying0
  a0 := Tryz.isAgg0
  z0 := Tryz.sizeOf0
  v0 := Tryz.zeroValue0
  t3 := Tryz.underlying3
  a3 := Tryz.isAgg3
  z3 := Tryz.sizeOf3
  v3 := Tryz.zeroValue3
  t4 := Tryz.underlying4
  a4 := Tryz.isAgg4
  z4 := Tryz.sizeOf4
  v4 := Tryz.zeroValue4
  t5 := Tryz.underlying5
  a5 := Tryz.isAgg5
  z5 := Tryz.sizeOf5
  v5 := Tryz.zeroValue5
  t9 := Tryz.underlying9
  a9 := Tryz.isAgg9
  z9 := Tryz.sizeOf9
  v9 := Tryz.zeroValue9
  t22 := Tryz.underlying71
  a22 := Tryz.isAgg71
  z22 := Tryz.sizeOf71
  v22 := Tryz.zeroValue71
  a24 := Tryz.isAgg9
  z24 := Tryz.sizeOf9
  t25 := Tryz.underlying129
  a25 := Tryz.isAgg129
  z25 := Tryz.sizeOf129
  v25 := Tryz.zeroValue129
  t39 := Tryz.underlying167
  a39 := Tryz.isAgg167
  z39 := Tryz.sizeOf167
  v39 := Tryz.zeroValue167
  t45 := Tryz.underlying198
  a45 := Tryz.isAgg198
  z45 := Tryz.sizeOf198
  v45 := Tryz.zeroValue198
  t46 := Tryz.underlying199
  a46 := Tryz.isAgg199
  z46 := Tryz.sizeOf199
  v46 := Tryz.zeroValue199
  t50 := Tryz.underlying103
  a50 := Tryz.isAgg103
  z50 := Tryz.sizeOf103
  v50 := Tryz.zeroValue103
  t53 := Tryz.underlying108
  a53 := Tryz.isAgg108
  z53 := Tryz.sizeOf108
  v53 := Tryz.zeroValue108
  t55 := Tryz.underlying206
  a55 := Tryz.isAgg206
  z55 := Tryz.sizeOf206
  v55 := Tryz.zeroValue206
  t66 := Tryz.underlying208
  a66 := Tryz.isAgg208
  z66 := Tryz.sizeOf208
  v66 := Tryz.zeroValue208
  t70 := Tryz.underlying212
  a70 := Tryz.isAgg212
  z70 := Tryz.sizeOf212
  v70 := Tryz.zeroValue212
  t76 := Tryz.underlying217
  a76 := Tryz.isAgg217
  z76 := Tryz.sizeOf217
  v76 := Tryz.zeroValue217
  t77 := Tryz.underlying99
  a77 := Tryz.isAgg99
  z77 := Tryz.sizeOf99
  v77 := Tryz.zeroValue99 }

theorem sh_slices_SortFunc {α : Type} [Inhabited α] (enc : α → Value) (h1 : OneCell enc) (cf : α → α → Int) (hO : SWO (ltOf cf)) (g : Nat) (cb : Array Value) (blk off cap : Nat) (d : Array α) (w : World) (eg : ∀ args w, (callFunc g args).run Tryz.prog w = .ok (.enter g args) w) (hcmp : CmpLays1 Tryz.prog g cb enc cf blk off d.size w) (hH : Holds enc w blk off d) (hblk : blk < w.heap.size) (hsz : d.size < 4611686018427387904) :
    Calls Tryz.prog 108 #[.slice (some ⟨blk, off, none⟩) d.size cap, .func (.func g) #[] cb] w fun e w' =>
      e = .returned (.tuple #[]) ∧ ∃ d' n os, PermIn 0 d.size d d' ∧ SortedIn (ltOf cf) 0 d.size d' ∧ w' = sortWorld enc w blk off n d' os := Any.slices_SortFunc sh_laysSlF6_f108 enc h1 cf hO g cb blk off cap d w eg hcmp hH hblk hsz
theorem isNaN_strX (x : ByteArray) (w : World) : Calls Tryz.prog 93 [Value.string x].toArray w fun e w' => e = .returned (.bool false) ∧ w' = w := by
  refine Calls.ofW (by simp) ?_
  (refine jjB ?_; refine jjC ?_; apply jJ; exact eB rfl; refine jz ?_; refine jjB ?_; refine jjC ?_; apply jI; exact eT rfl; apply jI; exact eT rfl)
  refine Ops.neqS rfl rfl ?_
  (apply jJ; exact eB rfl; refine jz ?_; refine jjF ?_)
  exact jB rfl rfl ⟨congrArg Ending.returned (congrArg Value.bool (by simp)), rfl⟩
theorem Compare_strX (x y : ByteArray) (w : World) : Calls Tryz.prog 72 [Value.string x, Value.string y].toArray w fun e w' => e = .returned (.int .i64 (cmpS x y)) ∧ w' = w := by
  refine Calls.ofW (by simp) ?_
  (refine jjB ?_; refine jjC ?_; apply jJ; exact eI rfl; refine jz ?_; refine jjB ?_; refine jjC ?_; apply jI; exact eT rfl)
  refine Ops.callR rfl (Enters.h (P := Tryz.prog) (g := 93)) rfl (isNaN_strX x _) ?_
  rintro e w2 ⟨rfl, rfl⟩
  refine ⟨_, rfl, ?_⟩
  (apply jJ; exact eB rfl; refine jz ?_; refine jjB ?_; refine jjC ?_; apply jI; exact eT rfl)
  refine Ops.callR rfl (Enters.h (P := Tryz.prog) (g := 93)) rfl (isNaN_strX y _) ?_
  rintro e w3 ⟨rfl, rfl⟩
  refine ⟨_, rfl, ?_⟩
  (apply jJ; exact eB rfl; refine jz ?_; refine jjB ?_; refine jjB ?_; refine jjC ?_; apply jI; exact eB rfl; refine jz ?_; refine jjK rfl ?_; refine jjG ?_; refine jjB ?_; refine jjB ?_; refine jjC ?_; apply jI; exact eB rfl; refine jz ?_; refine jjK rfl ?_; refine jjG ?_; refine jjB ?_; refine jjB ?_; refine jjC ?_; apply jI; exact eT rfl; apply jI; exact eT rfl)
  refine Ops.lssS rfl rfl ?_
  obtain ⟨B, hB⟩ : ∃ B, Op.bytesLess x.toList y.toList = B := ⟨_, rfl⟩
  rw [cmpS, hB]
  cases B
  · (refine jz ?_; refine jjK rfl ?_; refine jjG ?_; refine jjB ?_; refine jjB ?_; refine jjC ?_; apply jI; exact eT rfl; apply jI; exact eT rfl)
    refine Ops.gtrS rfl rfl ?_
    rw [hB, beqS, Bool.false_or]
    by_cases e : x = y
    · rw [decide_eq_true e, if_pos e]
      (refine jz ?_; refine jjK rfl ?_; refine jjG ?_; refine jjB ?_; refine jjC ?_; apply jJ; exact eI rfl; refine jz ?_; refine jjF ?_)
      exact jB rfl rfl ⟨rfl, rfl⟩
    · rw [decide_eq_false e, if_neg e]
      (refine jz ?_; refine jjJ rfl ?_; refine jjB ?_; refine jjC ?_; apply jJ; exact eI rfl; refine jz ?_; refine jjF ?_)
      exact jB rfl rfl ⟨rfl, rfl⟩
  · (refine jz ?_; refine jjJ rfl ?_; refine jjB ?_; refine jjC ?_; apply jJ; exact eI rfl; refine jz ?_; refine jjF ?_)
    exact jB rfl rfl ⟨rfl, rfl⟩
theorem swo_str : SWO (ltOf cmpS) where
  irrefl x := by rw [ltOf, cmpS_self]; rfl
  trans x y z h1 h2 := by
    simp only [ltOf, decide_eq_true_eq] at h1 h2 ⊢
    have r1 := ord_cmpS.r x y
    have r2 := ord_cmpS.r y z
    have := ord_cmpS.tr x y z (by omega) (by omega)
    omega
  ntrans x y z h1 h2 := by
    simp only [ltOf, decide_eq_false_iff_not] at h1 h2 ⊢
    intro h3
    have r1 := ord_cmpS.r x y
    have r3 := ord_cmpS.r x z
    have a1 := ord_cmpS.anti x y
    by_cases e : cmpS x y = 0
    · obtain rfl := (ord_cmpS.z _ _).1 e
      omega
    · have := ord_cmpS.tr y x z (by omega) (by omega)
      omega
theorem Only.sorted {α : Type} [Inhabited α] {enc : α → Value} {w : World} {g m : Nat} {d : Array α} {os : Array Obj} : Only g w (sortWorld enc w g 0 m d os) := by
  refine ⟨rfl, rfl, rfl, by simp [sortWorld, grow, putRow, mapBlock, Go.Sort.ahead], fun k hk hn => ?_⟩
  have h1 : k < (putRow enc (Go.Sort.ahead w m) g 0 d).heap.size := by simpa [putRow, mapBlock, Go.Sort.ahead] using hk
  rw [sortWorld, heap_grow_old _ _ h1]
  simp only [putRow, mapBlock, Go.Sort.ahead, Array.getElem?_modify]
  rw [if_neg (fun e => hn e.symm)]
set_option maxHeartbeats 1000000 in
theorem SortFunc_str (g n c : Nat) (l : List ByteArray) (w : World) {B : Nat} (hO : OwnL w B 9 false 1 (.slice (some ⟨g, 0, none⟩) n c) (l.map strV)) (hn : n ≤ 1000000) :
    Calls Tryz.prog 108 [.slice (some ⟨g, 0, none⟩) n c, .func (.func 72) #[] #[]].toArray w fun e w' => (∃ v, e = .returned v) ∧ Only g w w' ∧ ∃ r : List ByteArray, r.Perm l ∧ r.Pairwise (fun a b => cmpS b a ≠ -1) ∧ OwnL w' g 9 false 1 (.slice (some ⟨g, 0, none⟩) n c) (r.map strV) := by
  obtain ⟨cs, hB, hcl, hnc, hcm, hln, htk, hBg⟩ := hO.cells
  rw [List.length_map] at hln
  have hsz : l.toArray.size = n := by simpa using hln
  have hcell : ∀ j, j < n → ∃ (h : j < l.length), cs[j]? = some (strV l[j]) := fun j hj => by
    have h1 : j < l.length := by omega
    refine ⟨h1, ?_⟩
    have h2 : (cs.take n)[j]? = some (strV l[j]) := by rw [htk, List.getElem?_map, List.getElem?_eq_getElem h1]; rfl
    rwa [List.getElem?_take, if_pos hj] at h2
  have hH : Holds strV w g 0 l.toArray := fun j hj => by
    rw [hsz] at hj
    obtain ⟨h1, h2⟩ := hcell j hj
    have e1 : l.toArray[j]! = l[j] := by rw [getElem!_pos _ j (by simpa using h1)]; rfl
    rw [e1, Nat.zero_add]
    constructor
    · simp only [World.cell?, hB.h]
      simpa using h2
    · simp [World.frozen?, hB.h]
  have hc := sh_slices_SortFunc strV (fun _ => rfl) cmpS swo_str 72 #[] g 0 c l.toArray w (Enters.h (P := Tryz.prog) (g := 72)) (fun m os dk _ x y => by
    refine (Compare_strX x y _).mono fun e w' ⟨h1, h2⟩ => ⟨h1, 0, #[], ?_⟩
    rw [h2, grow_empty]; rfl) hH hB.lt (by omega)
  rw [hsz] at hc
  refine Calls.mono hc fun e w' ⟨he, d', m, os, hp, hs, hw⟩ => ⟨⟨_, he⟩, by rw [hw]; exact Only.sorted, d'.toList, ?_, ?_, ?_⟩
  · obtain ⟨h1, _, h2⟩ := hp
    have ex : ∀ (x : Array ByteArray), x.size = n → x.extract 0 n = x := fun x hx => by subst hx; simp
    have e1 := ex d' (h1.trans hsz)
    have e2 := ex l.toArray hsz
    rw [e1, e2] at h2
    simpa using h2
  · have h1 : d'.size = n := hp.1.trans hsz
    rw [List.pairwise_iff_getElem]
    intro i j hi hj hij
    have := hs i j (Nat.zero_le _) hij (by simpa [h1] using hj)
    rw [getElem!_pos _ j (by simpa using hj), getElem!_pos _ i (by simpa using hi)] at this
    simp only [ltOf, decide_eq_false_iff_not] at this
    simp only [Array.getElem_toList]
    omega
  · have h1 : d'.size = n := hp.1.trans hsz
    have hBk : Bk w' g (putCells strV 0 d' cs.toArray).toList 9 := by
      refine ⟨?_⟩
      rw [hw, sortWorld, heap_grow_old _ _ (by simpa [putRow, mapBlock, Go.Sort.ahead] using hB.lt)]
      simp [putRow, mapBlock, Go.Sort.ahead, Array.getElem?_modify, hB.h, onCells]
    refine OwnL.ofCells hBk (by simp [putCells, hcl]) hnc hcm ?_ (by omega) (Nat.le_refl _) fun x hx => by obtain ⟨y, _, rfl⟩ := List.mem_map.1 hx; rfl
    apply List.ext_getElem?
    intro j
    rw [List.getElem?_take]
    by_cases hj : j < n
    · rw [if_pos hj]
      have hjc : j < cs.length := by omega
      have hjd : j < d'.size := by omega
      simp [putCells, hjc, h1, hj, getElem!_pos d' j hjd]
    · rw [if_neg hj, List.getElem?_eq_none (by simp; omega)]
end Go.Proofs.YtfebegbjggoijaaGreatDoor

/- leaf: Vocabulary. -/
namespace Go.Proofs.YtfebegbjggoijaaGreatDoor
open Go.RowKit

theorem SortedFunc_strH (xs : List ByteArray) (gf kb : Nat) (lb : List Value) (Fct I : World → Prop) (w : World) (hit : IterH Tryz.prog gf lb xs (fun s => [.string s]) kb Fct I) [he : Enters Tryz.prog gf] (hkb : kb < w.heap.size) (hkd : KbD kb w) (hF : ∀ V, Only kb w V → Fct V) (hI : ∀ V, Ext w V → I V) (hlen : xs.length ≤ 1000000) (h0 : 0 < xs.length) :
    Calls Tryz.prog 92 [.func (.func gf) #[] lb.toArray, .func (.func 72) #[] #[]].toArray w fun e w' => ∃ (v : Value) (r : List ByteArray), e = .returned v ∧ Only kb w w' ∧ r.Perm xs ∧ r.Pairwise (fun a b => cmpS b a ≠ -1) ∧ OwnL w' w.heap.size 9 false 1 v (r.map strV) := by
  refine Calls.ofW (by simp) ?_
  (refine jjB ?_; refine jjC ?_; apply jJ; exact eS rfl; refine jz ?_; refine jjB ?_; refine jjC ?_; apply jI; exact eF rfl)
  refine Ops.callR rfl (Enters.h (P := Tryz.prog) (g := 107)) rfl (Collect_strH xs gf kb lb Fct I w hit hkb hkd hF hI hlen) ?_
  rintro e w1 ⟨v, rfl, hOn, hO⟩
  obtain ⟨a, c, ev⟩ := hO.slice
  rw [List.length_map] at ev
  subst ev
  obtain ⟨g, rfl, hg, hOg⟩ := hO.self (by rw [List.length_map]; exact h0)
  refine ⟨_, rfl, ?_⟩
  (apply jJ; exact eS rfl; refine jz ?_; refine jjB ?_; refine jjC ?_; apply jI; exact eS rfl; apply jI; exact eF rfl)
  refine Ops.callR rfl (Enters.h (P := Tryz.prog) (g := 108)) rfl (SortFunc_str g xs.length c xs w1 hOg (by omega)) ?_
  rintro e w2 ⟨⟨v2, rfl⟩, hOn2, r, hp, hs, hO2⟩
  refine ⟨_, rfl, ?_⟩
  have hOn3 : Only kb w w2 := ⟨hOn2.os.trans hOn.os, hOn2.tape.trans hOn.tape, hOn2.output.trans hOn.output, Nat.le_trans hOn.size hOn2.size, fun k hk hn => (hOn2.other k (by have := hOn.size; omega) (by omega)).trans (hOn.other k hk hn)⟩
  (refine jz ?_; refine jjB ?_; refine jjC ?_; apply jI; exact eS rfl; apply jJ; exact eS rfl; refine jz ?_; refine jjF ?_)
  exact jB rfl rfl ⟨_, r, rfl, hOn3, hp, hs, hO2.mono hg⟩
theorem sorted_strH (xs : List ByteArray) (gf kb : Nat) (lb : List Value) (Fct I : World → Prop) (w : World) (hit : IterH Tryz.prog gf lb xs (fun s => [.string s]) kb Fct I) [he : Enters Tryz.prog gf] (hkb : kb < w.heap.size) (hkd : KbD kb w) (hF : ∀ V, Only kb w V → Fct V) (hI : ∀ V, Ext w V → I V) (hlen : xs.length ≤ 1000000) (h0 : 0 < xs.length) :
    Calls Tryz.prog 71 [.func (.func gf) #[] lb.toArray, .func (.func 72) #[] #[]].toArray w fun e w' => ∃ (v : Value) (r : List ByteArray), e = .returned v ∧ Only kb w w' ∧ r.Perm xs ∧ r.Pairwise (fun a b => cmpS b a ≠ -1) ∧ OwnL w' w.heap.size 9 false 1 v (r.map strV) := by
  refine Calls.ofW (by simp) ?_
  (refine jjB ?_; refine jjC ?_; apply jJ; exact eS rfl; refine jz ?_; refine jjB ?_; refine jjC ?_; apply jI; exact eF rfl; apply jI; exact eF rfl)
  refine Ops.callR rfl (Enters.h (P := Tryz.prog) (g := 92)) rfl (SortedFunc_strH xs gf kb lb Fct I w hit hkb hkd hF hI hlen h0) ?_
  rintro e w1 ⟨v, r, rfl, hOn, hp, hs, hO⟩
  refine ⟨_, rfl, ?_⟩
  (apply jJ; exact rfl; refine jz ?_; refine jjF ?_)
  exact jB rfl rfl ⟨_, r, rfl, hOn, hp, hs, hO⟩
/-- The words of a text in order, or the error. -/
def vocR (t : Tx) : List ByteArray × Int := if textB t then (vocL (wsOf t), 0) else ([], 10)
section
variable (a : Option Addr) (c : Nat) (cs : List Ch) (w : World) [hrow : RowI w (.slice a cs.length c) true 2 (cs.map encCh)] [hT : TextI w cs]
set_option maxHeartbeats 4000000 in
theorem Vocabulary_leaf (hs : SmallT cs) : Ct Tryz.prog 39 [.agg #[.slice a cs.length c]] w fun v w' => ∃ sv, v = .tuple #[sv, .int .i64 (vocR (txF cs)).2] ∧ OwnL w' w.heap.size 9 false 1 sv ((vocR (txF cs)).1.map strV) := by
  refine Ct.ofW (by simp) ?_
  (refine jjB ?_; refine jjC ?_)
  (refine jy rfl ?_; intro b1 w_b1 hb_b1 hs_b1 hS_b1 hk_b1; have hA_b1 := At.ofBlock hk_b1)
  (apply jJ; exact eS rfl; apply jJ; exact eI rfl; refine jz ?_; refine jjB ?_; refine jjC ?_; refine jO rfl rfl rfl rfl ?_)
  obtain ⟨B, hB⟩ : ∃ B, textB (txF cs) = B := ⟨_, rfl⟩
  refine jjQ ((open_leaf a c cs _ hs).mono fun v _ _ h => by rw [hB] at h; exact h) rfl rfl ?_
  rintro _ w2 hS2 ⟨o, rfl, ho⟩
  rw [vocR, hB]
  cases B with
  | false =>
    (apply jI; exact eU rfl; refine ju rfl rfl ?_; refine ju rfl rfl ?_)
    (apply jjR rfl; (intro _; first|exact eI rfl|exact eB rfl|exact eP rfl|exact eS rfl|exact eT rfl|exact eA rfl|exact eU rfl|exact eF rfl|exact eM rfl|exact eN rfl|exact rfl); exact rfl; exact rfl; exact rfl; exact rfl; intro b4 w_b4 hb_b4 hs_b4 hS_b4 hk_b4; have hA_b4 := Bk.of hk_b4)
    (apply jJ; exact eI rfl; refine jz ?_; refine jjB ?_; refine jjB ?_; refine jjC ?_; apply jI; exact eI rfl; refine jc rfl rfl ?_; refine jz ?_; refine jjJ rfl ?_; refine jjB ?_; refine jjC ?_; apply jI; exact eI rfl; apply jJ; exact eS rfl; apply jJ; exact eI rfl; refine jz ?_; refine jjF ?_; refine jC rfl rfl rfl ⟨inferInstance, ?_⟩)
    exact ⟨_, rfl, OwnL.nil _ _ _ _ _⟩
  | true =>
  obtain ⟨bk, hbk, rfl, hAk⟩ := ho rfl
  rw [if_pos rfl]
  (apply jI; exact eU rfl; refine ju rfl rfl ?_; refine ju rfl rfl ?_)
  (apply jjR rfl; (intro _; first|exact eI rfl|exact eB rfl|exact eP rfl|exact eS rfl|exact eT rfl|exact eA rfl|exact eU rfl|exact eF rfl|exact eM rfl|exact eN rfl|exact rfl); exact rfl; exact rfl; exact rfl; exact rfl; intro b4 w_b4 hb_b4 hs_b4 hS_b4 hk_b4; have hA_b4 := Bk.of hk_b4)
  have hAk4 : At w_b4 bk 0 [.slice a cs.length c] := hAk.ext hS_b4.ext
  (apply jJ; exact eI rfl; refine jz ?_; refine jjB ?_; refine jjB ?_; refine jjC ?_; apply jI; exact eI rfl; refine jc rfl rfl ?_; refine jz ?_; refine jjK rfl ?_; refine jjG ?_; refine jjB ?_; refine jjC ?_; refine jN rfl rfl rfl ?_)
  refine jjQ (index_leaf a c cs _ hs hB bk) rfl rfl ?_
  rintro _ w4 hS4 ⟨mb, m, rfl, hmb, hM, hnd, hO⟩
  skip
  (apply jjR rfl; (intro _; first|exact eI rfl|exact eB rfl|exact eP rfl|exact eS rfl|exact eT rfl|exact eA rfl|exact eU rfl|exact eF rfl|exact eM rfl|exact eN rfl|exact rfl); exact rfl; exact rfl; exact rfl; exact rfl; intro b6 w_b6 hb_b6 hs_b6 hS_b6 hk_b6; have hA_b6 := Bk.of hk_b6)
  (refine jz ?_; refine jjB ?_; refine jjC ?_; refine jv ?_; apply jJ; exact eF rfl; refine jz ?_; refine jjB ?_; refine jjC ?_; apply jI; exact eF rfl)
  have hE6 : Ext w w_b6 := inferInstance
  have z4 := hS_b4.size
  have z6 := hS4.size
  have hMl := hM.lt
  have hM6 : MapE Value.string w_b6 mb m := hM.ext hS_b6.ext
  have hA4 : At w_b6 b4 0 [.pointer (some ⟨bk, 0, none⟩)] := inferInstance
  have hA6 : At w_b6 b6 0 [.map (some mb)] := inferInstance
  have hAk6 : At w_b6 bk 0 [.slice a cs.length c] := inferInstance
  have hwm : w.heap.size ≤ mb := by
    have := (show Ext w w_b4 from inferInstance).size
    omega
  have n4 : b4 ≠ mb := by omega
  have n6 : b6 ≠ mb := by omega
  have hlk := hAk.lt
  have nk : bk ≠ mb := by omega
  have hws : (wsOf (txF cs)).length = (allW (txF cs) (txF cs).length).length := by rw [wsOf, List.length_map]
  have hal := allW_small hB
  have hdl := dstL_len (ws := wsOf (txF cs)) (wsOf (txF cs)).length
  have hd0 : 0 < (dstL (wsOf (txF cs)) (wsOf (txF cs)).length).length := by
    have hpos := allP_pos hB
    rw [← allW_len] at hpos
    obtain ⟨x, hx⟩ : ∃ x, (allW (txF cs) (txF cs).length)[0]? = some x := ⟨_, List.getElem?_eq_getElem hpos⟩
    have := dstL_at (wsOf_get hx) (by simp)
    exact Nat.lt_of_le_of_lt (Nat.zero_le _) (List.getElem?_eq_some_iff.1 this).1
  refine Ops.callR rfl (Enters.h (P := Tryz.prog) (g := 71)) rfl (sorted_strH (dstL (wsOf (txF cs)) (wsOf (txF cs)).length) 69 mb [.pointer (some ⟨b4, 0, none⟩), .pointer (some ⟨b6, 0, none⟩)] _ _ _ (each1_leaf b4 b6 bk mb a c cs hs) (by omega) hM6.loopy (fun V hV => ?hF) (fun V hV => ?hI) (by omega) hd0) ?_
  case hF =>
    have e := hV.ext hE6 hwm
    exact ⟨hV.at_ hA4 n4, hV.at_ hA6 n6, hV.at_ hAk6 nk, hrow.h.ext e, hT.ext e⟩
  case hI =>
    refine ⟨m, hM6.ext hV, hnd, fun s => ?_⟩
    obtain ⟨qa, qc, e⟩ := (hO s).slice
    exact ⟨qa, qc, by rw [e, List.length_map]; rfl⟩
  rintro e w7 ⟨v, r, rfl, hOn, hp, hs', hOr⟩
  refine ⟨_, rfl, ?_⟩
  have hr := voc_sort hp hs'
  rw [hr] at hOr
  obtain ⟨va, vl, vc, rfl⟩ := hOr.slice3
  (apply jJ; exact eS rfl; apply jJ; exact eI rfl; refine jz ?_; refine jjF ?_)
  exact jC rfl rfl rfl ⟨hOn.ext hE6 hwm, _, rfl, hOr.mono hE6.size⟩
end
end Go.Proofs.YtfebegbjggoijaaGreatDoor

/- The proof engine, part 33: ends of slices, told outright; rows beside what is appended. -/
namespace Go.Proofs.YtfebegbjggoijaaGreatDoor
open Go.RowKit

theorem RowV.takeV {w : World} {agg : Bool} {k l c : Nat} {a : Option Addr} {xs : List Value} (h : RowV w agg k (.slice a l c) xs) {hi : Nat} (h2 : hi ≤ xs.length) : RowV w agg k (.slice a hi c) (xs.take hi) := by
  obtain ⟨rfl, hlc⟩ := h.cap
  have := h.part 0 hi (Nat.zero_le _) h2 c (by omega) a (fun _ => by cases a <;> simp [Addr.add])
  simpa using this
theorem RowV.dropV {w : World} {agg : Bool} {k l c : Nat} {a : Option Addr} {xs : List Value} (h : RowV w agg k (.slice a l c) xs) {lo : Nat} (h2 : lo ≤ xs.length) : RowV w agg k (cutV a c k lo l) (xs.drop lo) := by
  obtain ⟨rfl, hlc⟩ := h.cap
  have := h.cut (lo := lo) (hi := xs.length) h2 (Nat.le_refl _)
  rwa [List.take_length] at this
theorem App.row {B : Nat} {w w' : World} {u v : Value} {agg : Bool} {k : Nat} {xs : List Value} (a : App B w w' u) (h : RowV w agg k v xs) (hne : ∀ g, u.ownBlock = some g → v.ownBlock ≠ some g) : RowV w' agg k v xs :=
  ⟨h.len, h.fit, h.at_.imp id fun ⟨b, o, c, hv, hl, hc⟩ => ⟨b, o, c, hv, hl, fun j x hx => a.at_ (hc j x hx) (fun e => hne b e (by rw [hv]; rfl))⟩⟩
section rules
variable {P : Program} {ro : Option Nat} {n : Nat} {all rest : List Oper} {K : Sl → World → Prop} {s : Sl} {w : World} {d t e ty : Nat} {pos : String} {af : Array Edge} {x : Operand}
theorem Ops.sliceXLv {k bytes l c lo : Nat} {z : Value} {a : Option Addr} {i : Int} {k1 : IntKind} {xl : Operand} (hx : ev n s x = .slice a l c) (hl : ev n s xl = .int k1 i)
    (hi' : i = (lo : Int)) (h1 : lo ≤ l) [ht : TSl P t e] [hz : TS P e z k bytes]
    (h : Ops P ro n all rest K (upd s d (cutV a c k lo l)) w) : Ops P ro n all (⟨some d, .slice t x (some xl) none none, ty, pos, af, none⟩ :: rest) K s w := by
  subst hi'
  refine Ops.ofRun (v := cutV a c k lo l) (w' := w) rfl ?_ h
  simp [cutV, execOp, Instr.sliceAt, Instr.slice, Instr.sliceBounds, Instr.sliceBound, hx, hl, run_underlying ht.h, asIntOf, h1, run_sizeOf' w hz]
end rules
end Go.Proofs.YtfebegbjggoijaaGreatDoor
