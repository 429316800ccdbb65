/- Texts of the proof, part 5: Sl8, Sl9, Sw5, PlF, Sr1, Sr2, Sr3, Sr4, Sr5, Sr6, PlE, Sw2, Sw3, MpK, KeyP, Eng26, Sw4, Sw1, PlG, PlJ, PlX, Eng28, Al1, Al2, Lf3. -/
import Derived.KernelRfl
import Derived.Test.YtgnjjocafmofaaaGreatDoorSE4
/- slip: Make, All, Part. -/
namespace Go.Proofs.YtgnjjocafmofaaaGreatDoor
open Go.RowKit

section
variable (a : Option Addr) (c : Nat) (cs : List Ch) (wd side : Int) (w : World) [hrow : RowI w (.slice a cs.length c) true 2 (cs.map encCh)] [hT : TextI w cs] [hgs : At w 1 0 sidesC]
set_option maxHeartbeats 2000000 in
theorem Make_slip (p : Pl) (hs : SmallT cs) (hd : 0 ≤ side ∧ side ≤ 255) : Ct Tryz.prog 27 [.agg #[.slice a cs.length c], encCut wd side, encPl p] w fun v _ => v = .tuple #[encSl (makeR (txF cs) wd side p).1, .int .i64 (makeR (txF cs) wd side p).2] := by
  refine Ct.ofW (by simp) ?_
  (refine jjB ?_; refine jjC ?_)
  (refine jy rfl ?_; intro b3 w_b3 hb_b3 hs_b3 hS_b3 hk_b3; have hA_b3 := At.ofBlock hk_b3)
  skip
  (refine jy rfl ?_; intro b4 w_b4 hb_b4 hs_b4 hS_b4 hk_b4; have hA_b4 := At.ofBlock hk_b4)
  skip
  (refine jy rfl ?_; intro b5 w_b5 hb_b5 hs_b5 hS_b5 hk_b5; have hA_b5 := At.ofBlock hk_b5)
  ((skip); refine jjY ?_; intro b6 w_b6 hb_b6 hs_b6 hS_b6 hk_b6; have hA_b6 := Bk.of hk_b6)
  (apply jJ; exact eI rfl; refine jz ?_; refine jjB ?_; refine jjB ?_; refine jjC ?_; refine jO rfl rfl rfl rfl ?_; refine jO rfl rfl rfl rfl ?_)
  obtain ⟨e, he⟩ : ∃ e, askE (txF cs) wd side = e := ⟨_, rfl⟩
  have h3 := askE_in (txF cs) wd side
  rw [he] at h3
  refine jjQ ((open_slip a c cs wd side _ hs hd).mono fun v _ _ h => h.trans (by rw [he])) rfl rfl ?_
  rintro _ w8 hS8 rfl
  have hb6 : Bk w8 b6 [.int .i64 0, .int .i64 0, .int .i64 0, .string ⟨#[]⟩, .string ⟨#[]⟩, .string ⟨#[]⟩] 53 := inferInstance
  have hE8 : Ext w w8 := inferInstance
  by_cases h0 : e = 0
  rotate_left
  · (apply jJ; exact eI rfl; refine jz ?_; refine jjB ?_; refine jjC ?_; apply jI; exact eI rfl; refine jjj rfl rfl (by omega) ?_; refine jz ?_; refine jjJ rfl ?_; refine jjB ?_; refine jjC ?_)
    (refine jjS (cells := [.int .i64 0, .int .i64 0, .int .i64 0, .string ⟨#[]⟩, .string ⟨#[]⟩, .string ⟨#[]⟩]) ?_ ?_; exact rfl)
    (apply jI; exact eI rfl)
    refine Ops.store rfl rfl rfl rfl rfl ?_
    intro V2 hp2
    have := Bk.toAt (h := Bk.of hp2.new)
    (apply jJ; exact eI rfl; refine jz ?_; refine jjF ?_)
    refine fin2C rfl rfl rfl rfl rfl rfl ⟨hp2.ext hE8 (by omega), ?_⟩
    rw [makeR_no (by rw [he]; exact h0), he]; exact rfl
  subst h0
  obtain ⟨ht, hc⟩ := askE_zero he
  obtain ⟨o, ho⟩ : ∃ o, makeF (txF cs) side wd p = o := ⟨_, rfl⟩
  (apply jJ; exact eI rfl; refine jz ?_; refine jjB ?_; refine jjC ?_; apply jI; exact eI rfl; refine jjk rfl rfl (by omega) ?_; refine jz ?_; refine jjK rfl ?_; refine jjG ?_; refine jjB ?_; refine jjC ?_; refine jO rfl rfl rfl rfl ?_; refine jO rfl rfl rfl rfl ?_; refine jO rfl rfl rfl rfl ?_)
  refine jjQ ((made_slip a c cs wd side _ p hs ht hc).mono fun v _ _ h => h.trans (by rw [ho])) rfl rfl ?_
  rintro _ w9 hS9 rfl
  have hb69 := hb6.ext hS9.ext
  cases o with
  | none =>
    (apply jI; exact eU rfl; refine ju rfl rfl ?_; refine ju rfl rfl ?_)
    (apply jjR rfl; (intro _; first|exact eI rfl|exact eB rfl|exact eP rfl|exact eS rfl|exact eT rfl|exact eA rfl|exact eU rfl|exact eF rfl|exact eM rfl|exact eN rfl|exact rfl); exact rfl; exact rfl; exact rfl; exact rfl; intro b9 w_b9 hb_b9 hs_b9 hS_b9 hk_b9; have hA_b9 := Bk.of hk_b9)
    (apply jJ; exact eB rfl; refine jz ?_; refine jjB ?_; refine jjB ?_; refine jjC ?_; apply jI; exact eB rfl; refine jq rfl ?_; refine jz ?_; refine jjJ rfl ?_; refine jjB ?_; refine jjC ?_)
    (refine jjS (cells := [.int .i64 0, .int .i64 0, .int .i64 0, .string ⟨#[]⟩, .string ⟨#[]⟩, .string ⟨#[]⟩]) ?_ ?_; exact rfl)
    skip
    refine Ops.store rfl rfl rfl rfl rfl ?_
    intro V2 hp2
    have := Bk.toAt (h := Bk.of hp2.new)
    (apply jJ; exact eI rfl; refine jz ?_; refine jjF ?_)
    refine fin2C rfl rfl rfl rfl rfl rfl ⟨hp2.ext ((hE8.trans hS9.ext).trans hS_b9.ext) (by omega), ?_⟩
    rw [makeR_none he ho]; exact rfl
  | some s =>
    (apply jI; exact eU rfl; refine ju rfl rfl ?_; refine ju rfl rfl ?_)
    (apply jjR rfl; (intro _; first|exact eI rfl|exact eB rfl|exact eP rfl|exact eS rfl|exact eT rfl|exact eA rfl|exact eU rfl|exact eF rfl|exact eM rfl|exact eN rfl|exact rfl); exact rfl; exact rfl; exact rfl; exact rfl; intro b9 w_b9 hb_b9 hs_b9 hS_b9 hk_b9; have hA_b9 := Bk.of hk_b9)
    (apply jJ; exact eB rfl; refine jz ?_; refine jjB ?_; refine jjB ?_; refine jjC ?_; apply jI; exact eB rfl; refine jp rfl ?_; refine jz ?_; refine jjK rfl ?_; refine jjG ?_; refine jjB ?_; refine jjC ?_; refine jO rfl rfl rfl rfl ?_)
    refine Ops.store rfl rfl rfl rfl rfl ?_
    intro V2 hp2
    have := Bk.toAt (h := Bk.of hp2.new)
    (apply jJ; exact eI rfl; refine jz ?_; refine jjF ?_)
    refine fin2C rfl rfl rfl rfl rfl rfl ⟨hp2.ext ((hE8.trans hS9.ext).trans hS_b9.ext) (by omega), ?_⟩
    rw [makeR_some he ho]; exact rfl
theorem All_slip (hs : SmallT cs) (hd : 0 ≤ side ∧ side ≤ 255) : Ct Tryz.prog 47 [.agg #[.slice a cs.length c], encCut wd side] w fun v w' => ∃ sv, v = .tuple #[sv, .int .i64 (askE (txF cs) wd side)] ∧ OwnL w' w.heap.size 53 true 6 sv ((allR (txF cs) wd side).map encSl) := by
  refine Ct.ofW (by simp) ?_
  (refine jjB ?_; refine jjC ?_)
  (refine jy rfl ?_; intro b2 w_b2 hb_b2 hs_b2 hS_b2 hk_b2; have hA_b2 := At.ofBlock hk_b2)
  skip
  (refine jy rfl ?_; intro b3 w_b3 hb_b3 hs_b3 hS_b3 hk_b3; have hA_b3 := At.ofBlock hk_b3)
  (apply jJ; exact eS rfl; apply jJ; exact eI rfl; refine jz ?_; refine jjB ?_; refine jjB ?_; refine jjC ?_; refine jO rfl rfl rfl rfl ?_; refine jO rfl rfl rfl rfl ?_)
  obtain ⟨e, he⟩ : ∃ e, askE (txF cs) wd side = e := ⟨_, rfl⟩
  have h3 := askE_in (txF cs) wd side
  rw [he] at h3
  refine jjQ ((open_slip a c cs wd side _ hs hd).mono fun v _ _ h => h.trans (by rw [he])) rfl rfl ?_
  rintro _ w8 hS8 rfl
  by_cases h0 : e = 0
  rotate_left
  · (apply jJ; exact eI rfl; refine jz ?_; refine jjB ?_; refine jjC ?_; apply jI; exact eI rfl; refine jjj rfl rfl (by omega) ?_; refine jz ?_; refine jjJ rfl ?_; refine jjB ?_; refine jjC ?_; apply jI; exact eI rfl; apply jJ; exact eS rfl; apply jJ; exact eI rfl; refine jz ?_; refine jjF ?_; refine jC rfl rfl rfl ⟨inferInstance, ?_⟩)
    rw [he, allR, if_neg (by rw [he]; exact h0)]
    exact ⟨_, rfl, OwnL.nil _ _ _ _ _⟩
  subst h0
  obtain ⟨ht, hc⟩ := askE_zero he
  (apply jJ; exact eI rfl; refine jz ?_; refine jjB ?_; refine jjC ?_; apply jI; exact eI rfl; refine jjk rfl rfl (by omega) ?_; refine jz ?_; refine jjK rfl ?_; refine jjG ?_; refine jjB ?_; refine jjC ?_; refine jO rfl rfl rfl rfl ?_; refine jO rfl rfl rfl rfl ?_)
  refine jjQ (slips_slip a c cs wd side _) rfl rfl ?_
  rintro _ w9 hS9 ⟨bt, bc, rfl, _, hA1, hA2⟩
  have hE9 : Ext w w9 := inferInstance
  skip
  refine jjQ (Collect_sl (allS (txF cs) side wd) _ _ _ _ (slips1_slip bt bc a c cs wd side hs ht hc) (fun w' h => ⟨hA1.ext h, hA2.ext h, hrow.h.ext (hE9.trans h), hT.ext (hE9.trans h), hgs.ext (hE9.trans h)⟩) (by have := allS_len (side := side) (wd := wd) ht; omega)) rfl rfl ?_
  rintro sv wA hSA hO
  (apply jJ; exact rfl; apply jJ; exact eI rfl; refine jz ?_; refine jjF ?_; refine jC rfl rfl rfl ⟨inferInstance, ?_⟩)
  rw [he, allR, if_pos he]
  exact ⟨sv, rfl, hO.mono hE9.size⟩
end
end Go.Proofs.YtgnjjocafmofaaaGreatDoor

/- slip: Part. -/
namespace Go.Proofs.YtgnjjocafmofaaaGreatDoor
open Go.RowKit

theorem filter_snoc {α : Type} {f : α → Bool} {l : List α} {i : Nat} {x : α} (h : l[i]? = some x) : (l.take (i + 1)).filter f = (l.take i).filter f ++ (if f x then [x] else []) := by
  rw [take_snoc_get h, List.filter_append]
  congr 1
  cases hf : f x <;> simp [hf]
section
variable (a : Option Addr) (c : Nat) (cs : List Ch) (wd side : Int) (w : World) [hrow : RowI w (.slice a cs.length c) true 2 (cs.map encCh)] [hT : TextI w cs] [hgs : At w 1 0 sidesC]
set_option maxHeartbeats 4000000 in
theorem Part_slip (p q : Pl) (hs : SmallT cs) (hd : 0 ≤ side ∧ side ≤ 255) : Ct Tryz.prog 29 [.agg #[.slice a cs.length c], encCut wd side, encPl p, encPl q] w fun v w' => ∃ sv, v = .tuple #[sv, .int .i64 (partR (txF cs) wd side p q).2] ∧ OwnL w' w.heap.size 53 true 6 sv ((partR (txF cs) wd side p q).1.map encSl) := by
  refine Ct.ofWM (by simp) ?_
  (refine jjB ?_; refine jjC ?_)
  (refine jy rfl ?_; intro b4 w_b4 hb_b4 hs_b4 hS_b4 hk_b4; have hA_b4 := At.ofBlock hk_b4)
  skip
  (refine jy rfl ?_; intro b5 w_b5 hb_b5 hs_b5 hS_b5 hk_b5; have hA_b5 := At.ofBlock hk_b5)
  skip
  (refine jy rfl ?_; intro b6 w_b6 hb_b6 hs_b6 hS_b6 hk_b6; have hA_b6 := At.ofBlock hk_b6)
  skip
  (refine jy rfl ?_; intro b7 w_b7 hb_b7 hs_b7 hS_b7 hk_b7; have hA_b7 := At.ofBlock hk_b7)
  (apply jJ; exact eS rfl; apply jJ; exact eI rfl; refine jz ?_; refine jjB ?_; refine jjB ?_; refine jjC ?_; refine jO rfl rfl rfl rfl ?_; refine jO rfl rfl rfl rfl ?_)
  obtain ⟨e, he⟩ : ∃ e, askE (txF cs) wd side = e := ⟨_, rfl⟩
  have h3 := askE_in (txF cs) wd side
  rw [he] at h3
  refine jjQ ((open_slip a c cs wd side _ hs hd).mono fun v _ _ h => h.trans (by rw [he])) rfl rfl ?_
  rintro _ w8 hS8 rfl
  have hE8 : Ext w w8 := inferInstance
  by_cases h0 : e = 0
  rotate_left
  · (apply jJ; exact eI rfl; refine jz ?_; refine jjB ?_; refine jjC ?_; apply jI; exact eI rfl; refine jjj rfl rfl (by omega) ?_; refine jz ?_; refine jjJ rfl ?_; refine jjB ?_; refine jjC ?_; apply jI; exact eI rfl; apply jJ; exact eS rfl; apply jJ; exact eI rfl; refine jz ?_; refine jjF ?_)
    refine fin2M rfl rfl rfl inferInstance fun w' g => ⟨hE8.ofGrow g (Nat.le_refl _), ?_⟩
    rw [partR, if_pos (by rw [he]; exact h0), he]
    exact ⟨_, rfl, OwnL.nil _ _ _ _ _⟩
  subst h0
  obtain ⟨ht, hc⟩ := askE_zero he
  obtain ⟨o1, ho1⟩ : ∃ o, makeF (txF cs) side wd p = o := ⟨_, rfl⟩
  obtain ⟨o2, ho2⟩ : ∃ o, makeF (txF cs) side wd q = o := ⟨_, rfl⟩
  (apply jJ; exact eI rfl; refine jz ?_; refine jjB ?_; refine jjC ?_; apply jI; exact eI rfl; refine jjk rfl rfl (by omega) ?_; refine jz ?_; refine jjK rfl ?_; refine jjG ?_; refine jjB ?_; refine jjC ?_; refine jO rfl rfl rfl rfl ?_; refine jO rfl rfl rfl rfl ?_; refine jO rfl rfl rfl rfl ?_)
  refine jjQ ((made_slip a c cs wd side _ p hs ht hc).mono fun v _ _ h => h.trans (by rw [ho1])) rfl rfl ?_
  rintro _ w9 hS9 rfl
  (apply jI; exact eU rfl; refine ju rfl rfl ?_; refine ju rfl rfl ?_)
  (apply jjR rfl; (intro _; first|exact eI rfl|exact eB rfl|exact eP rfl|exact eS rfl|exact eT rfl|exact eA rfl|exact eU rfl|exact eF rfl|exact eM rfl|exact eN rfl|exact rfl); exact rfl; exact rfl; exact rfl; exact rfl; intro b11 w_b11 hb_b11 hs_b11 hS_b11 hk_b11; have hA_b11 := Bk.of hk_b11)
  (apply jJ; exact eB rfl; refine jz ?_; refine jjB ?_; refine jjC ?_; refine jO rfl rfl rfl rfl ?_; refine jO rfl rfl rfl rfl ?_; refine jO rfl rfl rfl rfl ?_)
  refine jjQ ((made_slip a c cs wd side _ q hs ht hc).mono fun v _ _ h => h.trans (by rw [ho2])) rfl rfl ?_
  rintro _ w10 hS10 rfl
  (apply jI; exact eU rfl; refine ju rfl rfl ?_; refine ju rfl rfl ?_)
  (apply jjR rfl; (intro _; first|exact eI rfl|exact eB rfl|exact eP rfl|exact eS rfl|exact eT rfl|exact eA rfl|exact eU rfl|exact eF rfl|exact eM rfl|exact eN rfl|exact rfl); exact rfl; exact rfl; exact rfl; exact rfl; intro b13 w_b13 hb_b13 hs_b13 hS_b13 hk_b13; have hA_b13 := Bk.of hk_b13)
  have hE13 : Ext w w_b13 := inferInstance
  have hpr : partR (txF cs) wd side p q = if o1 = none ∨ o2 = none then ([], 12) else if befP q p then ([], 2) else (((allP (txF cs) (txF cs).length).filter (inP p q)).map (slP (txF cs) side wd), 0) := by
    rw [partR, if_neg (by rw [he]; simp), ho1, ho2]
  rw [hpr]
  clear hpr
  cases o1 with
  | none =>
    (apply jJ; exact eB rfl; refine jz ?_; refine jjB ?_; refine jjD ?_; refine jjB ?_; refine jjC ?_; apply jI; exact eB rfl; refine jq rfl ?_; apply jI; exact eB rfl; refine jU rfl rfl rfl rfl ?_; refine jU rfl rfl rfl rfl ?_; apply jK rfl; exact eB rfl; apply jJ; exact eB rfl; refine jz ?_; refine jjJ rfl ?_; refine jjB ?_; refine jjC ?_; apply jJ; exact eS rfl; apply jJ; exact eI rfl; refine jz ?_; refine jjF ?_)
    refine fin2M rfl rfl rfl inferInstance fun w' g => ⟨hE13.ofGrow g (Nat.le_refl _), ?_⟩
    rw [if_pos (.inl rfl)]
    exact ⟨_, rfl, OwnL.nil _ _ _ _ _⟩
  | some s1 =>
  cases o2 with
  | none =>
    (apply jJ; exact eB rfl; refine jz ?_; refine jjB ?_; refine jjD ?_; refine jjB ?_; refine jjC ?_; apply jI; exact eB rfl; refine jp rfl ?_; apply jI; exact eB rfl; refine jT rfl rfl rfl ?_; apply jI; exact eB rfl; refine jT rfl rfl rfl ?_; refine jq rfl ?_; apply jL rfl; exact eB rfl; apply jJ; exact eB rfl; refine jz ?_; refine jjJ rfl ?_; refine jjB ?_; refine jjC ?_; apply jJ; exact eS rfl; apply jJ; exact eI rfl; refine jz ?_; refine jjF ?_)
    refine fin2M rfl rfl rfl inferInstance fun w' g => ⟨hE13.ofGrow g (Nat.le_refl _), ?_⟩
    rw [if_pos (.inr rfl)]
    exact ⟨_, rfl, OwnL.nil _ _ _ _ _⟩
  | some s2 =>
  rw [if_neg (by simp)]
  (apply jJ; exact eB rfl; refine jz ?_; refine jjB ?_; refine jjD ?_; refine jjB ?_; refine jjC ?_; apply jI; exact eB rfl; refine jp rfl ?_; apply jI; exact eB rfl; refine jT rfl rfl rfl ?_; apply jI; exact eB rfl; refine jT rfl rfl rfl ?_; refine jp rfl ?_; apply jL rfl; exact eB rfl; apply jJ; exact eB rfl; refine jz ?_; refine jjK rfl ?_; refine jjB ?_; refine jjC ?_; refine jO rfl rfl rfl rfl ?_; refine jO rfl rfl rfl rfl ?_)
  refine jjQ (places_slip q p _) rfl rfl ?_
  rintro _ w14 hS14 rfl
  have hE14 : Ext w w14 := inferInstance
  have hcm := cmpP_neg q p
  cases hbf : befP q p with
  | true =>
    rw [hbf] at hcm
    have hlt := of_decide_eq_true hcm
    (refine jjZ rfl rfl (by omega) ?_; apply jJ; exact eB rfl; refine jz ?_; refine jjJ rfl ?_; refine jjB ?_; refine jjC ?_; apply jJ; exact eS rfl; apply jJ; exact eI rfl; refine jz ?_; refine jjF ?_)
    refine fin2M rfl rfl rfl inferInstance fun w' g => ⟨hE14.ofGrow g (Nat.le_refl _), ?_⟩
    exact ⟨_, rfl, OwnL.nil _ _ _ _ _⟩
  | false =>
  rw [hbf] at hcm
  have hge := of_decide_eq_false hcm
  rw [if_neg (by simp)]
  (refine jja rfl rfl (by omega) ?_; apply jJ; exact eB rfl; refine jz ?_; refine jjK rfl ?_; refine jjG ?_; refine jjB ?_; refine jjC ?_)
  ((skip); refine jjY ?_; intro b15 w_b15 hb_b15 hs_b15 hS_b15 hk_b15; have hA_b15 := Bk.of hk_b15)
  (refine jz ?_; refine jjB ?_; refine jjB ?_; refine jjC ?_; refine jO rfl rfl rfl rfl ?_; refine jO rfl rfl rfl rfl ?_)
  refine jjQ (slips_slip a c cs wd side _) rfl rfl ?_
  rintro _ w16 hS16 ⟨bt, bc, rfl, ⟨hbt, hbc⟩, hA1, hA2⟩
  (refine jz ?_; refine jjD ?_)
  have hE16 : Ext w w16 := inferInstance
  have hsz := hE16.size
  have hb6 : At w16 b6 0 [.int .i64 p.1, .int .i64 p.2.1, .int .i64 p.2.2] := inferInstance
  have hb7 : At w16 b7 0 [.int .i64 q.1, .int .i64 q.2.1, .int .i64 q.2.2] := inferInstance
  have hb15 : Bk w16 b15 [.slice none 0 0] 57 := inferInstance
  have n6 : b6 < b15 := by have := hS8.size; have := hS9.size; have := hS10.size; have := hS14.size; omega
  have n7 : b7 < b15 := by have := hS8.size; have := hS9.size; have := hS10.size; have := hS14.size; omega
  have nt : w_b15.heap.size ≤ w16.heap.size := hS16.size
  have n15 : w.heap.size ≤ b15 := by have := hE14.size; omega
  have hal := allS_len (side := side) (wd := wd) ht
  have hfin : (allS (txF cs) side wd).filter (fun s => inP p q s.1) = ((allP (txF cs) (txF cs).length).filter (inP p q)).map (slP (txF cs) side wd) := filter_slP _
  refine W.rangeM w.heap.size (allS (txF cs) side wd) encSl1 (slips1_slip bt bc a c cs wd side hs ht hc) rfl (fun _ => rfl) trivial inferInstance hsz
    (fun i V => Ext w V ∧ w16.heap.size ≤ V.heap.size ∧ At V b6 0 [.int .i64 p.1, .int .i64 p.2.1, .int .i64 p.2.2] ∧ At V b7 0 [.int .i64 q.1, .int .i64 q.2.1, .int .i64 q.2.2] ∧ (At V bt 0 [.slice a cs.length c] ∧ At V bc 0 [.int .i64 wd, .int .u8 side]) ∧ ∃ v, Bk V b15 [v] 57 ∧ OwnL V w16.heap.size 53 true 6 v ((((allS (txF cs) side wd).take i).filter (fun s => inP p q s.1)).map encSl))
    (fun _ _ _ => False) ?hJ (fun _ _ _ _ h _ => h) ?hF ?h0 (MB w16.heap.size b15) ?hW1 ?hW2 ?hW3 (fun x s' V => ∃ b, s' 6 = .pointer (some ⟨b6, 0, none⟩) ∧ s' 7 = .pointer (some ⟨b7, 0, none⟩) ∧ s' 15 = .pointer (some ⟨b15, 0, none⟩) ∧ s' 16 = .pointer (some ⟨b, 0, none⟩) ∧ Bk V b (encSl x).cells.toList 53) (fun x s V V' ⟨b5, h1, h2, h2', h2'', h3⟩ g => ⟨b5, h1, h2, h2', h2'', h3.grow g⟩) ?hassign ?hbody ?hdone (fun _ _ _ _ _ _ _ h => h.elim)
  case hJ =>
    rintro i V V' ⟨h1, h2, k6, k7, ⟨kt, kc⟩, v, h3, h4⟩ g
    exact ⟨h1.ofGrow g hsz, Nat.le_trans h2 g.size, k6.grow g, k7.grow g, ⟨kt.grow g, kc.grow g⟩, v, h3.grow g, h4.grow g⟩
  case hF =>
    rintro i V ⟨h1, h2, k6, k7, ⟨kt, kc⟩, v, h3, h4⟩
    exact ⟨kt, kc, hrow.h.ext h1, hT.ext h1, hgs.ext h1⟩
  case h0 => exact ⟨hE16, Nat.le_refl _, hb6, hb7, ⟨hA1, hA2⟩, _, hb15, OwnL.nil _ _ _ _ _⟩
  case hW1 => exact fun i V k ⟨h1, h2, _, _, _, v, h3, h4⟩ h => MB.lt h2 h3 h4 h
  case hW2 => exact fun i V V' k ⟨h1, h2, _, _, _, v, h3, h4⟩ g h => MB.back h3 g h
  case hW3 => exact fun V V' k g h => .inl (MB.grow (by omega) g h)
  case hassign =>
    rintro l i x V hx ⟨h1, h2, k6, k7, ⟨kt, kc⟩, v, h3, h4⟩ hl hr
    (refine jjC ?_)
    (apply jjR rfl; (intro _; first|exact eI rfl|exact eB rfl|exact eP rfl|exact eS rfl|exact eT rfl|exact eA rfl|exact eU rfl|exact eF rfl|exact eM rfl|exact eN rfl|exact rfl); exact rfl; exact rfl; exact rfl; exact rfl; intro bx w_bx hb_bx hs_bx hS_bx hk_bx; have hA_bx := Bk.of hk_bx)
    (refine jz ?_)
    exact ⟨rfl, hS_bx.ext.tr, Fr.ofExt hS_bx.ext fun k hk => .inl (MB.same h3 (h3.ext hS_bx.ext) hk), ⟨h1.trans hS_bx.ext, by have := hS_bx.size; omega, k6.ext hS_bx.ext, k7.ext hS_bx.ext, ⟨kt.ext hS_bx.ext, kc.ext hS_bx.ext⟩, v, h3.ext hS_bx.ext, h4.ext hS_bx.ext⟩, bx, rfl, rfl, rfl, rfl, inferInstance⟩
  case hbody =>
    rintro l i x s' V hx ⟨h1, h2, k6, k7, ⟨kt, kc⟩, v, h3, h4⟩ ⟨bx, ha6, ha7, ha15, ha16, hbx⟩ hl hr
    have hlt := (List.getElem?_eq_some_iff.1 hx).1
    have hfl := List.length_filter_le (fun s => inP p q s.1) ((allS (txF cs) side wd).take i)
    rw [List.length_take] at hfl
    have hsn := filter_snoc (f := fun s => inP p q s.1) hx
    refine W.fix (d := 6) ha6 (W.fix (d := 7) ha7 (W.fix (d := 15) ha15 (W.fix (d := 16) ha16 ?_)))
    clear ha6 ha7 ha15 ha16
    have hbx' : At V bx 0 [.int .i64 x.1.1, .int .i64 x.1.2.1, .int .i64 x.1.2.2, .string x.2.1, .string x.2.2.1, .string x.2.2.2] := Bk.toAt (h := hbx)
    have c1 := cmpP_neg x.1 p
    have c2 := cmpP_pos x.1 q
    (refine jjD ?_; refine jjB ?_; refine jjC ?_; refine jm ?_; refine jn rfl ?_; refine jO rfl rfl rfl rfl ?_; refine jO rfl rfl rfl rfl ?_)
    refine jjQ (places_slip x.1 p _) rfl rfl ?_
    rintro _ V2 hS2 rfl
    have e2 := hS2.ext
    cases hb1 : befP x.1 p with
    | true =>
      rw [hb1] at c1
      have := of_decide_eq_true c1
      have hf : inP p q x.1 = false := by simp [inP, hb1]
      simp only [hf] at hsn
      (refine jjg rfl rfl (by omega) ?_; apply jI; exact eB rfl; refine jU rfl rfl rfl rfl ?_; refine jU rfl rfl rfl rfl ?_; refine jU rfl rfl rfl rfl ?_; refine jU rfl rfl rfl rfl ?_; refine jU rfl rfl rfl rfl ?_; apply jL rfl; exact eB rfl; refine jz ?_; refine jjK rfl ?_; refine jjG ?_)
      refine ⟨e2.tr, Fr.ofExt e2 fun k hk => .inl (MB.same h3 (h3.ext e2) hk), h1.trans e2, by have := e2.size; omega, k6.ext e2, k7.ext e2, ⟨kt.ext e2, kc.ext e2⟩, v, h3.ext e2, ?_⟩
      rw [hsn]; simpa using h4.ext e2
    | false =>
    rw [hb1] at c1
    have := of_decide_eq_false c1
    (refine jjf rfl rfl (by omega) ?_; apply jI; exact eB rfl; refine jT rfl rfl rfl ?_; refine jm ?_; refine jn rfl ?_; refine jT rfl rfl rfl ?_; refine jO rfl rfl rfl rfl ?_; refine jT rfl rfl rfl ?_; refine jO rfl rfl rfl rfl ?_; refine jT rfl rfl rfl ?_)
    refine jjQ (places_slip x.1 q _) rfl rfl ?_
    rintro _ V3 hS3 rfl
    have e3 := e2.trans hS3.ext
    cases hb2 : befP q x.1 with
    | true =>
      rw [hb2] at c2
      have := of_decide_eq_true c2
      have hf : inP p q x.1 = false := by simp [inP, hb2]
      simp only [hf] at hsn
      (refine jT rfl rfl rfl ?_; refine jjc rfl rfl (by omega) ?_; apply jK rfl; exact eB rfl; refine jz ?_; refine jjK rfl ?_; refine jjG ?_)
      refine ⟨e3.tr, Fr.ofExt e3 fun k hk => .inl (MB.same h3 (h3.ext e3) hk), h1.trans e3, by have := e3.size; omega, k6.ext e3, k7.ext e3, ⟨kt.ext e3, kc.ext e3⟩, v, h3.ext e3, ?_⟩
      rw [hsn]; simpa using h4.ext e3
    | false =>
    rw [hb2] at c2
    have := of_decide_eq_false c2
    have hf : inP p q x.1 = true := by simp [inP, hb1, hb2]
    simp only [hf, if_true] at hsn
    have h33 := h3.ext e3
    have h43 := h4.ext e3
    have z3 := e3.size
    (refine jT rfl rfl rfl ?_; refine jjb rfl rfl (by omega) ?_; apply jK rfl; exact eB rfl; refine jz ?_; refine jjJ rfl ?_; refine jjC ?_; refine jN rfl rfl rfl ?_; refine jO rfl rfl rfl rfl ?_)
    (refine jjP (v := .agg _) rfl (by exact rfl) (by exact rfl) (by exact rfl) (by exact rfl) ?_; intro b10 w_b10 hb_b10 hs_b10 hS_b10 hk_b10; have hR_b10 := RowV.one (agg := true) (k := 6) rfl hk_b10)
    have hR1 : RowV w_b10 true 6 (.slice (some ⟨b10, 0, none⟩) 1 1) [encSl x] := hR_b10
    have hz10 := hS_b10.size
    refine Ops.appendL (h43.ext hS_b10.ext) (by omega) hR1 rfl rfl rfl rfl (one_sl x) ?_ ?_ ?_
    · rw [List.length_map]; simp only [List.length_cons, List.length_nil]; omega
    · rw [List.length_map]; simp only [List.length_cons, List.length_nil]; omega
    intro v2 V4 hA hO _ hown2
    obtain ⟨a2, c2', rfl⟩ := hO.slice
    have hbl : ∀ g, v.ownBlock = some g → w16.heap.size ≤ g := fun g hg => (h4.block g hg).1
    have hne : v.ownBlock ≠ some b15 := fun e => by have := hbl b15 e; omega
    have hB2 : Bk V4 b15 [v] 57 := hA.bk (h33.ext hS_b10.ext) hne
    skip
    refine Ops.store rfl rfl rfl rfl rfl ?_
    intro V5 hp5
    (refine jz ?_)
    have hB3 : Bk V5 b15 [.slice a2 (List.map encSl (((allS (txF cs) side wd).take i).filter (fun s => inP p q s.1)) ++ [encSl x]).length c2'] 57 := ⟨hp5.new⟩
    have hne2 : (Value.slice a2 (List.map encSl (((allS (txF cs) side wd).take i).filter (fun s => inP p q s.1)) ++ [encSl x]).length c2').ownBlock ≠ some b15 := fun e => by rcases hown2 with h | h <;> rw [h] at e; exact hne e; cases e; omega
    have e10 := e3.trans hS_b10.ext
    have hnb : ∀ b, b < w16.heap.size → v.ownBlock ≠ some b := fun b h e => by have := hbl b e; omega
    have ht16 := hA1.lt
    have hc16 := hA2.lt
    refine ⟨(e10.tr.trans hA.tr).trans (hp5.tr ⟨_, hB2.h, rfl⟩), ?_, hp5.ext (hA.ext (h1.trans e10) hsz) (by omega), ?_, hp5.at_ (hA.at_ (k6.ext e10) (hnb _ (by omega))) (by omega), hp5.at_ (hA.at_ (k7.ext e10) (hnb _ (by omega))) (by omega), ⟨hp5.at_ (hA.at_ (kt.ext e10) (hnb _ ht16)) (by omega), hp5.at_ (hA.at_ (kc.ext e10) (hnb _ hc16)) (by omega)⟩, _, hB3, ?_⟩
    · exact (Fr.ofExt e10 fun k hk => .inl (MB.same h3 (h3.ext e10) hk)).trans (MB.append (by omega) (h3.ext e10) hA hp5 hB3 hown2)
    · have := hA.g.size; rw [hp5.size]; omega
    · rw [hsn, List.map_append]
      exact hO.put hp5 hne2
  case hdone =>
    rintro ds' V hmk htr ⟨h1, h2, k6, k7, ⟨kt, kc⟩, v, h3, h4⟩
    obtain ⟨va, vl, vc, rfl⟩ := h4.slice3
    have := h3
    (refine jjB ?_; refine jjC ?_; refine jN rfl rfl rfl ?_; apply jJ; exact eS rfl; apply jJ; exact eI rfl; refine jz ?_; refine jjF ?_)
    refine fin2M rfl rfl rfl hmk fun w' g => ⟨h1.ofGrow g (Nat.le_refl _), ?_⟩
    rw [List.take_length, hfin] at h4
    exact ⟨_, rfl, (h4.grow g).mono hsz⟩
end
end Go.Proofs.YtgnjjocafmofaaaGreatDoor

/- slip: Where. -/
namespace Go.Proofs.YtgnjjocafmofaaaGreatDoor
open Go.RowKit

/-- The words of a slip, in their order. -/
def wantS (s : Slp) : List ByteArray := wordsL s.2.2.1 ++ ([s.2.1] ++ wordsL s.2.2.2)
def hitB (want ws : List ByteArray) (i : Nat) : Bool := decide ((ws.drop i).take want.length = want)
/-- Where these words stand in a chapter: the places of the word nb of them. -/
def whK (want : List ByteArray) (nb : Nat) (ws : List ByteArray) (ps : List Pl) (m : Nat) : List Pl := ((List.range m).filter (hitB want ws)).map fun i => ps.getD (i + nb) (0, 0, 0)
theorem whK_succ (want : List ByteArray) (nb : Nat) (ws : List ByteArray) (ps : List Pl) (m : Nat) : whK want nb ws ps (m + 1) = whK want nb ws ps m ++ (if hitB want ws m then [ps.getD (m + nb) (0, 0, 0)] else []) := by
  rw [whK, List.range_succ, List.filter_append, List.map_append]
  congr 1
  cases h : hitB want ws m <;> simp [h]
theorem whK_len (want : List ByteArray) (nb : Nat) (ws : List ByteArray) (ps : List Pl) (m : Nat) : (whK want nb ws ps m).length ≤ m := by
  rw [whK, List.length_map]
  exact Nat.le_trans (List.length_filter_le _ _) (by simp)
def whN (t : Tx) (want : List ByteArray) (nb n : Nat) : List Pl := (List.range n).flatMap fun k => whK want nb (wsT t k).flatten (runA k (wsT t k)) (wsT t k).flatten.length
theorem whN_succ (t : Tx) (want : List ByteArray) (nb n : Nat) : whN t want nb (n + 1) = whN t want nb n ++ whK want nb (wsT t n).flatten (runA n (wsT t n)) (wsT t n).flatten.length := by
  rw [whN, List.range_succ, List.flatMap_append]; simp [whN]
def whereF (t : Tx) (s : Slp) : List Pl := whN t (wantS s) (wordsL s.2.2.1).length t.length
def whereR (t : Tx) (s : Slp) : List Pl × Int := if textB t = false then ([], 10) else if slipB s = false then ([], 31) else (whereF t s, 0)
theorem whereR_no {t : Tx} {s : Slp} (h : textB t = false) : whereR t s = ([], 10) := by rw [whereR, if_pos h]
theorem whereR_bad {t : Tx} {s : Slp} (h : textB t = true) (h2 : slipB s = false) : whereR t s = ([], 31) := by rw [whereR, if_neg (by simp [h]), if_pos h2]
theorem whereR_yes {t : Tx} {s : Slp} (h : textB t = true) (h2 : slipB s = true) : whereR t s = (whereF t s, 0) := by rw [whereR, if_neg (by simp [h]), if_neg (by simp [h2])]
theorem wordsL_len (s : ByteArray) : (wordsL s).length ≤ s.size + 1 := by
  unfold wordsL
  split
  · simp
  · exact (splB_bound s).1
theorem wantS_len (s : Slp) (h : SmallS s) : 0 < (wantS s).length ∧ (wordsL s.2.2.1).length < (wantS s).length ∧ (wantS s).length ≤ 10000 := by
  have h1 := wordsL_len s.2.2.1
  have h2 := wordsL_len s.2.2.2
  obtain ⟨h3, h4, h5⟩ := h
  simp only [wantS, List.length_append, List.length_cons, List.length_nil]
  omega
theorem hit_fit {want ws : List ByteArray} {i : Nat} (h : hitB want ws i = true) : want.length = 0 ∨ i + want.length ≤ ws.length := by
  have := congrArg List.length (of_decide_eq_true h)
  rw [List.length_take, List.length_drop] at this
  omega
section
variable (a : Option Addr) (c : Nat) (cs : List Ch) (w : World) [hrow : RowI w (.slice a cs.length c) true 2 (cs.map encCh)] [hT : TextI w cs]
set_option maxHeartbeats 8000000 in
theorem Where_slip [hmx : MxI w] (s : Slp) (hs : SmallT cs) (hss : SmallS s) : Ct Tryz.prog 31 [.agg #[.slice a cs.length c], encSl s] w fun v w' => ∃ sv, v = .tuple #[sv, .int .i64 (whereR (txF cs) s).2] ∧ OwnL w' w.heap.size 43 true 3 sv ((whereR (txF cs) s).1.map encPl) := by
  have hs1 := hs.1
  obtain ⟨hw0, hwb, hwl⟩ := wantS_len s hss
  refine Ct.ofW (by simp) ?_
  (refine jjB ?_; refine jjC ?_)
  (refine jy rfl ?_; intro b2 w_b2 hb_b2 hs_b2 hS_b2 hk_b2; have hA_b2 := At.ofBlock hk_b2)
  skip
  (refine jy rfl ?_; intro b3 w_b3 hb_b3 hs_b3 hS_b3 hk_b3; have hA_b3 := At.ofBlock hk_b3)
  (apply jJ; exact eS rfl; apply jJ; exact eI rfl; refine jz ?_; refine jjB ?_; refine jjB ?_; refine jjC ?_; refine jO rfl rfl rfl rfl ?_)
  obtain ⟨B1, hB1⟩ : ∃ B, textB (txF cs) = B := ⟨_, rfl⟩
  refine jjQ ((Check_leaf a c cs _ hs).mono fun v _ _ h => h.trans (by rw [hB1])) rfl rfl ?_
  rintro _ w4 hS4 rfl
  cases B1 with
  | false =>
    (apply jJ; exact eI rfl; refine jz ?_; refine jjB ?_; refine jjC ?_; apply jI; exact eI rfl; refine jc rfl rfl ?_; refine jz ?_; refine jjJ rfl ?_; refine jjB ?_; refine jjC ?_; apply jI; exact eI rfl; apply jJ; exact eS rfl; apply jJ; exact eI rfl; refine jz ?_; refine jjF ?_; refine jC rfl rfl rfl ⟨inferInstance, ?_⟩)
    rw [whereR_no hB1]
    exact ⟨_, rfl, OwnL.nil _ _ _ _ _⟩
  | true =>
  obtain ⟨B2, hB2⟩ : ∃ B, slipB s = B := ⟨_, rfl⟩
  rw [if_pos rfl]
  (apply jJ; exact eI rfl; refine jz ?_; refine jjB ?_; refine jjC ?_; apply jI; exact eI rfl; refine jjk rfl rfl (by omega) ?_; refine jz ?_; refine jjK rfl ?_; refine jjG ?_; refine jjB ?_; refine jjB ?_; refine jjC ?_; refine jO rfl rfl rfl rfl ?_)
  refine jjQ ((right_slip _ s hss).mono fun v _ _ h => h.trans (by rw [hB2])) rfl rfl ?_
  rintro _ w5 hS5 rfl
  cases B2 with
  | false =>
    (refine jq rfl ?_; refine jz ?_; refine jjJ rfl ?_; refine jjB ?_; refine jjC ?_; apply jJ; exact eS rfl; apply jJ; exact eI rfl; refine jz ?_; refine jjF ?_; refine jC rfl rfl rfl ⟨inferInstance, ?_⟩)
    rw [whereR_bad hB1 hB2]
    exact ⟨_, rfl, OwnL.nil _ _ _ _ _⟩
  | true =>
  rw [whereR_yes hB1 hB2]
  (refine jp rfl ?_; refine jz ?_; refine jjK rfl ?_; refine jjG ?_; refine jjB ?_; refine jjC ?_; refine jm ?_; refine jn rfl ?_; refine jN rfl rfl rfl ?_)
  refine jjQ (words_slip _ s.2.2.1 hss.2.1) rfl rfl ?_
  rintro _ w6 hS6 ⟨bv, rfl, hOb⟩
  (apply jI; exact eU rfl; refine ju rfl rfl ?_; refine ju rfl rfl ?_; apply jJ; exact rfl; apply jJ; exact eB rfl; refine jz ?_; refine jjB ?_; refine jjC ?_; refine jm ?_; refine jn rfl ?_; refine jN rfl rfl rfl ?_)
  refine jjQ (words_slip _ s.2.2.2 hss.2.2) rfl rfl ?_
  rintro _ w7 hS7 ⟨av, rfl, hOa⟩
  obtain ⟨ba, bc, rfl⟩ := hOb.slice
  obtain ⟨aa, ac, rfl⟩ := hOa.slice
  rw [List.length_map] at hOa hOb
  rw [List.length_map, List.length_map]
  (apply jI; exact eU rfl; refine ju rfl rfl ?_; refine ju rfl rfl ?_; apply jJ; exact eS rfl; apply jJ; exact eB rfl; refine jz ?_; refine jjB ?_; refine jjC ?_; apply jI; exact eS rfl; refine jm ?_; refine jn rfl ?_; refine jN rfl rfl rfl ?_)
  (refine jjP (v := .string _) rfl (by exact rfl) (by exact rfl) (by exact rfl) (by exact rfl) ?_; intro b39 w_b39 hb_b39 hs_b39 hS_b39 hk_b39; have hR_b39 := RowV.one (agg := false) (k := 1) rfl hk_b39)
  (apply jI; exact eS rfl)
  refine Ops.buildSlice3 rfl rfl rfl rfl rfl rfl rfl ?_
  intro b41 w41 hb41 hs41 hS41 hk41
  have hE39 : Ext w7 w_b39 := hS_b39.ext
  have hrows : RowV w41 false 1 (.slice (some ⟨b41, 0, none⟩) 3 3) ([(ba, bc, wordsL s.2.2.1), (some ⟨b39, 0, none⟩, 1, [s.2.1]), (aa, ac, wordsL s.2.2.2)].map encLn) := hk41.row (fun x hx => by simp at hx; rcases hx with rfl | rfl | rfl <;> rfl) (by simp)
  have hcat : catL [(ba, bc, wordsL s.2.2.1), (some ⟨b39, 0, none⟩, 1, [s.2.1]), (aa, ac, wordsL s.2.2.2)] = wantS s := by simp [catL, wantS]
  have hOb41 := ((hOb.ext hS7.ext).ext hE39).ext hS41.ext
  have hOa41 := (hOa.ext hE39).ext hS41.ext
  skip
  refine jjQ ((Concat_str _ 3 [(ba, bc, wordsL s.2.2.1), (some ⟨b39, 0, none⟩, 1, [s.2.1]), (aa, ac, wordsL s.2.2.2)] _ hrows (fun y hy => by
    simp only [List.mem_cons, List.not_mem_nil, or_false] at hy
    rcases hy with rfl | rfl | rfl
    · exact hOb41.row
    · exact hR_b39.ext hS41.ext
    · exact hOa41.row) (by rw [hcat]; exact hw0) (by rw [hcat]; omega)).mono fun v _ _ h => by rw [hcat] at h; exact h) rfl rfl ?_
  rintro wv wX hSX hOw
  obtain ⟨wa, wc, rfl⟩ := hOw.slice
  rw [List.length_map] at hOw ⊢
  have hEX : Ext w wX := inferInstance
  have hAX : At wX b2 0 [.slice a cs.length c] := inferInstance
  have hWR := hOw.row
  rw [whereF, txF_len]
  generalize hwant : wantS s = want at *
  generalize (wordsL s.2.2.1).length = nb at *
  (apply jJ; exact eS rfl; refine jz ?_; refine jjB ?_; refine jjC ?_; apply jJ; exact eS rfl; refine jz ?_; refine jjB ?_; refine jjB ?_; refine jjC ?_; refine jm ?_; refine jn rfl ?_; refine jN rfl rfl rfl ?_; refine jh rfl ?_; apply jI; exact eI rfl; refine jz ?_; refine jjD ?_)
  refine W.keep0 [(2, .pointer (some ⟨b2, 0, none⟩)), (7, .slice ba nb bc), (11, .slice wa want.length wc), (12, .slice none 0 0), (45, .int .i64 (cs.length : Int)), (46, .int .i64 ((0 : Nat) : Int))] ⟨eP rfl, eS rfl, eS rfl, eS rfl, eI rfl, eI rfl, trivial⟩ fun s0 => ?_
  refine W.loopG (47 :: 48 :: 13 :: 49 :: 50 :: 51 :: 52 :: 14 :: 53 :: 54 :: 55 :: 56 :: 57 :: 58 :: 15 :: 59 :: 60 :: 61 :: 62 :: 63 :: 64 :: 65 :: 66 :: 67 :: 68 :: 69 :: 70 :: 71 :: 72 :: 73 :: 74 :: 75 :: 76 :: 77 :: 78 :: 79 :: 80 :: 81 :: 82 :: 83 :: 84 :: 85 :: 86 :: 87 :: 88 :: 89 :: 12 :: 90 :: 91 :: 46 :: []) (fun g s' V => ∃ (k : Nat) (lv : Value), s' 46 = .int .i64 ((k : Nat) : Int) ∧ s' 12 = lv ∧ g = cs.length - k ∧ k ≤ cs.length ∧ Ext wX V ∧ OwnL V wX.heap.size 43 true 3 lv ((whN (txF cs) want nb k).map encPl) ∧ (whN (txF cs) want nb k).length ≤ k * 1000000) cs.length ⟨0, _, rfl, rfl, rfl, Nat.zero_le _, .refl _, OwnL.nil _ _ _ _ _, by simp [whN]⟩ ?_
  rintro _ sd V ⟨k, lv, h46, h12, rfl, hk, hE, hO, hwn⟩
  obtain ⟨va, vl, vc, rfl⟩ := hO.slice3
  refine W.fix h46 (W.fix (d := 12) h12 ?_)
  clear h46 h12
  have hA2 := hAX.ext hE
  have zE := hE.size
  by_cases hkl : k < cs.length
  rotate_left
  · obtain rfl : k = cs.length := by omega
    have hEV := hEX.trans hE
    (refine jjB ?_; refine jjC ?_; refine jja rfl rfl (by omega) ?_; refine jz ?_; refine jjB ?_; refine jjK rfl ?_; refine jjE ?_; refine jjB ?_; refine jjC ?_; apply jI; exact eS rfl; apply jJ; exact eS rfl; apply jJ; exact eI rfl; refine jz ?_; refine jjF ?_; refine jC rfl rfl rfl ⟨inferInstance, ?_⟩)
    exact ⟨_, rfl, hO.mono hEX.size⟩
  have i0 : RowI V (.slice a cs.length c) true 2 (cs.map encCh) := ⟨hrow.h.ext (hEX.trans hE)⟩
  have i1 : TextI V cs := hT.ext (hEX.trans hE)
  obtain ⟨hn, hsz⟩ := rnW_small hs hkl
  have hrl : (runA k (chW cs[k])).length = (rnW cs[k]).length := runA_len _ _
  have hwk : (wsT (txF cs) k).flatten = rnW cs[k] := by rw [wsT_get hkl]
  have hrk : runA k (wsT (txF cs) k) = runA k (chW cs[k]) := by rw [wsT_get hkl]
  have hnx := whN_succ (txF cs) want nb k
  rw [hwk, hrk] at hnx
  (refine jjB ?_; refine jjC ?_; refine jjZ rfl rfl (by omega) ?_; refine jz ?_; refine jjB ?_; refine jjJ rfl ?_; refine jjG ?_; refine jjB ?_; refine jjD ?_; refine jjB ?_; refine jjC ?_; apply jI; exact eI rfl; apply jJ; exact eI rfl; refine jz ?_; refine jjB ?_; refine jjC ?_; refine jO rfl rfl rfl rfl ?_)
  (refine jjS (cells := [.int .i64 0, .int .u8 0]) ?_ ?_; exact rfl)
  (apply jI; exact eI rfl)
  refine jjQ (runs_slip a c cs _ hs 0 0 k hkl) rfl rfl ?_
  rintro _ V1 hS1 ⟨wv, av, rfl, hOs, hOp⟩
  generalize rnW cs[k] = ws at *
  generalize runA k (chW cs[k]) = ps at *
  obtain ⟨sa, sc, rfl⟩ := hOs.slice
  obtain ⟨pa, pc, rfl⟩ := hOp.slice
  rw [List.length_map] at hOs hOp ⊢
  rw [List.length_map]
  skip
  (apply jjR rfl; (intro _; first|exact eI rfl|exact eB rfl|exact eP rfl|exact eS rfl|exact eT rfl|exact eA rfl|exact eU rfl|exact eF rfl|exact eM rfl|exact eN rfl|exact rfl); exact rfl; exact rfl; exact rfl; exact rfl; intro b14 w_b14 hb_b14 hs_b14 hS_b14 hk_b14; have hA_b14 := Bk.of hk_b14)
  (refine jz ?_; refine jjB ?_; refine jjC ?_; refine jm ?_; refine jn rfl ?_; refine jN rfl rfl rfl ?_; refine jh rfl ?_; apply jI; exact eI rfl; refine jz ?_; refine jjD ?_)
  have e14 := hS1.ext.trans hS_b14.ext
  have z14 := e14.size
  have z1 := hS1.size
  have zb14 := hS_b14.size
  have hOl : ∀ g, (Value.slice va vl vc).ownBlock = some g → g < V.heap.size ∨ w_b14.heap.size ≤ g := fun g hg => .inl (hO.block g hg).2
  refine W.keep [(2, .pointer (some ⟨b2, 0, none⟩)), (7, .slice ba nb bc), (11, .slice wa want.length wc), (12, .slice va vl vc), (14, .pointer (some ⟨b14, 0, none⟩)), (45, .int .i64 (cs.length : Int)), (46, .int .i64 ((k : Nat) : Int)), (55, .int .i64 (ws.length : Int)), (56, .int .i64 ((0 : Nat) : Int))] (D := (47 :: 48 :: 13 :: 49 :: 50 :: 51 :: 52 :: 14 :: 53 :: 54 :: 55 :: 56 :: 57 :: 58 :: 15 :: 59 :: 60 :: 61 :: 62 :: 63 :: 64 :: 65 :: 66 :: 67 :: 68 :: 69 :: 70 :: 71 :: 72 :: 73 :: 74 :: 75 :: 76 :: 77 :: 78 :: 79 :: 80 :: 81 :: 82 :: 83 :: 84 :: 85 :: 86 :: 87 :: 88 :: 89 :: 12 :: 90 :: 91 :: 46 :: [])) (sO := upds s0 _) (by ((refine Same.upd rfl ?_; refine Same.upd rfl ?_; refine Same.upd rfl ?_; refine Same.upd rfl ?_; refine Same.upd rfl ?_; refine Same.upd rfl ?_; refine Same.upd rfl ?_; refine Same.upd rfl ?_; refine Same.upd rfl ?_; refine Same.upd rfl ?_; refine Same.upd rfl ?_; refine Same.upd rfl ?_; refine Same.upd rfl ?_; refine Same.upd rfl ?_; exact Same.ovN))) ⟨eP rfl, eS rfl, eS rfl, eS rfl, eP rfl, eI rfl, eI rfl, eI rfl, eI rfl, trivial⟩ fun s1 hs1' => ?_
  refine W.loopG (57 :: 58 :: 15 :: 59 :: 60 :: 61 :: 62 :: 63 :: 64 :: 65 :: 66 :: 67 :: 68 :: 69 :: 70 :: 71 :: 72 :: 73 :: 74 :: 75 :: 76 :: 77 :: 78 :: 79 :: 80 :: 81 :: 82 :: 83 :: 84 :: 85 :: 86 :: 87 :: 88 :: 89 :: 12 :: 90 :: 56 :: []) (fun g s' V' => ∃ (i : Nat) (lv : Value), s' 56 = .int .i64 ((i : Nat) : Int) ∧ s' 12 = lv ∧ g = ws.length - i ∧ i ≤ ws.length ∧ Ext wX V' ∧ w_b14.heap.size ≤ V'.heap.size ∧ Bk V' b14 [.int .i64 0, .int .u8 0, .slice sa ws.length sc, .slice pa ps.length pc] 138 ∧ OwnL V' V.heap.size 9 false 1 (.slice sa ws.length sc) (ws.map strV) ∧ OwnL V' V.heap.size 43 true 3 (.slice pa ps.length pc) (ps.map encPl) ∧ OwnL V' wX.heap.size 43 true 3 lv ((whN (txF cs) want nb k ++ whK want nb ws ps i).map encPl) ∧ ∀ g, lv.ownBlock = some g → g < V.heap.size ∨ w_b14.heap.size ≤ g) ws.length ⟨0, _, rfl, rfl, rfl, Nat.zero_le _, hE.trans e14, Nat.le_refl _, inferInstance, hOs.ext hS_b14.ext, hOp.ext hS_b14.ext, by rw [show whK want nb ws ps 0 = [] from rfl, List.append_nil]; exact hO.ext e14, hOl⟩ ?_
  have hOs1 := hOs
  have hOp1 := hOp
  clear hOl hOs hOp hO
  rintro _ sd2 V2 ⟨i, lv, h56, h12, rfl, hi, hE2, hz2, hB14, hOs, hOp, hO, hOl⟩
  obtain ⟨va2, vl2, vc2, rfl⟩ := hO.slice3
  refine W.fix h56 (W.fix (d := 12) h12 ?_)
  clear h56 h12
  have hA14 := Bk.toAt (h := hB14)
  by_cases hil : i < ws.length
  rotate_left
  · obtain rfl : i = ws.length := by omega
    rw [← hnx] at hO
    have hwl2 := whK_len want nb ws ps ws.length
    (refine jjB ?_; refine jjC ?_; refine jja rfl rfl (by omega) ?_; refine jz ?_; refine jjB ?_; refine jjK rfl ?_; refine jjE ?_; refine jjC ?_; refine jY rfl rfl (by omega) ?_; apply jI; exact eI rfl; refine jz ?_)
    exact ⟨rfl, by ((refine Same.upd rfl ?_; refine Same.upd rfl ?_; refine Same.upd rfl ?_; refine Same.upd rfl ?_; refine Same.upd rfl ?_; refine Same.ovN' rfl ?_; assumption)), cs.length - (k + 1), by omega, k + 1, _, congrArg (Value.int .i64) (by omega), rfl, rfl, by omega, hE2, hO, by rw [hnx, List.length_append]; omega⟩
  have hsn := whK_succ want nb ws ps i
  obtain ⟨B, hB⟩ : ∃ B, hitB want ws i = B := ⟨_, rfl⟩
  rw [hB] at hsn
  have hwl2 := whK_len want nb ws ps i
  by_cases hfit : want.length ≤ ws.length - i
  rotate_left
  · have hBf : B = false := by
      cases B with
      | false => rfl
      | true => have := hit_fit hB; omega
    subst hBf
    rw [if_neg (by simp), List.append_nil] at hsn
    (refine jjB ?_; refine jjC ?_; refine jjZ rfl rfl (by omega) ?_; refine jz ?_; refine jjB ?_; refine jjJ rfl ?_; refine jjG ?_; refine jjB ?_; refine jjD ?_; refine jjB ?_; refine jjC ?_; apply jI; exact eI rfl; apply jJ; exact eI rfl; refine jz ?_; refine jjB ?_; refine jjC ?_; refine jm ?_; refine jn rfl ?_; refine jN rfl rfl rfl ?_; refine jh rfl ?_; apply jI; exact eI rfl; refine jZ rfl rfl (by omega) ?_; apply jI; exact eS rfl; refine jh rfl ?_; refine jjg rfl rfl (by omega) ?_; apply jI; exact eB rfl; refine jU rfl rfl rfl rfl ?_; refine jU rfl rfl rfl rfl ?_; refine jU rfl rfl rfl rfl ?_; refine jU rfl rfl rfl rfl ?_; refine jU rfl rfl rfl rfl ?_; refine jU rfl rfl rfl rfl ?_; refine jU rfl rfl rfl rfl ?_; refine jU rfl rfl rfl rfl ?_; refine jU rfl rfl rfl rfl ?_; refine jU rfl rfl rfl rfl ?_; apply jL rfl; exact eB rfl; refine jz ?_; refine jjK rfl ?_; refine jjG ?_; refine jjC ?_; refine jY rfl rfl (by omega) ?_; apply jI; exact eI rfl; refine jz ?_)
    refine ⟨rfl, by ((refine Same.upd rfl ?_; refine Same.upd rfl ?_; refine Same.upd rfl ?_; refine Same.upd rfl ?_; refine Same.upd rfl ?_; refine Same.upd rfl ?_; refine Same.upd rfl ?_; refine Same.upd rfl ?_; refine Same.upd rfl ?_; refine Same.upd rfl ?_; refine Same.upd rfl ?_; refine Same.upd rfl ?_; refine Same.upd rfl ?_; refine Same.upd rfl ?_; refine Same.upd rfl ?_; refine Same.upd rfl ?_; refine Same.upd rfl ?_; refine Same.upd rfl ?_; refine Same.upd rfl ?_; refine Same.upd rfl ?_; refine Same.upd rfl ?_; refine Same.upd rfl ?_; refine Same.upd rfl ?_; refine Same.upd rfl ?_; refine Same.upd rfl ?_; refine Same.upd rfl ?_; refine Same.upd rfl ?_; exact Same.ovN)), ws.length - (i + 1), by omega, i + 1, _, congrArg (Value.int .i64) (by omega), rfl, rfl, by omega, hE2, hz2, hB14, hOs, hOp, by rw [hsn]; exact hO, hOl⟩
  have hB' : decide ((ws.take (i + want.length)).drop i = want) = B := by
    rw [← hB, hitB, List.drop_take, Nat.add_sub_cancel_left]
  (refine jjB ?_; refine jjC ?_; refine jjZ rfl rfl (by omega) ?_; refine jz ?_; refine jjB ?_; refine jjJ rfl ?_; refine jjG ?_; refine jjB ?_; refine jjD ?_; refine jjB ?_; refine jjC ?_; apply jI; exact eI rfl; apply jJ; exact eI rfl; refine jz ?_; refine jjB ?_; refine jjC ?_; refine jm ?_; refine jn rfl ?_; refine jN rfl rfl rfl ?_; refine jh rfl ?_; apply jI; exact eI rfl; refine jZ rfl rfl (by omega) ?_; apply jI; exact eS rfl; refine jh rfl ?_; refine jjf rfl rfl (by omega) ?_; apply jI; exact eB rfl; refine jT rfl rfl rfl ?_; refine jm ?_; refine jn rfl ?_; refine jT rfl rfl rfl ?_; refine jN rfl rfl rfl ?_; refine jT rfl rfl rfl ?_; apply jI; exact eI rfl; refine jT rfl rfl rfl ?_; apply jI; exact eI rfl; refine jT rfl rfl rfl ?_; apply jI; exact eS rfl; refine jT rfl rfl rfl ?_; refine jh rfl ?_; refine jT rfl rfl rfl ?_; refine jY rfl rfl (by omega) ?_; refine jT rfl rfl rfl ?_)
  refine Ops.sliceLH (lo := i) (hi := i + want.length) hOs.row rfl rfl rfl rfl (by omega) (by omega) (by rw [List.length_map]; omega) ?_
  rintro _ hR75 ⟨a75, c75, rfl⟩
  rw [← List.map_take, ← List.map_drop] at hR75
  (refine jT rfl rfl rfl ?_; apply jI; exact eS rfl; refine jT rfl rfl rfl ?_)
  refine jjQ ((Equal_str a75 wa c75 wc _ _ ((ws.take (i + want.length)).drop i) want _ (by rw [List.length_drop, List.length_take]; omega) rfl hR75 (hWR.ext hE2)).mono fun v _ _ h => h.trans (by rw [hB'])) rfl rfl ?_
  rintro _ V3 hS3 rfl
  have e3 := hS3.ext
  have z3 := e3.size
  cases B with
  | false =>
    rw [if_neg (by simp), List.append_nil] at hsn
    (apply jK rfl; exact eB rfl; refine jz ?_; refine jjK rfl ?_; refine jjG ?_; refine jjC ?_; refine jY rfl rfl (by omega) ?_; apply jI; exact eI rfl; refine jz ?_)
    refine ⟨rfl, by ((refine Same.upd rfl ?_; refine Same.upd rfl ?_; refine Same.upd rfl ?_; refine Same.upd rfl ?_; refine Same.upd rfl ?_; refine Same.upd rfl ?_; refine Same.upd rfl ?_; refine Same.upd rfl ?_; refine Same.upd rfl ?_; refine Same.upd rfl ?_; refine Same.upd rfl ?_; refine Same.upd rfl ?_; refine Same.upd rfl ?_; refine Same.upd rfl ?_; refine Same.upd rfl ?_; refine Same.upd rfl ?_; refine Same.upd rfl ?_; refine Same.upd rfl ?_; refine Same.upd rfl ?_; refine Same.upd rfl ?_; refine Same.upd rfl ?_; refine Same.upd rfl ?_; refine Same.upd rfl ?_; refine Same.upd rfl ?_; refine Same.upd rfl ?_; refine Same.upd rfl ?_; refine Same.upd rfl ?_; exact Same.ovN)), ws.length - (i + 1), by omega, i + 1, _, congrArg (Value.int .i64) (by omega), rfl, rfl, by omega, hE2.trans e3, by omega, hB14.ext e3, hOs.ext e3, hOp.ext e3, by rw [hsn]; exact hO.ext e3, hOl⟩
  | true =>
    rw [if_pos rfl] at hsn
    have hin : i + nb < ps.length := by omega
    have hgd : ps.getD (i + nb) (0, 0, 0) = ps[i + nb] := by rw [List.getD_eq_getElem?_getD, List.getElem?_eq_getElem hin, Option.getD_some]
    rw [hgd] at hsn
    have i5 : RowI V3 (.slice pa ps.length pc) true 3 (ps.map encPl) := ⟨(hOp.ext e3).row⟩
    (apply jK rfl; exact eB rfl; refine jz ?_; refine jjJ rfl ?_; refine jjC ?_; apply jI; exact eS rfl; refine jm ?_; refine jn rfl ?_; refine jN rfl rfl rfl ?_; apply jI; exact eI rfl; apply jI; exact eS rfl; refine jh rfl ?_; refine jY rfl rfl (by omega) ?_; refine jF rfl rfl rfl (map_get (by omega)) ?_; intro _ _ _; refine jQ rfl rfl ?_)
    (refine jjP (v := .agg _) rfl (by exact rfl) (by exact rfl) (by exact rfl) (by exact rfl) ?_; intro b20 w_b20 hb_b20 hs_b20 hS_b20 hk_b20; have hR_b20 := RowV.one (agg := true) (k := 3) rfl hk_b20)
    have hR1 : RowV w_b20 true 3 (.slice (some ⟨b20, 0, none⟩) 1 1) [encPl ps[i + nb]] := hR_b20
    have e20 := e3.trans hS_b20.ext
    have z20 := e20.size
    refine Ops.appendL (hO.ext e20) (by omega) hR1 rfl rfl rfl rfl (one_pl _) ?_ ?_ ?_
    · rw [List.length_map, List.length_append]; simp only [List.length_cons, List.length_nil]; omega
    · rw [List.length_map, List.length_append]; simp only [List.length_cons, List.length_nil]; omega
    intro v2 V4 hA hO4 _ hown2
    obtain ⟨va4, vl4, vc4, rfl⟩ := hO4.slice3
    have zA := hA.g.size
    have hOs20 := hOs.ext e20
    have hOp20 := hOp.ext e20
    have ltB : b14 < w_b14.heap.size := hA_b14.lt
    have hnb : ∀ g, V.heap.size ≤ g → g < w_b14.heap.size → (Value.slice va2 vl2 vc2).ownBlock ≠ some g := fun g h1 h2 h => by have := hOl g h; omega
    (apply jJ; exact eS rfl; refine jz ?_; refine jjC ?_; refine jY rfl rfl (by omega) ?_; apply jI; exact eI rfl; refine jz ?_)
    refine ⟨rfl, by ((refine Same.upd rfl ?_; refine Same.upd rfl ?_; refine Same.upd rfl ?_; refine Same.upd rfl ?_; refine Same.upd rfl ?_; refine Same.upd rfl ?_; refine Same.upd rfl ?_; refine Same.upd rfl ?_; refine Same.upd rfl ?_; refine Same.upd rfl ?_; refine Same.upd rfl ?_; refine Same.upd rfl ?_; refine Same.upd rfl ?_; refine Same.upd rfl ?_; refine Same.upd rfl ?_; refine Same.upd rfl ?_; refine Same.upd rfl ?_; refine Same.upd rfl ?_; refine Same.upd rfl ?_; refine Same.upd rfl ?_; refine Same.upd rfl ?_; refine Same.upd rfl ?_; refine Same.upd rfl ?_; refine Same.upd rfl ?_; refine Same.upd rfl ?_; refine Same.upd rfl ?_; refine Same.upd rfl ?_; refine Same.upd rfl ?_; refine Same.upd rfl ?_; refine Same.upd rfl ?_; refine Same.upd rfl ?_; refine Same.upd rfl ?_; refine Same.upd rfl ?_; refine Same.upd rfl ?_; refine Same.upd rfl ?_; refine Same.upd rfl ?_; refine Same.upd rfl ?_; refine Same.upd rfl ?_; refine Same.upd rfl ?_; exact Same.ovN)), ws.length - (i + 1), by omega, i + 1, _, congrArg (Value.int .i64) (by omega), rfl, rfl, by omega, hA.ext (hE2.trans e20) (by omega), by omega, hA.bk (hB14.ext e20) (hnb _ (by omega) ltB), hOs20.app hA (fun g hg => hnb g (hOs1.block g hg).1 (by have := (hOs1.block g hg).2; omega)), hOp20.app hA (fun g hg => hnb g (hOp1.block g hg).1 (by have := (hOp1.block g hg).2; omega)), ?_, ?_⟩
    · rw [hsn, ← List.append_assoc, List.map_append]
      exact hO4
    · intro g (hg : (Value.slice va4 vl4 vc4).ownBlock = some g)
      rcases hown2 with h | h
      · exact hOl g (h ▸ hg)
      · rw [h] at hg; cases hg; right; omega
end
end Go.Proofs.YtgnjjocafmofaaaGreatDoor

/- Plain law: where slips may be from. -/
namespace Go.Proofs.YtgnjjocafmofaaaGreatDoor
open Go.RowKit

theorem cut3 {α : Type} {ws : List α} {a i b : Nat} (h1 : a ≤ i) (hi : i < ws.length) (h2 : i ≤ b) : (ws.take i).drop a ++ ([ws[i]] ++ (ws.take (b + 1)).drop (i + 1)) = (ws.take (b + 1)).drop a := by
  have e1 : (ws.take (b + 1)).drop i = ws[i] :: (ws.take (b + 1)).drop (i + 1) := by
    rw [List.drop_eq_getElem_cons (by rw [List.length_take]; omega), List.getElem_take]
  have e2 : (ws.take (b + 1)).drop a = (ws.take i).drop a ++ (ws.take (b + 1)).drop i := by
    have h3 : (ws.take (b + 1)).take i = ws.take i := by rw [List.take_take, Nat.min_eq_left (by omega)]
    have h4 := List.take_append_drop i (ws.take (b + 1))
    rw [h3] at h4
    conv => lhs; rw [← h4]
    rw [List.drop_append_of_le_length (by rw [List.length_take]; omega)]
  rw [e2, e1]; rfl
theorem mem_whK {want ws : List ByteArray} {nb : Nat} {ps : List Pl} {m : Nat} {x : Pl} : x ∈ whK want nb ws ps m ↔ ∃ j, j < m ∧ hitB want ws j = true ∧ x = ps.getD (j + nb) (0, 0, 0) := by
  simp only [whK, List.mem_map, List.mem_filter, List.mem_range]
  constructor
  · rintro ⟨j, ⟨h1, h2⟩, rfl⟩; exact ⟨j, h1, h2, rfl⟩
  · rintro ⟨j, h1, h2, rfl⟩; exact ⟨j, ⟨h1, h2⟩, rfl⟩
theorem mem_where {t : Tx} {s : Slp} {x : Pl} : x ∈ whereF t s ↔ ∃ k j, k < t.length ∧ j < (wsT t k).flatten.length ∧ hitB (wantS s) (wsT t k).flatten j = true ∧ x = (runA k (wsT t k)).getD (j + (wordsL s.2.2.1).length) (0, 0, 0) := by
  simp only [whereF, whN, List.mem_flatMap, List.mem_range, mem_whK]
  constructor
  · rintro ⟨k, hk, j, h1, h2, h3⟩; exact ⟨k, j, hk, h1, h2, h3⟩
  · rintro ⟨k, j, hk, h1, h2, h3⟩; exact ⟨k, hk, j, h1, h2, h3⟩
/-- Where the words match, they stand. -/
theorem hit_get {want ws : List ByteArray} {j : Nat} (h : hitB want ws j = true) {q : Nat} (hq : q < want.length) : ws[j + q]? = some want[q] := by
  have e := of_decide_eq_true h
  have : want[q]? = some want[q] := List.getElem?_eq_getElem hq
  rw [← this]
  conv => rhs; rw [← e]
  rw [List.getElem?_take, if_pos hq, List.getElem?_drop]
theorem wantS_word (s : Slp) : (wantS s)[(wordsL s.2.2.1).length]? = some s.2.1 := by
  rw [wantS, List.getElem?_append_right (Nat.le_refl _), Nat.sub_self]; rfl
theorem wantS_lt (s : Slp) : (wordsL s.2.2.1).length < (wantS s).length := (List.getElem?_eq_some_iff.1 (wantS_word s)).1
/-- A place from which a slip may be has its word. -/
theorem where_word {t : Tx} {s : Slp} {x : Pl} (h : x ∈ whereF t s) : ∃ k i : Nat, k < t.length ∧ (runA k (wsT t k))[i]? = some x ∧ (wsT t k).flatten[i]? = some s.2.1 := by
  obtain ⟨k, j, hk, hj, hh, rfl⟩ := mem_where.1 h
  have h1 := hit_get hh (wantS_lt s)
  have h2 := wantS_word s
  rw [List.getElem?_eq_getElem (wantS_lt s)] at h2
  rw [h2] at h1
  have hl := (List.getElem?_eq_some_iff.1 h1).1
  rw [← runA_len k] at hl
  exact ⟨k, _, hk, by rw [List.getD_eq_getElem?_getD, List.getElem?_eq_getElem hl, Option.getD_some], h1⟩
/-- A slip may be from its own place. -/
theorem where_self {t : Tx} (ht : textB t = true) {wd side : Int} (hc : cutB wd side = true) {p : Pl} {s : Slp} (h : makeF t side wd p = some s) : p ∈ whereF t s := by
  obtain ⟨k, i, hi, hk, hp, hw, hW, rfl⟩ := make_open ht hc h
  obtain ⟨⟨b1, b2, b3, b4⟩, _⟩ := best_spec (side := side) hi hW
  generalize bestA (wsT t k).flatten side wd i = m at *
  have hb : wordsL (joinB (((wsT t k).flatten.take i).drop m.1)) = ((wsT t k).flatten.take i).drop m.1 := wordsL_join (take_words hw)
  have ha : wordsL (joinB (((wsT t k).flatten.take (m.2 + 1)).drop (i + 1))) = ((wsT t k).flatten.take (m.2 + 1)).drop (i + 1) := wordsL_join (take_words hw)
  refine mem_where.2 ⟨k, m.1, hk, by omega, ?_, ?_⟩
  · simp only [wantS]
    rw [hb, ha, cut3 b1 hi b2, hitB, cut_len (by omega) (by omega), List.drop_take, decide_eq_true rfl]
  · simp only
    rw [hb, cut_len b1 (by omega), show m.1 + (i - m.1) = i by omega, List.getD_eq_getElem?_getD, hp, Option.getD_some]
theorem where_same {t : Tx} {s x : Slp} (h : s.2 = x.2) : whereF t s = whereF t x := by
  simp only [whereF, wantS, h]
theorem hit_pre {want want' ws : List ByteArray} {j : Nat} (h : hitB want ws j = true) (hp : want' <+: want) : hitB want' ws j = true := by
  obtain ⟨r, rfl⟩ := hp
  have e := of_decide_eq_true h
  refine decide_eq_true ?_
  have := congrArg (List.take want'.length) e
  rw [List.take_take, List.length_append, Nat.min_eq_left (by omega), List.take_left] at this
  exact this
theorem hit_suf {want want' ws : List ByteArray} {j : Nat} (h : hitB (want ++ want') ws j = true) : hitB want' ws (j + want.length) = true := by
  have e := of_decide_eq_true h
  refine decide_eq_true ?_
  have := congrArg (List.drop want.length) e
  rw [List.drop_left, List.length_append, List.drop_take, List.drop_drop, Nat.add_sub_cancel_left] at this
  exact this
/-- With no words behind it a slip may be from no fewer places. -/
theorem where_some {t : Tx} {s : Slp} {x q : Pl} (h : x ∈ whereF t s) : x ∈ whereF t (q, s.2.1, s.2.2.1, ⟨#[]⟩) := by
  obtain ⟨k, j, hk, hj, hh, rfl⟩ := mem_where.1 h
  refine mem_where.2 ⟨k, j, hk, hj, hit_pre hh ?_, rfl⟩
  refine ⟨wordsL s.2.2.2, ?_⟩
  have e0 : wordsL (⟨#[]⟩ : ByteArray) = [] := rfl
  simp [wantS, e0]
/-- With no words around it neither. -/
theorem where_bare {t : Tx} {w b : ByteArray} {x q q' : Pl} (h : x ∈ whereF t (q, w, b, ⟨#[]⟩)) : x ∈ whereF t (q', w, ⟨#[]⟩, ⟨#[]⟩) := by
  obtain ⟨k, j, hk, hj, hh, rfl⟩ := mem_where.1 h
  have e0 : wordsL (⟨#[]⟩ : ByteArray) = [] := rfl
  have h1 : hitB [w] (wsT t k).flatten (j + (wordsL b).length) = true := hit_suf (want := wordsL b) (by simpa [wantS, e0] using hh)
  have h2 := hit_get h1 (q := 0) (by simp)
  have hl := (List.getElem?_eq_some_iff.1 h2).1
  refine mem_where.2 ⟨k, j + (wordsL b).length, hk, by omega, by simpa [wantS, e0] using h1, ?_⟩
  simp [e0]
/-- All places of a word. -/
def allW (t : Tx) (n : Nat) : List (Pl × ByteArray) := (List.range n).flatMap fun k => (runA k (wsT t k)).zip (wsT t k).flatten
def placesF (t : Tx) (w : ByteArray) : List Pl := ((allW t t.length).filter fun x => decide (x.2 = w)).map (·.1)
theorem whK_one {w : ByteArray} {ws : List ByteArray} {ps : List Pl} (hl : ps.length = ws.length) : ∀ m, m ≤ ws.length → whK [w] 0 ws ps m = (((ps.zip ws).take m).filter fun x => decide (x.2 = w)).map (·.1)
  | 0, _ => by simp [whK]
  | m + 1, hm => by
    have hz : m < (ps.zip ws).length := by rw [List.length_zip]; omega
    rw [whK_succ, whK_one hl m (by omega), take_snoc_get (List.getElem?_eq_getElem hz), List.filter_append, List.map_append]
    congr 1
    have hd : (ws.drop m).take [w].length = [ws[m]'(by omega)] := by
      rw [List.drop_eq_getElem_cons (by omega)]; rfl
    have e : hitB [w] ws m = decide (ws[m]'(by omega) = w) := by
      rw [hitB, hd]; simp
    rw [e, List.getElem_zip]
    by_cases h : ws[m]'(by omega) = w
    · simp only [h, decide_true, if_true, List.filter_cons_of_pos, List.filter_nil, List.map_cons, List.map_nil, Nat.add_zero]
      rw [List.getD_eq_getElem?_getD, List.getElem?_eq_getElem (by omega), Option.getD_some]
    · simp [h]
theorem where_places (t : Tx) (w : ByteArray) (q : Pl) : whereF t (q, w, ⟨#[]⟩, ⟨#[]⟩) = placesF t w := by
  have e0 : wordsL (⟨#[]⟩ : ByteArray) = [] := rfl
  simp only [whereF, placesF, allW, whN, wantS, e0, List.nil_append, List.append_nil, List.length_nil]
  rw [List.filter_flatMap, List.map_flatMap]
  congr 1
  funext k
  rw [whK_one (runA_len _ _) _ (Nat.le_refl _), List.take_of_length_le (by rw [List.length_zip, runA_len]; omega)]
end Go.Proofs.YtgnjjocafmofaaaGreatDoor

/- The reference: Run, index, joined, Length. -/
namespace Go.Proofs.YtgnjjocafmofaaaGreatDoor
open Go.RowKit

section
variable (a : Option Addr) (c : Nat) (cs : List Ch) (w : World) [hrow : RowI w (.slice a cs.length c) true 2 (cs.map encCh)] [hT : TextI w cs]
set_option maxHeartbeats 4000000 in
theorem Run_ref3 (hs : SmallT cs) (k : Nat) (hk : k < cs.length) : Ct Tryz.prog 42 [.agg #[.slice a cs.length c], .int .i64 (k : Int)] w fun v w' =>
    ∃ wv av, v = .tuple #[wv, av] ∧ OwnL w' w.heap.size 9 false 1 wv ((rnW cs[k]).map strV) ∧ OwnL w' w.heap.size 43 true 3 av ((runA k (chW cs[k])).map encPl) := by
  have hs1 := hs.1
  have hsk := hs.2 _ (List.getElem_mem hk)
  have hsl := hsk.1
  have hsm := chW_small fun y hy => (hsk.2 y hy).1
  have hcl : (chW cs[k]).length = cs[k].2.2.2.length := by simp [chW]
  refine Ct.ofW (by simp) ?_
  (refine jjB ?_; refine jjC ?_)
  (refine jy rfl ?_; intro b2 w_b2 hb_b2 hs_b2 hS_b2 hk_b2; have hA_b2 := At.ofBlock hk_b2)
  have hgk := List.getElem?_eq_getElem hk
  (apply jJ; exact eS rfl; apply jJ; exact eS rfl; refine jz ?_; refine jjB ?_; refine jjC ?_; apply jJ; exact eS rfl; refine jz ?_; refine jjB ?_; refine jjC ?_; apply jJ; exact eS rfl; refine jz ?_; refine jjB ?_; refine jjC ?_; refine jm ?_; refine jn rfl ?_; refine jN rfl rfl rfl ?_; apply jI; exact eI rfl; refine jF rfl rfl rfl (map_get (by omega)) ?_; intro _ _ _; refine jm ?_; refine jn rfl ?_; refine jP rfl rfl rfl ?_; apply jJ; exact eS rfl; refine jz ?_; refine jjB ?_; refine jjB ?_; refine jjC ?_; apply jJ; exact eI rfl; refine jz ?_; refine jjD ?_)
  have i1 := hT.line hk
  have hE7 : Ext w w_b2 := inferInstance
  refine W.keep0 [(1, .int .i64 ((k : Nat) : Int)), (6, .slice none 0 0), (7, .slice none 0 0), (8, .slice cs[k].2.1 cs[k].2.2.2.length cs[k].2.2.1), (9, .int .i64 ((0 : Nat) : Int))] ⟨eI rfl, eS rfl, eS rfl, eS rfl, eI rfl, trivial⟩ fun s0 => ?_
  refine W.loopG (17 :: 18 :: 19 :: 20 :: 10 :: 23 :: 24 :: 25 :: 26 :: 27 :: 28 :: 29 :: 32 :: 33 :: 34 :: 35 :: 36 :: 37 :: 38 :: 39 :: 40 :: 41 :: 42 :: 43 :: 44 :: 45 :: 46 :: 47 :: 48 :: 6 :: 7 :: 30 :: 31 :: 21 :: 22 :: 9 :: []) (fun g s' V => ∃ (n : Nat) (wv av : Value), s' 9 = .int .i64 ((n : Nat) : Int) ∧ s' 6 = wv ∧ s' 7 = av ∧ g = cs[k].2.2.2.length - n ∧ n ≤ cs[k].2.2.2.length ∧ Ext w V ∧ w_b2.heap.size ≤ V.heap.size ∧ OwnL V w_b2.heap.size 9 false 1 wv (((chW cs[k]).take n).flatten.map strV) ∧ OwnL V w_b2.heap.size 43 true 3 av ((runAn k (chW cs[k]) n).map encPl)) cs[k].2.2.2.length ⟨0, _, _, rfl, rfl, rfl, rfl, Nat.zero_le _, hE7, Nat.le_refl _, OwnL.nil _ _ _ _ _, OwnL.nil _ _ _ _ _⟩ ?_
  rintro _ sd V ⟨n, wv, av, h9, h6, h7, rfl, hn, hE, hz, hOw, hOa⟩
  obtain ⟨wa, wl, wc, rfl⟩ := hOw.slice3
  obtain ⟨aa, al, ac, rfl⟩ := hOa.slice3
  refine W.fix h9 (W.fix (d := 6) h6 (W.fix (d := 7) h7 ?_))
  clear h9 h6 h7
  by_cases hnl : n < cs[k].2.2.2.length
  rotate_left
  · obtain rfl : n = cs[k].2.2.2.length := by omega
    rw [← hcl, List.take_length] at hOw
    rw [← hcl] at hOa
    (refine jjB ?_; refine jjB ?_; refine jjC ?_; apply jI; exact eI rfl; apply jI; exact eS rfl; refine jh rfl ?_; refine jja rfl rfl (by omega) ?_; refine jz ?_; refine jjK rfl ?_; refine jjE ?_; refine jjB ?_; refine jjC ?_; apply jI; exact eS rfl; apply jI; exact eS rfl; apply jJ; exact eS rfl; apply jJ; exact eS rfl; refine jz ?_; refine jjF ?_; refine jC rfl rfl rfl ⟨inferInstance, ?_⟩)
    exact ⟨_, _, rfl, hOw.mono hE7.size, hOa.mono hE7.size⟩
  have hsn := hsk.2 _ (List.getElem_mem hnl)
  have hgn := chW_get hnl
  have hTV : TextI V cs := hT.ext hE
  have i2 := hTV.line hk
  (refine jjB ?_; refine jjB ?_; refine jjC ?_; apply jI; exact eI rfl; apply jI; exact eS rfl; refine jh rfl ?_; refine jjZ rfl rfl (by omega) ?_; refine jz ?_; refine jjJ rfl ?_; refine jjG ?_; refine jjB ?_; refine jjD ?_; refine jjB ?_; refine jjC ?_; apply jJ; exact eI rfl; refine jz ?_; refine jjD ?_)
  refine W.keep [(1, .int .i64 ((k : Nat) : Int)), (6, .slice wa wl wc), (7, .slice aa al ac), (8, .slice cs[k].2.1 cs[k].2.2.2.length cs[k].2.2.1), (9, .int .i64 ((n : Nat) : Int)), (10, .int .i64 ((0 : Nat) : Int))] (D := (17 :: 18 :: 19 :: 20 :: 10 :: 23 :: 24 :: 25 :: 26 :: 27 :: 28 :: 29 :: 32 :: 33 :: 34 :: 35 :: 36 :: 37 :: 38 :: 39 :: 40 :: 41 :: 42 :: 43 :: 44 :: 45 :: 46 :: 47 :: 48 :: 6 :: 7 :: 30 :: 31 :: 21 :: 22 :: 9 :: [])) (sO := upds s0 _) (by ((refine Same.upd rfl ?_; refine Same.upd rfl ?_; refine Same.upd rfl ?_; refine Same.upd rfl ?_; refine Same.upd rfl ?_; refine Same.upd rfl ?_; refine Same.upd rfl ?_; refine Same.upd rfl ?_; exact Same.ovN))) ⟨eI rfl, eS rfl, eS rfl, eS rfl, eI rfl, eI rfl, trivial⟩ fun s1 hs1' => ?_
  refine W.loopG (23 :: 24 :: 25 :: 26 :: 27 :: 28 :: 29 :: 32 :: 33 :: 34 :: 35 :: 36 :: 37 :: 38 :: 39 :: 40 :: 41 :: 42 :: 43 :: 44 :: 45 :: 46 :: 47 :: 48 :: 6 :: 7 :: 30 :: 31 :: 10 :: []) (fun g s' V => ∃ (q : Nat) (wv av : Value), s' 10 = .int .i64 ((q : Nat) : Int) ∧ s' 6 = wv ∧ s' 7 = av ∧ g = cs[k].2.2.2[n].2.2.length - q ∧ q ≤ cs[k].2.2.2[n].2.2.length ∧ Ext w V ∧ w_b2.heap.size ≤ V.heap.size ∧ OwnL V w_b2.heap.size 9 false 1 wv ((((chW cs[k]).take n).flatten ++ cs[k].2.2.2[n].2.2.take q).map strV) ∧ OwnL V w_b2.heap.size 43 true 3 av ((runAn k (chW cs[k]) n ++ lnP k n q).map encPl)) cs[k].2.2.2[n].2.2.length ⟨0, _, _, rfl, rfl, rfl, rfl, Nat.zero_le _, hE, hz, by rw [List.take_zero, List.append_nil]; exact hOw, by rw [show lnP k n 0 = [] from rfl, List.append_nil]; exact hOa⟩ ?_
  rintro _ sd2 V2 ⟨q, wv, av, h10, h6, h7, rfl, hq, hE, hz, hOw, hOa⟩
  obtain ⟨wa, wl, wc, rfl⟩ := hOw.slice3
  obtain ⟨aa, al, ac, rfl⟩ := hOa.slice3
  refine W.fix h10 (W.fix (d := 6) h6 (W.fix (d := 7) h7 ?_))
  clear h10 h6 h7
  have hTV2 : TextI V2 cs := hT.ext hE
  have i3 := hTV2.line hk
  have i4 := hTV2.word hk hnl
  by_cases hql : q < cs[k].2.2.2[n].2.2.length
  rotate_left
  · obtain rfl : q = cs[k].2.2.2[n].2.2.length := by omega
    rw [List.take_length, flat_next hgn] at hOw
    rw [← runAn_succ k hgn] at hOa
    (refine jjB ?_; refine jjB ?_; refine jjC ?_; apply jI; exact eI rfl; apply jI; exact eS rfl; apply jI; exact eI rfl; refine jF rfl rfl rfl (map_get (by omega)) ?_; intro _ _ _; refine jQ rfl rfl ?_; refine jh rfl ?_; refine jja rfl rfl (by omega) ?_; refine jz ?_; refine jjK rfl ?_; refine jjE ?_; refine jjC ?_; apply jI; exact eI rfl; refine jY rfl rfl (by omega) ?_; apply jJ; exact eI rfl; refine jz ?_)
    exact ⟨rfl, by ((refine Same.upd rfl ?_; refine Same.upd rfl ?_; refine Same.upd rfl ?_; refine Same.upd rfl ?_; refine Same.upd rfl ?_; refine Same.upd rfl ?_; refine Same.upd rfl ?_; refine Same.upd rfl ?_; refine Same.upd rfl ?_; refine Same.upd rfl ?_; refine Same.upd rfl ?_; refine Same.upd rfl ?_; refine Same.upd rfl ?_; refine Same.ovN' rfl ?_; assumption)), cs[k].2.2.2.length - (n + 1), by omega, n + 1, _, _, congrArg (Value.int .i64) (by omega), rfl, rfl, rfl, by omega, hE, hz, hOw, hOa⟩
  have hl1 : (((chW cs[k]).take n).flatten ++ cs[k].2.2.2[n].2.2.take q).length ≤ 1001000 := by
    have := flat_take hsm (n := n) (by omega)
    rw [List.length_append, List.length_take]; omega
  have hl2 : (runAn k (chW cs[k]) n ++ lnP k n q).length ≤ 1001000 := by
    have := flat_take hsm (n := n) (by omega)
    rw [List.length_append, lnP_len, runAn_len k (by omega)]; omega
  (refine jjB ?_; refine jjB ?_; refine jjC ?_; apply jI; exact eI rfl; apply jI; exact eS rfl; apply jI; exact eI rfl; refine jF rfl rfl rfl (map_get (by omega)) ?_; intro _ _ _; refine jQ rfl rfl ?_; refine jh rfl ?_; refine jjZ rfl rfl (by omega) ?_; refine jz ?_; refine jjJ rfl ?_; refine jjG ?_; refine jjB ?_; refine jjD ?_; refine jjC ?_; apply jI; exact eS rfl; apply jI; exact eS rfl; apply jI; exact eI rfl; refine jF rfl rfl rfl (map_get (by omega)) ?_; intro _ _ _; refine jQ rfl rfl ?_; apply jI; exact eI rfl; refine jF rfl rfl rfl (map_get (by omega)) ?_; intro _ _ _; refine jQ rfl rfl ?_)
  (refine jjP (v := .string _) rfl (by exact rfl) (by exact rfl) (by exact rfl) (by exact rfl) ?_; intro b40 w_b40 hb_b40 hs_b40 hS_b40 hk_b40; have hR_b40 := RowV.one (agg := false) (k := 1) rfl hk_b40)
  have z40 := hS_b40.size
  refine Ops.appendL (hOw.ext hS_b40.ext) (by omega) hR_b40 rfl rfl rfl rfl (one_str _) ?_ ?_ ?_
  · rw [List.length_map]; simp only [List.length_cons, List.length_nil]; omega
  · rw [List.length_map]; simp only [List.length_cons, List.length_nil]; omega
  intro wv2 w41 hA41 hO41 _ hown41
  have z41 := hA41.g.size
  have hE41 : Ext w w41 := hA41.ext (hE.trans hS_b40.ext) (by omega)
  rw [← List.map_singleton, ← List.map_append, flat_step (List.getElem?_eq_getElem hql)] at hO41
  have hOa41 := (hOa.ext hS_b40.ext).app hA41 (OwnL.ne (hOa.ext hS_b40.ext) (hOw.ext hS_b40.ext) (by decide))
  (apply jI; exact eS rfl; apply jI; exact eI rfl; apply jI; exact eI rfl; apply jI; exact eI rfl)
  (refine jjS (cells := [.int .i64 (k : Int), .int .i64 (n : Int), .int .i64 (q : Int)]) ?_ ?_; exact rfl)
  (refine jjP (v := .agg _) rfl (by exact rfl) (by exact rfl) (by exact rfl) (by exact rfl) ?_; intro b47 w_b47 hb_b47 hs_b47 hS_b47 hk_b47; have hR_b47 := RowV.one (agg := true) (k := 3) rfl hk_b47)
  have z47 := hS_b47.size
  refine Ops.appendL (hOa41.ext hS_b47.ext) (by omega) hR_b47 rfl rfl rfl rfl (one_pl ((k : Int), (n : Int), (q : Int))) ?_ ?_ ?_
  · rw [List.length_map]; simp only [List.length_cons, List.length_nil]; omega
  · rw [List.length_map]; simp only [List.length_cons, List.length_nil]; omega
  intro av2 w48 hA48 hO48 _ hown48
  have z48 := hA48.g.size
  have hE48 : Ext w w48 := hA48.ext (hE41.trans hS_b47.ext) (by omega)
  have e48 : (runAn k (chW cs[k]) n ++ lnP k n q).map encPl ++ [encPl ((k : Int), (n : Int), (q : Int))] = (runAn k (chW cs[k]) n ++ lnP k n (q + 1)).map encPl := by rw [lnP_succ]; simp
  rw [e48] at hO48
  have hO49 := (hO41.ext hS_b47.ext).app hA48 (OwnL.ne (hO41.ext hS_b47.ext) (hOa41.ext hS_b47.ext) (by decide))
  obtain ⟨wa2, wl2, wc2, rfl⟩ := hO49.slice3
  obtain ⟨aa2, al2, ac2, rfl⟩ := hO48.slice3
  (apply jJ; exact eS rfl; apply jJ; exact eS rfl; refine jz ?_; refine jjC ?_; apply jI; exact eI rfl; refine jY rfl rfl (by omega) ?_; apply jJ; exact eI rfl; refine jz ?_)
  exact ⟨rfl, by ((refine Same.upd rfl ?_; refine Same.upd rfl ?_; refine Same.upd rfl ?_; refine Same.upd rfl ?_; refine Same.upd rfl ?_; refine Same.upd rfl ?_; refine Same.upd rfl ?_; refine Same.upd rfl ?_; refine Same.upd rfl ?_; refine Same.upd rfl ?_; refine Same.upd rfl ?_; refine Same.upd rfl ?_; refine Same.upd rfl ?_; refine Same.upd rfl ?_; refine Same.upd rfl ?_; refine Same.upd rfl ?_; refine Same.upd rfl ?_; refine Same.upd rfl ?_; refine Same.upd rfl ?_; refine Same.upd rfl ?_; refine Same.upd rfl ?_; refine Same.upd rfl ?_; refine Same.upd rfl ?_; refine Same.upd rfl ?_; refine Same.upd rfl ?_; refine Same.upd rfl ?_; refine Same.upd rfl ?_; refine Same.upd rfl ?_; refine Same.upd rfl ?_; refine Same.upd rfl ?_; refine Same.upd rfl ?_; refine Same.upd rfl ?_; exact Same.ovN)), cs[k].2.2.2[n].2.2.length - (q + 1), by omega, q + 1, _, _, congrArg (Value.int .i64) (by omega), rfl, rfl, rfl, by omega, hE48, by omega, hO49, hO48⟩
end
end Go.Proofs.YtgnjjocafmofaaaGreatDoor

/- The reference: index, joined, Length. -/
namespace Go.Proofs.YtgnjjocafmofaaaGreatDoor
open Go.RowKit

set_option maxHeartbeats 1000000 in
theorem index_ref3 (a : Option Addr) (c n : Nat) (l : List Pl) (p : Pl) (j : Nat) (w : World) (hn : l.length = n) (hrow : RowV w true 3 (.slice a n c) (l.map encPl)) (hj : l[j]? = some p) (hpre : ∀ (m : Nat) (hm : m < l.length), m < j → l[m] ≠ p) : Ct Tryz.prog 142 [.slice a n c, encPl p] w fun v _ => v = .int .i64 (j : Int) := by
  subst hn
  have hlen := hrow.len
  rw [List.length_map] at hlen
  have hjl := (List.getElem?_eq_some_iff.1 hj).1
  have hje := (List.getElem?_eq_some_iff.1 hj).2
  obtain ⟨b, o, rfl, _⟩ := hrow.place' (map_get hjl)
  refine Ct.ofW (by simp) ?_
  (refine jjB ?_; refine jjC ?_)
  (refine jy rfl ?_; intro b3 w_b3 hb_b3 hs_b3 hS_b3 hk_b3; have hA_b3 := At.ofBlock hk_b3)
  (apply jJ; exact eI rfl; refine jz ?_; refine jjB ?_; refine jjC ?_; apply jJ; exact eI rfl; refine jz ?_; refine jjB ?_; refine jjD ?_)
  refine W.keep0 [(0, .slice (some ⟨b, o, none⟩) l.length c), (3, .pointer (some ⟨b3, 0, none⟩)), (5, .int .i64 ((0 : Nat) : Int))] ⟨eS rfl, eP rfl, eI rfl, trivial⟩ fun s0 => ?_
  refine W.loop (6 :: 7 :: 8 :: 9 :: 10 :: 11 :: 12 :: 13 :: 5 :: []) (fun g s' V => ∃ k : Nat, s' 5 = .int .i64 ((k : Nat) : Int) ∧ g = j - k ∧ k ≤ j) j ⟨0, rfl, rfl, Nat.zero_le _⟩ ?_
  rintro _ sd w1 hS1 ⟨k, h5, rfl, hk⟩
  refine W.fix h5 ?_
  clear h5
  have hkl : k < l.length := by omega
  obtain ⟨b', o', e', hA⟩ := hrow.place' (map_get hkl)
  cases e'
  (refine jjB ?_; refine jjB ?_)
  refine W.draw (fun w' => Ext w_b3 w') ?_
  intro w2 hS2
  have hE2 : Ext w_b3 w2 := hS1.ext.trans hS2.ext
  (refine jjV [0, 1, 2, 3, 4] ?_ ?_ ?_; (decide +kernel); (exact hE2); (((apply jjT; exact rfl; rintro w' hq; have := hq.toStep; apply jI; exact eS rfl; refine jz ?_; exact ⟨rfl, rfl⟩; apply jjT; exact rfl; rintro w' hq; have := hq.toStep; apply jI; exact eI rfl; refine jz ?_; exact ⟨rfl, rfl⟩; apply jjT; exact rfl; rintro w' hq; have := hq.toStep; refine jH _ rfl rfl rfl (by omega) ?_; refine jz ?_; exact ⟨rfl, rfl⟩; apply jjT; exact rfl; rintro w' hq; have := hq.toStep; refine jQ rfl rfl ?_; refine jz ?_; exact ⟨rfl, rfl⟩; apply jjT; exact rfl; rintro w' hq; have := hq.toStep; refine jO rfl rfl rfl rfl ?_; refine jz ?_; exact ⟨rfl, rfl⟩; refine jjU ?_))))
  by_cases hkj : l[k] = p
  · have e : k = j := by
      by_cases h : k < j
      · exact absurd hkj (hpre k hkl h)
      · omega
    subst e
    refine jjV [5] (by decide +kernel) hE2 (jjT (v := .bool false) rfl (fun w' q1 => ?_) (jjU ?_))
    · refine Ops.neqT (enc := encPl) l[k] p rfl rfl ?_
      rw [decide_eq_false (by simp [hkj])]
      refine jz ?_
      exact ⟨rfl, rfl⟩
    refine jjX (by decide +kernel) hE2 ?_
    (refine jjK rfl ?_; refine jjE ?_; refine jjB ?_; refine jjC ?_; apply jI; exact eI rfl; apply jJ; exact eI rfl; refine jz ?_; refine jjF ?_; refine jB rfl rfl ⟨inferInstance, ?_⟩)
    exact rfl
  · refine jjV [5] (by decide +kernel) hE2 (jjT (v := .bool true) rfl (fun w' q1 => ?_) (jjU ?_))
    · refine Ops.neqT (enc := encPl) l[k] p rfl rfl ?_
      rw [decide_eq_true hkj]
      refine jz ?_
      exact ⟨rfl, rfl⟩
    refine jjX (by decide +kernel) hE2 ?_
    have hkj' : k < j := by
      rcases Nat.lt_or_ge k j with h | h
      · exact h
      · have e : k = j := by omega
        subst e; exact absurd hje hkj
    (refine jjJ rfl ?_; refine jjG ?_; refine jjD ?_; refine jjC ?_; apply jI; exact eI rfl; refine jY rfl rfl (by omega) ?_; apply jJ; exact eI rfl; refine jz ?_)
    exact ⟨rfl, by ((refine Same.upd rfl ?_; refine Same.upd rfl ?_; refine Same.upd rfl ?_; refine Same.upd rfl ?_; refine Same.upd rfl ?_; refine Same.upd rfl ?_; refine Same.upd rfl ?_; refine Same.upd rfl ?_; refine Same.upd rfl ?_; refine Same.upd rfl ?_; exact Same.ovN)), j - (k + 1), by omega, inferInstance, k + 1, congrArg (Value.int .i64) (by omega), rfl, by omega⟩

theorem sum_le {m : Nat} : ∀ {ws : List ByteArray} , (∀ s ∈ ws, s.size ≤ m) → (ws.map (·.size)).sum ≤ ws.length * m
  | [], _ => by simp
  | x :: ws, h => by
    rw [List.map_cons, List.sum_cons, List.length_cons, Nat.add_mul]
    have := sum_le (ws := ws) fun s hs => h s (by simp [hs])
    have := h x (by simp)
    omega
theorem Length_ref3 (a : Option Addr) (c n : Nat) (ws : List ByteArray) (w : World) (hn : ws.length = n) (hrow : RowV w false 1 (.slice a n c) (ws.map strV)) (hs : ∀ s ∈ ws, s.size ≤ 1000) (hl : ws.length ≤ 1001000) : Ct Tryz.prog 143 [.slice a n c] w fun v _ => v = .int .i64 ((ws.length : Int) - 1 + ((ws.map (·.size)).sum : Nat)) := by
  subst hn
  have hI : RowI w (.slice a ws.length c) false 1 (ws.map strV) := ⟨hrow⟩
  refine Ct.ofW (by simp) ?_
  (refine jjB ?_; refine jjC ?_; apply jJ; exact eI rfl; refine jz ?_; refine jjB ?_; refine jjC ?_; apply jI; exact eS rfl; refine jh rfl ?_; refine jZ rfl rfl (by omega) ?_; apply jJ; exact eI rfl; refine jz ?_; refine jjB ?_; refine jjB ?_; refine jjC ?_; apply jJ; exact eI rfl; refine jz ?_; refine jjD ?_)
  refine W.keep0 [(0, .slice a ws.length c), (3, .int .i64 ((ws.length : Int) - 1)), (4, .int .i64 ((0 : Nat) : Int))] ⟨eS rfl, eI rfl, eI rfl, trivial⟩ fun s0 => ?_
  refine W.loop (8 :: 9 :: 10 :: 11 :: 14 :: 15 :: 16 :: 17 :: 18 :: 19 :: 20 :: 3 :: 12 :: 13 :: 4 :: []) (fun g s' V => ∃ k : Nat, s' 4 = .int .i64 ((k : Nat) : Int) ∧ s' 3 = .int .i64 ((ws.length : Int) - 1 + (((ws.take k).map (·.size)).sum : Nat)) ∧ g = ws.length - k ∧ k ≤ ws.length) ws.length ⟨0, rfl, by show Value.int _ _ = _; simp, rfl, Nat.zero_le _⟩ ?_
  rintro _ sd w1 hS1 ⟨k, h4, h3, rfl, hk⟩
  refine W.fix h4 (W.fix (d := 3) h3 ?_)
  clear h4 h3
  have hb := sum_le (ws := ws.take k) (m := 1000) fun s h => hs s (List.mem_of_mem_take h)
  have hb2 : (ws.take k).length * 1000 ≤ 1001000 * 1000 := Nat.mul_le_mul_right _ (by rw [List.length_take]; omega)
  by_cases hkl : k < ws.length
  · have hsz := hs _ (List.getElem_mem hkl)
    (refine jjB ?_; refine jjB ?_; refine jjC ?_; apply jI; exact eI rfl; apply jI; exact eS rfl; refine jh rfl ?_; refine jjZ rfl rfl (by omega) ?_; refine jz ?_; refine jjJ rfl ?_; refine jjG ?_; refine jjB ?_; refine jjD ?_; refine jjC ?_; apply jI; exact eI rfl; apply jI; exact eS rfl; apply jI; exact eI rfl; refine jF rfl rfl rfl (map_get (by omega)) ?_; intro _ _ _; refine jQ rfl rfl ?_; refine ji rfl ?_; refine jY rfl rfl (by omega) ?_; apply jJ; exact eI rfl; refine jz ?_; refine jjC ?_; apply jI; exact eI rfl; refine jY rfl rfl (by omega) ?_; apply jJ; exact eI rfl; refine jz ?_)
    refine ⟨rfl, by ((refine Same.upd rfl ?_; refine Same.upd rfl ?_; refine Same.upd rfl ?_; refine Same.upd rfl ?_; refine Same.upd rfl ?_; refine Same.upd rfl ?_; refine Same.upd rfl ?_; refine Same.upd rfl ?_; refine Same.upd rfl ?_; refine Same.upd rfl ?_; refine Same.upd rfl ?_; refine Same.upd rfl ?_; refine Same.upd rfl ?_; refine Same.upd rfl ?_; refine Same.upd rfl ?_; refine Same.upd rfl ?_; refine Same.upd rfl ?_; exact Same.ovN)), ws.length - (k + 1), by omega, inferInstance, k + 1, congrArg (Value.int .i64) (by omega), ?_, rfl, by omega⟩
    refine congrArg (Value.int .i64) ?_
    rw [take_snoc_get (List.getElem?_eq_getElem hkl), List.map_append, List.sum_append]
    simp only [List.map_cons, List.map_nil, List.sum_cons, List.sum_nil]
    omega
  · (refine jjB ?_; refine jjB ?_; refine jjC ?_; apply jI; exact eI rfl; apply jI; exact eS rfl; refine jh rfl ?_; refine jja rfl rfl (by omega) ?_; refine jz ?_; refine jjK rfl ?_; refine jjE ?_; refine jjB ?_; refine jjC ?_; apply jI; exact eI rfl; apply jJ; exact eI rfl; refine jz ?_; refine jjF ?_; refine jB rfl rfl ⟨inferInstance, ?_⟩)
    have : k = ws.length := by omega
    subst this
    rw [List.take_length]; exact rfl
end Go.Proofs.YtgnjjocafmofaaaGreatDoor

/- The reference: joined. -/
namespace Go.Proofs.YtgnjjocafmofaaaGreatDoor
open Go.RowKit

theorem joined_ref3 (a : Option Addr) (c n : Nat) (ws : List ByteArray) (w : World) (hn : ws.length = n) (hrow : RowV w false 1 (.slice a n c) (ws.map strV)) (hs : ∀ s ∈ ws, s.size ≤ 1000) (hl : ws.length ≤ 1001000) : Ct Tryz.prog 144 [.slice a n c] w fun v _ => v = .string (joinB ws) := by
  subst hn
  have hI : RowI w (.slice a ws.length c) false 1 (ws.map strV) := ⟨hrow⟩
  refine Ct.ofW (by simp) ?_
  (refine jjB ?_; refine jjC ?_; apply jJ; exact eT rfl; refine jz ?_; refine jjB ?_; refine jjC ?_; apply jJ; exact eT rfl; refine jz ?_; refine jjB ?_; refine jjB ?_; refine jjC ?_; apply jJ; exact eI rfl; refine jz ?_; refine jjD ?_)
  refine W.keep0 [(0, .slice a ws.length c), (3, .string (joinB (ws.take 0))), (4, .int .i64 ((0 : Nat) : Int))] ⟨eS rfl, eT rfl, eI rfl, trivial⟩ fun s0 => ?_
  refine W.loop (5 :: 6 :: 7 :: 8 :: 11 :: 12 :: 13 :: 14 :: 3 :: 15 :: 16 :: 17 :: 18 :: 19 :: 20 :: 9 :: 10 :: 4 :: []) (fun g s' V => ∃ k : Nat, s' 4 = .int .i64 ((k : Nat) : Int) ∧ s' 3 = .string (joinB (ws.take k)) ∧ g = ws.length - k ∧ k ≤ ws.length) ws.length ⟨0, rfl, rfl, rfl, Nat.zero_le _⟩ ?_
  rintro _ sd w1 hS1 ⟨k, h4, h3, rfl, hk⟩
  refine W.fix h4 (W.fix (d := 3) h3 ?_)
  clear h4 h3
  have hb := joinB_size (ws.take k) (m := 1000) fun s h => hs s (List.mem_of_mem_take h)
  have hb2 : (ws.take k).length * (1000 + 1) ≤ 1001000 * (1000 + 1) := Nat.mul_le_mul_right _ (by rw [List.length_take]; omega)
  by_cases hkl : k < ws.length
  rotate_left
  · (refine jjB ?_; refine jjB ?_; refine jjC ?_; apply jI; exact eI rfl; apply jI; exact eS rfl; refine jh rfl ?_; refine jja rfl rfl (by omega) ?_; refine jz ?_; refine jjK rfl ?_; refine jjE ?_; refine jjB ?_; refine jjC ?_; apply jI; exact eT rfl; apply jJ; exact eT rfl; refine jz ?_; refine jjF ?_; refine jB rfl rfl ⟨inferInstance, ?_⟩)
    have : k = ws.length := by omega
    subst this
    rw [List.take_length]; exact rfl
  have hsz := hs _ (List.getElem_mem hkl)
  have hg := List.getElem?_eq_getElem hkl
  by_cases h0 : 0 < k
  · (refine jjB ?_; refine jjB ?_; refine jjC ?_; apply jI; exact eI rfl; apply jI; exact eS rfl; refine jh rfl ?_; refine jjZ rfl rfl (by omega) ?_; refine jz ?_; refine jjJ rfl ?_; refine jjG ?_; refine jjB ?_; refine jjD ?_; refine jjB ?_; refine jjB ?_; refine jjC ?_; apply jI; exact eI rfl; refine jjd rfl rfl (by omega) ?_; refine jz ?_; refine jjJ rfl ?_; refine jjC ?_; apply jI; exact eT rfl)
    refine Ops.cat (a := joinB (ws.take k)) (b := ⟨#[32]⟩) rfl rfl (by show _ + 1 ≤ _; omega) ?_
    (apply jJ; exact eT rfl; refine jz ?_; refine jjC ?_; apply jI; exact eT rfl; apply jI; exact eS rfl; apply jI; exact eI rfl; refine jF rfl rfl rfl (map_get (by omega)) ?_; intro _ _ _; refine jQ rfl rfl ?_)
    refine Ops.cat (a := joinB (ws.take k) ++ ⟨#[32]⟩) (b := ws[k]) rfl rfl (by rw [ByteArray.size_append]; show _ + 1 + _ ≤ _; omega) ?_
    (apply jJ; exact eT rfl; refine jz ?_; refine jjC ?_; apply jI; exact eI rfl; refine jY rfl rfl (by omega) ?_; apply jJ; exact eI rfl; refine jz ?_)
    exact ⟨rfl, by ((refine Same.upd rfl ?_; refine Same.upd rfl ?_; refine Same.upd rfl ?_; refine Same.upd rfl ?_; refine Same.upd rfl ?_; refine Same.upd rfl ?_; refine Same.upd rfl ?_; refine Same.upd rfl ?_; refine Same.upd rfl ?_; refine Same.upd rfl ?_; refine Same.upd rfl ?_; refine Same.upd rfl ?_; refine Same.upd rfl ?_; refine Same.upd rfl ?_; refine Same.upd rfl ?_; refine Same.upd rfl ?_; refine Same.upd rfl ?_; refine Same.upd rfl ?_; refine Same.upd rfl ?_; refine Same.upd rfl ?_; refine Same.upd rfl ?_; exact Same.ovN)), ws.length - (k + 1), by omega, inferInstance, k + 1, congrArg (Value.int .i64) (by omega), congrArg Value.string (joinB_step hg h0).symm, rfl, by omega⟩
  · obtain rfl : k = 0 := by omega
    (refine jjB ?_; refine jjB ?_; refine jjC ?_; apply jI; exact eI rfl; apply jI; exact eS rfl; refine jh rfl ?_; refine jjZ rfl rfl (by omega) ?_; refine jz ?_; refine jjJ rfl ?_; refine jjG ?_; refine jjB ?_; refine jjD ?_; refine jjB ?_; refine jjB ?_; refine jjC ?_; apply jI; exact eI rfl; refine jje rfl rfl (by omega) ?_; refine jz ?_; refine jjK rfl ?_; refine jjG ?_; refine jjC ?_; apply jI; exact eT rfl; apply jI; exact eS rfl; apply jI; exact eI rfl; refine jF rfl rfl rfl (map_get (by omega)) ?_; intro _ _ _; refine jQ rfl rfl ?_)
    refine Ops.cat (a := joinB (ws.take 0)) (b := ws[0]) rfl rfl (by show 0 + _ ≤ _; omega) ?_
    (apply jJ; exact eT rfl; refine jz ?_; refine jjC ?_; apply jI; exact eI rfl; refine jY rfl rfl (by omega) ?_; apply jJ; exact eI rfl; refine jz ?_)
    refine ⟨rfl, by ((refine Same.upd rfl ?_; refine Same.upd rfl ?_; refine Same.upd rfl ?_; refine Same.upd rfl ?_; refine Same.upd rfl ?_; refine Same.upd rfl ?_; refine Same.upd rfl ?_; refine Same.upd rfl ?_; refine Same.upd rfl ?_; refine Same.upd rfl ?_; refine Same.upd rfl ?_; refine Same.upd rfl ?_; refine Same.upd rfl ?_; refine Same.upd rfl ?_; refine Same.upd rfl ?_; refine Same.upd rfl ?_; refine Same.upd rfl ?_; refine Same.upd rfl ?_; exact Same.ovN)), ws.length - (0 + 1), by omega, inferInstance, 0 + 1, congrArg (Value.int .i64) (by omega), congrArg Value.string ?_, rfl, by omega⟩
    rw [take_snoc_get hg]
    show joinB [] ++ _ = joinB [_]
    rw [joinB_one]
    apply ByteArray.ext
    simp [joinB_nil, ByteArray.data_append]
end Go.Proofs.YtgnjjocafmofaaaGreatDoor

/- The reference: slip. -/
namespace Go.Proofs.YtgnjjocafmofaaaGreatDoor
open Go.RowKit

theorem OwnL.nth {w : World} {B e : Nat} {agg : Bool} {k : Nat} {v : Value} {xs : List Value} (h : OwnL w B e agg k v xs) : ∃ a c, v = .slice a xs.length c := h.slice
section
variable (a : Option Addr) (c : Nat) (cs : List Ch) (w : World) [hrow : RowI w (.slice a cs.length c) true 2 (cs.map encCh)] [hT : TextI w cs]
set_option maxHeartbeats 4000000 in
theorem slip_ref3 (hs : SmallT cs) (wd side : Int) (k i : Nat) (m : Int × Int) (hk : k < cs.length) (hi : (runA k (chW cs[k]))[i]? = some ((k : Int), m)) : Ct Tryz.prog 111 [.agg #[.slice a cs.length c], encCut wd side, encPl ((k : Int), m)] w fun v _ => v = encSl (slipX (rnW cs[k]) side wd i ((k : Int), m)) := by
  obtain ⟨hn, hsz⟩ := rnW_small hs hk
  have hal := runA_len k (chW cs[k])
  have hil := (List.getElem?_eq_some_iff.1 hi).1
  refine Ct.ofW (by simp) ?_
  (refine jjB ?_; refine jjC ?_)
  (refine jy rfl ?_; intro b3 w_b3 hb_b3 hs_b3 hS_b3 hk_b3; have hA_b3 := At.ofBlock hk_b3)
  skip
  (refine jy rfl ?_; intro b4 w_b4 hb_b4 hs_b4 hS_b4 hk_b4; have hA_b4 := At.ofBlock hk_b4)
  skip
  (refine jy rfl ?_; intro b5 w_b5 hb_b5 hs_b5 hS_b5 hk_b5; have hA_b5 := At.ofBlock hk_b5)
  ((skip); refine jjY ?_; intro b6 w_b6 hb_b6 hs_b6 hS_b6 hk_b6; have hA_b6 := Bk.of hk_b6)
  (refine jz ?_; refine jjB ?_; refine jjC ?_; refine jO rfl rfl rfl rfl ?_; refine jm ?_; refine jn rfl ?_; refine jN rfl rfl rfl ?_)
  refine jjQ (Run_ref3 a c cs _ hs k hk) rfl rfl ?_
  rintro _ w7 hS7 ⟨_, _, rfl, hOw, hOa⟩
  have hinj := runA_nodup k (chW cs[k])
  generalize hws : rnW cs[k] = ws at hn hsz hOw
  have hlen : (runA k (chW cs[k])).length = ws.length := by rw [hal, ← hws]
  generalize runA k (chW cs[k]) = ps at *
  obtain ⟨wa, wc, rfl⟩ := hOw.slice
  obtain ⟨aa, ac, rfl⟩ := hOa.slice
  have hR := hOw.row
  have hRa := hOa.row
  rw [List.length_map] at hR hRa
  have hi' : i < ws.length := by omega
  have h32 : TextI w7 cs := inferInstance
  have z7 := hS7.size
  have hb6 : Bk w7 b6 [.int .i64 0, .int .i64 0, .int .i64 0, .string ⟨#[]⟩, .string ⟨#[]⟩, .string ⟨#[]⟩] 53 := hA_b6.ext hS7.ext
  have hb4 : At w7 b4 0 [.int .i64 wd, .int .u8 side] := inferInstance
  have hb5 : At w7 b5 0 [.int .i64 (k : Int), .int .i64 m.1, .int .i64 m.2] := inferInstance
  have hE7 : Ext w w7 := inferInstance
  (apply jI; exact eU rfl; refine ju rfl rfl ?_; refine ju rfl rfl ?_; apply jJ; exact eS rfl; apply jJ; exact eS rfl; refine jz ?_; refine jjB ?_; refine jjC ?_; apply jI; exact eS rfl; refine jO rfl rfl rfl rfl ?_)
  refine jjQ (index_ref3 aa _ _ ps ((k : Int), m) i _ (by rw [List.length_map]) hOa.row hi (fun q hq hqi => fun e => by
    have := nodup_inj hinj (List.getElem?_eq_getElem hq) (hi.trans (by rw [e]))
    omega)) rfl rfl ?_
  rintro _ w8 hS8 rfl
  have hlm : (ws.map strV).length = ws.length := List.length_map _
  rw [hlm] at hOw
  obtain ⟨bw, ow, rfl, _⟩ := hOw.row.place' (map_get hi')
  have hcw := hOw.row.cap.2
  rw [hlm] at hcw
  rw [hlm]
  (apply jJ; exact eI rfl; refine jz ?_; refine jjB ?_)
  have hE8 : Ext w w8 := inferInstance
  refine W.draw (fun w' => Ext w8 w') ?_
  intro w9 hS9
  have hA9 : At w8 bw (ow + i) (strV ws[i]).cells.toList := by
    obtain ⟨b', o', e', hA⟩ := hOw.row.place' (map_get hi')
    cases e'
    rw [Nat.mul_one] at hA
    exact hA.ext hS8.ext
  (refine jjV [0, 1, 2, 3, 4, 5, 6, 7, 8, 9] ?_ ?_ ?_; (decide +kernel); (exact hS9.ext); (((apply jjT; exact rfl; rintro w' hq; have := hq.toStep; apply jI; exact eI rfl; refine jz ?_; exact ⟨rfl, rfl⟩; apply jjT; exact rfl; rintro w' hq; have := hq.toStep; apply jI; exact eI rfl; refine jz ?_; exact ⟨rfl, rfl⟩; apply jjT; exact rfl; rintro w' hq; have := hq.toStep; apply jI; exact eS rfl; refine jz ?_; exact ⟨rfl, rfl⟩; apply jjT; exact rfl; rintro w' hq; have := hq.toStep; apply jI; exact eI rfl; refine jz ?_; exact ⟨rfl, rfl⟩; apply jjT; exact rfl; rintro w' hq; have := hq.toStep; refine jG rfl rfl rfl (by omega) ?_; refine jz ?_; exact ⟨rfl, rfl⟩; apply jjT; exact rfl; rintro w' hq; have := hq.toStep; refine jQ rfl rfl ?_; refine jz ?_; exact ⟨rfl, rfl⟩; apply jjT; exact rfl; rintro w' hq; have := hq.toStep; refine ji rfl ?_; refine jz ?_; exact ⟨rfl, rfl⟩; apply jjT; exact rfl; rintro w' hq; have := hq.toStep; apply jJ; exact eI rfl; refine jz ?_; exact ⟨rfl, rfl⟩; apply jjT; exact rfl; rintro w' hq; have := hq.toStep; apply jJ; exact eI rfl; refine jz ?_; exact ⟨rfl, rfl⟩; apply jjT; exact rfl; rintro w' hq; have := hq.toStep; apply jJ; exact eI rfl; refine jz ?_; exact ⟨rfl, rfl⟩; refine jjU ?_))))
  refine jjX (by decide +kernel) hS9.ext ?_
  have hsi := hsz _ (List.getElem_mem hi')
  have hE9 : Ext w7 w9 := hS8.ext.trans hS9.ext
  have hw9 : Ext w w9 := hE8.trans hS9.ext
  have hb49 : At w9 b4 0 [.int .i64 wd, .int .u8 side] := hb4.ext hE9
  (refine jjB ?_; refine jjB ?_; refine jjC ?_; apply jJ; exact eI rfl; refine jz ?_; refine jjD ?_)
  refine W.keep0 [(4, .pointer (some ⟨b4, 0, none⟩)), (5, .pointer (some ⟨b5, 0, none⟩)), (6, .pointer (some ⟨b6, 0, none⟩)), (7, .slice (some ⟨bw, ow, none⟩) ws.length wc), (9, .int .i64 ((i : Nat) : Int)), (10, .int .i64 (((stA ws side wd i 0).1 : Nat) : Int)), (11, .int .i64 (((stA ws side wd i 0).2 : Nat) : Int)), (12, .int .i64 (lenX ws (stA ws side wd i 0))), (13, .int .i64 ((0 : Nat) : Int))] ⟨eP rfl, eP rfl, eP rfl, eS rfl, eI rfl, eI rfl, eI rfl, congrArg (Value.int .i64) (lenX_self hi').symm, eI rfl, trivial⟩ fun s0 => ?_
  refine W.loop (36 :: 37 :: 38 :: 41 :: 14 :: 42 :: 43 :: 44 :: 45 :: 48 :: 49 :: 50 :: 51 :: 52 :: 53 :: 15 :: 54 :: 55 :: 56 :: 57 :: 58 :: 59 :: 60 :: 61 :: 62 :: 63 :: 64 :: 65 :: 66 :: 67 :: 68 :: 69 :: 70 :: 71 :: 72 :: 73 :: 74 :: 75 :: 76 :: 16 :: 17 :: 77 :: 78 :: 79 :: 18 :: 106 :: 105 :: 108 :: 109 :: 110 :: 107 :: 111 :: 112 :: 113 :: 115 :: 116 :: 117 :: 114 :: 118 :: 119 :: 120 :: 80 :: 81 :: 82 :: 83 :: 84 :: 85 :: 86 :: 87 :: 88 :: 89 :: 90 :: 91 :: 92 :: 93 :: 94 :: 95 :: 96 :: 97 :: 98 :: 99 :: 100 :: 101 :: 102 :: 103 :: 104 :: 121 :: 122 :: 123 :: 124 :: 10 :: 11 :: 12 :: 46 :: 47 :: 39 :: 40 :: 13 :: []) (fun g s' V => ∃ q : Nat, s' 13 = .int .i64 ((q : Nat) : Int) ∧ s' 10 = .int .i64 (((stA ws side wd i q).1 : Nat) : Int) ∧ s' 11 = .int .i64 (((stA ws side wd i q).2 : Nat) : Int) ∧ s' 12 = .int .i64 (lenX ws (stA ws side wd i q)) ∧ g = i + 1 - q ∧ q ≤ i + 1) (i + 1) ⟨0, rfl, rfl, rfl, rfl, rfl, Nat.zero_le _⟩ ?_
  rintro _ sd wA hSA ⟨q, h13, h10, h11, h12, rfl, hq⟩
  refine W.fix h13 (W.fix (d := 10) h10 (W.fix (d := 11) h11 (W.fix (d := 12) h12 ?_)))
  clear h13 h10 h11 h12
  by_cases hqi : q ≤ i
  · (refine jjB ?_; refine jjB ?_; refine jjC ?_; apply jI; exact eI rfl; apply jI; exact eI rfl; refine jjb rfl rfl (by omega) ?_; refine jz ?_; refine jjJ rfl ?_; refine jjG ?_; refine jjB ?_; refine jjD ?_; refine jjB ?_; refine jjC ?_; apply jI; exact eI rfl; apply jJ; exact eI rfl; refine jz ?_; refine jjD ?_)
    refine W.keep [(4, .pointer (some ⟨b4, 0, none⟩)), (5, .pointer (some ⟨b5, 0, none⟩)), (6, .pointer (some ⟨b6, 0, none⟩)), (7, .slice (some ⟨bw, ow, none⟩) ws.length wc), (9, .int .i64 ((i : Nat) : Int)), (10, .int .i64 (((stB ws side wd i q 0).1 : Nat) : Int)), (11, .int .i64 (((stB ws side wd i q 0).2 : Nat) : Int)), (12, .int .i64 (lenX ws (stB ws side wd i q 0))), (13, .int .i64 ((q : Nat) : Int)), (14, .int .i64 ((i + 0 : Nat) : Int))] (D := (36 :: 37 :: 38 :: 41 :: 14 :: 42 :: 43 :: 44 :: 45 :: 48 :: 49 :: 50 :: 51 :: 52 :: 53 :: 15 :: 54 :: 55 :: 56 :: 57 :: 58 :: 59 :: 60 :: 61 :: 62 :: 63 :: 64 :: 65 :: 66 :: 67 :: 68 :: 69 :: 70 :: 71 :: 72 :: 73 :: 74 :: 75 :: 76 :: 16 :: 17 :: 77 :: 78 :: 79 :: 18 :: 106 :: 105 :: 108 :: 109 :: 110 :: 107 :: 111 :: 112 :: 113 :: 115 :: 116 :: 117 :: 114 :: 118 :: 119 :: 120 :: 80 :: 81 :: 82 :: 83 :: 84 :: 85 :: 86 :: 87 :: 88 :: 89 :: 90 :: 91 :: 92 :: 93 :: 94 :: 95 :: 96 :: 97 :: 98 :: 99 :: 100 :: 101 :: 102 :: 103 :: 104 :: 121 :: 122 :: 123 :: 124 :: 10 :: 11 :: 12 :: 46 :: 47 :: 39 :: 40 :: 13 :: [])) (sO := upds s0 _) (by ((refine Same.upd rfl ?_; refine Same.upd rfl ?_; refine Same.upd rfl ?_; refine Same.upd rfl ?_; refine Same.upd rfl ?_; refine Same.upd rfl ?_; refine Same.upd rfl ?_; refine Same.upd rfl ?_; refine Same.upd rfl ?_; exact Same.ovN))) ⟨eP rfl, eP rfl, eP rfl, eS rfl, eI rfl, eI rfl, eI rfl, eI rfl, eI rfl, eI rfl, trivial⟩ fun s1 hs1 => ?_
    refine W.loop (42 :: 43 :: 44 :: 45 :: 48 :: 49 :: 50 :: 51 :: 52 :: 53 :: 15 :: 54 :: 55 :: 56 :: 57 :: 58 :: 59 :: 60 :: 61 :: 62 :: 63 :: 64 :: 65 :: 66 :: 67 :: 68 :: 69 :: 70 :: 71 :: 72 :: 73 :: 74 :: 75 :: 76 :: 16 :: 17 :: 77 :: 78 :: 79 :: 18 :: 106 :: 105 :: 108 :: 109 :: 110 :: 107 :: 111 :: 112 :: 113 :: 115 :: 116 :: 117 :: 114 :: 118 :: 119 :: 120 :: 80 :: 81 :: 82 :: 83 :: 84 :: 85 :: 86 :: 87 :: 88 :: 89 :: 90 :: 91 :: 92 :: 93 :: 94 :: 95 :: 96 :: 97 :: 98 :: 99 :: 100 :: 101 :: 102 :: 103 :: 104 :: 121 :: 122 :: 123 :: 124 :: 10 :: 11 :: 12 :: 46 :: 47 :: 14 :: []) (fun g s' V => ∃ m : Nat, s' 14 = .int .i64 ((i + m : Nat) : Int) ∧ s' 10 = .int .i64 (((stB ws side wd i q m).1 : Nat) : Int) ∧ s' 11 = .int .i64 (((stB ws side wd i q m).2 : Nat) : Int) ∧ s' 12 = .int .i64 (lenX ws (stB ws side wd i q m)) ∧ g = ws.length - (i + m) ∧ i + m ≤ ws.length) (ws.length - i) ⟨0, rfl, rfl, rfl, rfl, rfl, by omega⟩ ?_
    rintro _ sd2 wB hSB ⟨m, h14, h10, h11, h12, rfl, hm⟩
    have hin := stB_in (side := side) (W := wd) (m := m) hi' (show q ≤ i + 1 by omega) hm (.inl hqi)
    have hsucc := stB_succ ws side wd i q m
    have hend := stB_end ws side wd i q
    generalize hst : stB ws side wd i q m = st at h10 h11 h12 hin hsucc
    obtain ⟨hin1, hin2, hin3⟩ := hin
    have hbd := lenX_bound (ws := ws) (a := st.1) (b := st.2) hsz hn (by omega) hin3
    refine W.fix h14 (W.fix (d := 10) h10 (W.fix (d := 11) h11 (W.fix (d := 12) h12 ?_)))
    clear h14 h10 h11 h12
    by_cases hml : i + m < ws.length
    rotate_left
    · have hme : m = ws.length - i := by omega
      subst hme
      rw [hend] at hst
      subst hst
      (refine jjB ?_; refine jjB ?_; refine jjC ?_; apply jI; exact eI rfl; apply jI; exact eS rfl; refine jh rfl ?_; refine jja rfl rfl (by omega) ?_; refine jz ?_; refine jjK rfl ?_; refine jjE ?_; refine jjC ?_; apply jI; exact eI rfl; refine jY rfl rfl (by omega) ?_; apply jJ; exact eI rfl; refine jz ?_)
      exact ⟨rfl, by ((refine Same.upd rfl ?_; refine Same.upd rfl ?_; refine Same.upd rfl ?_; refine Same.upd rfl ?_; refine Same.upd rfl ?_; refine Same.upd rfl ?_; refine Same.upd rfl ?_; refine Same.upd rfl ?_; refine Same.upd rfl ?_; refine Same.upd rfl ?_; refine Same.upd rfl ?_; refine Same.ovN' rfl ?_; assumption)), i + 1 - (q + 1), by omega, inferInstance, q + 1, congrArg (Value.int .i64) (by omega), rfl, rfl, rfl, rfl, by omega⟩
    have hSeg := seg_len (ws := ws) (a := q) (b := i + m) (by omega)
    have hbn := lenX_bound (ws := ws) (a := q) (b := i + m) hsz hn (by omega) hml
    have hEB : Ext w8 wB := hS9.ext.trans (hSA.ext.trans hSB.ext)
    have hb4B : At wB b4 0 [.int .i64 wd, .int .u8 side] := hb49.ext (hSA.ext.trans hSB.ext)
    have hRB : RowV wB false 1 (.slice (some ⟨bw, ow, none⟩) ws.length wc) (ws.map strV) := by
      have := hOw.row.ext (hS8.ext.trans hEB)
      exact this
    (refine jjB ?_; refine jjB ?_; refine jjC ?_; apply jI; exact eI rfl; apply jI; exact eS rfl; refine jh rfl ?_; refine jjZ rfl rfl (by omega) ?_; refine jz ?_; refine jjJ rfl ?_; refine jjG ?_; refine jjB ?_; refine jjD ?_; refine jjB ?_; refine jjC ?_; apply jI; exact eS rfl; apply jI; exact eI rfl; apply jI; exact eI rfl; refine jY rfl rfl (by omega) ?_)
    refine Ops.sliceLHv (lo := q) (hi := i + m + 1) rfl rfl rfl rfl (by omega) (by omega) (by omega) ?_
    have hcut := hRB.cut (lo := q) (hi := i + m + 1) (by omega) (by rw [hlm]; omega)
    rw [← List.map_take, ← List.map_drop] at hcut
    refine jjQ ((Length_ref3 _ _ _ ((ws.take (i + m + 1)).drop q) _ (by rw [List.length_drop, List.length_take]; omega) hcut (fun s h => hsz s (List.mem_of_mem_take (List.mem_of_mem_drop h))) (by rw [List.length_drop, List.length_take]; omega)).mono fun v _ _ e => e.trans (by rw [hSeg])) rfl rfl ?_
    rintro _ w14 hS14 rfl
    have hb414 : At w14 b4 0 [.int .i64 wd, .int .u8 side] := hb4B.ext hS14.ext
    clear hSeg hcut hRB
    generalize hnl : lenX ws (q, i + m) = nl at *
    repeat' (first|refine jjm rfl (by omega) ?_|((first|apply jI|apply jJ|apply jK rfl|apply jL rfl); (first|exact eI rfl|exact eB rfl))|(refine jM ?_; refine jN rfl rfl rfl ?_)|(refine jS ?_; (first|refine jT rfl rfl rfl ?_|refine jU rfl rfl rfl rfl ?_|refine jV rfl rfl ?_))|(refine jW ?_; (first|refine jX rfl rfl ?_|refine jY rfl rfl (by omega) ?_|refine jZ rfl rfl (by omega) ?_|refine jb rfl rfl ?_|refine je rfl rfl ?_))|(refine jg ?_; refine jk rfl rfl ?_)|(refine jm ?_; refine jn rfl ?_)|refine jz ?_|(refine jjA ?_; (first|refine jjB ?_|refine jjC ?_|refine jjD ?_|refine jjE ?_|refine jjG ?_|refine jjJ rfl ?_|refine jjK rfl ?_))|(refine jS ?_; (refine jjL rfl rfl ?_ ?_ <;> intro _))|(refine jjA ?_; (refine jjN rfl ?_ ?_ <;> intro _)))
    all_goals first
      | (have e : stB ws side wd i q (m + 1) = (q, i + m) := by rw [hsucc, if_pos ⟨by omega, by rw [ordI_lt, sdI_lt]; simp only [unE, hnl]; omega⟩]
         exact ⟨rfl, by (repeat' (first|exact Same.ovN|refine Same.upd rfl ?_)), ws.length - (i + (m + 1)), by omega, inferInstance, m + 1, congrArg (Value.int .i64) (by omega), by rw [e]; exact rfl, by rw [e]; exact rfl, by rw [e, hnl]; exact rfl, rfl, by omega⟩)
      | (have e : stB ws side wd i q (m + 1) = st := by rw [hsucc, if_neg (fun h => by rw [ordI_lt, sdI_lt] at h; simp only [unE, hnl] at h; omega)]
         exact ⟨rfl, by (repeat' (first|exact Same.ovN|refine Same.upd rfl ?_)), ws.length - (i + (m + 1)), by omega, inferInstance, m + 1, congrArg (Value.int .i64) (by omega), by rw [e]; exact rfl, by rw [e]; exact rfl, by rw [e]; exact rfl, rfl, by omega⟩)
  have hqe : q = i + 1 := by omega
  subst hqe
  have hin := stB_in (side := side) (W := wd) (a := i + 1) (m := 0) hi' (Nat.le_refl _) (by omega) (.inr rfl)
  rw [stB_zero, stA_end] at hin
  rw [stA_end, slipX]
  generalize bestA ws side wd i = st at hin
  obtain ⟨hin1, hin2, hin3⟩ := hin
  have hEA : Ext w8 wA := hS9.ext.trans hSA.ext
  have hwA : Ext w wA := hE8.trans hEA
  have hRB : RowV w8 false 1 (.slice (some ⟨bw, ow, none⟩) ws.length wc) (ws.map strV) := hOw.row.ext hS8.ext
  have hb58 : At w8 b5 0 [.int .i64 (k : Int), .int .i64 m.1, .int .i64 m.2] := hb5.ext hS8.ext
  have hc1 := hRB.cut (lo := st.1) (hi := i) hin1 (by rw [hlm]; omega)
  have hc2 := hRB.cut (lo := i + 1) (hi := st.2 + 1) (by omega) (by rw [hlm]; omega)
  rw [← List.map_take, ← List.map_drop] at hc1 hc2
  have hd : ws.getD i ⟨#[]⟩ = ws[i] := by rw [List.getD_eq_getElem?_getD, List.getElem?_eq_getElem hi', Option.getD_some]
  rw [hd]
  (refine jjB ?_; refine jjB ?_; refine jjC ?_; apply jI; exact eI rfl; apply jI; exact eI rfl; refine jjc rfl rfl (by omega) ?_; refine jz ?_; refine jjK rfl ?_; refine jjE ?_; refine jjB ?_)
  have n5 : b5 ≠ b6 := by omega
  have n4 : bw ≠ b6 := by have : w_b6.heap.size ≤ bw := (hOw.block _ rfl).1; omega
  refine W.draw (fun w' => Only b6 w8 w') ?_
  intro wC hSC
  have hSC' : Ext w8 wC := hEA.trans hSC.ext
  (refine jjV [0, 1, 2, 3, 4, 5, 6, 7] ?_ ?_ ?_; (decide +kernel); (exact .ofExt hSC'); (((apply jjT; exact rfl; rintro w' hq; have := hq.at_ hb58 n5; have := hq.at_ hA9 n4; refine jO rfl rfl rfl rfl ?_; refine jz ?_; exact ⟨rfl, rfl⟩; apply jjT; exact rfl; rintro w' hq; have := hq.at_ hb58 n5; have := hq.at_ hA9 n4; apply jI; exact eS rfl; refine jz ?_; exact ⟨rfl, rfl⟩; apply jjT; exact rfl; rintro w' hq; have := hq.at_ hb58 n5; have := hq.at_ hA9 n4; apply jI; exact eI rfl; refine jz ?_; exact ⟨rfl, rfl⟩; apply jjT; exact rfl; rintro w' hq; have := hq.at_ hb58 n5; have := hq.at_ hA9 n4; refine jG rfl rfl rfl (by omega) ?_; refine jz ?_; exact ⟨rfl, rfl⟩; apply jjT; exact rfl; rintro w' hq; have := hq.at_ hb58 n5; have := hq.at_ hA9 n4; refine jQ rfl rfl ?_; refine jz ?_; exact ⟨rfl, rfl⟩; apply jjT; exact rfl; rintro w' hq; have := hq.at_ hb58 n5; have := hq.at_ hA9 n4; apply jI; exact eS rfl; refine jz ?_; exact ⟨rfl, rfl⟩; apply jjT; exact rfl; rintro w' hq; have := hq.at_ hb58 n5; have := hq.at_ hA9 n4; apply jI; exact eI rfl; refine jz ?_; exact ⟨rfl, rfl⟩; apply jjT; exact rfl; rintro w' hq; have := hq.at_ hb58 n5; have := hq.at_ hA9 n4; apply jI; exact eI rfl; refine jz ?_; exact ⟨rfl, rfl⟩; refine jjU ?_))))
  refine jjV [8] (by decide +kernel) (.ofExt hSC') (jjT (v := cutV (some ⟨bw, ow, none⟩) wc 1 st.1 i) rfl (fun w' q1 => ?_) (jjU ?_)); (refine Ops.sliceLHv (lo := st.1) (hi := i) rfl rfl rfl rfl rfl (by omega) (by omega) ?_; refine jz ?_; exact ⟨rfl, rfl⟩)
  (refine jjV [10, 11, 12, 13, 14] ?_ ?_ ?_; (decide +kernel); (exact .ofExt hSC'); (((apply jjT; exact rfl; rintro w' hq; have := hq.at_ hb58 n5; have := hq.at_ hA9 n4; apply jI; exact eS rfl; refine jz ?_; exact ⟨rfl, rfl⟩; apply jjT; exact rfl; rintro w' hq; have := hq.at_ hb58 n5; have := hq.at_ hA9 n4; apply jI; exact eI rfl; refine jz ?_; exact ⟨rfl, rfl⟩; apply jjT; exact rfl; rintro w' hq; have := hq.at_ hb58 n5; have := hq.at_ hA9 n4; refine jY rfl rfl (by omega) ?_; refine jz ?_; exact ⟨rfl, rfl⟩; apply jjT; exact rfl; rintro w' hq; have := hq.at_ hb58 n5; have := hq.at_ hA9 n4; apply jI; exact eI rfl; refine jz ?_; exact ⟨rfl, rfl⟩; apply jjT; exact rfl; rintro w' hq; have := hq.at_ hb58 n5; have := hq.at_ hA9 n4; refine jY rfl rfl (by omega) ?_; refine jz ?_; exact ⟨rfl, rfl⟩; refine jjU ?_))))
  refine jjV [15] (by decide +kernel) (.ofExt hSC') (jjT (v := cutV (some ⟨bw, ow, none⟩) wc 1 (i + 1) (st.2 + 1)) rfl (fun w' q1 => ?_) (jjU ?_)); (refine Ops.sliceLHv (lo := i + 1) (hi := st.2 + 1) rfl rfl rfl rfl rfl (by omega) (by omega) ?_; refine jz ?_; exact ⟨rfl, rfl⟩)
  (apply jjW 9; (decide +kernel); exact rfl; (exact .ofExt hSC'))
  refine jjQ (joined_ref3 _ _ _ ((ws.take i).drop st.1) _ (by rw [List.length_drop, List.length_take]; omega) (hc1.ext hSC') (fun s h => hsz s (List.mem_of_mem_take (List.mem_of_mem_drop h))) (by rw [List.length_drop, List.length_take]; omega)) rfl rfl ?_
  rintro _ wC2 hSC2 rfl
  refine jz ?_
  have hSC2' := hSC'.trans hSC2.ext
  (apply jjW 16; (decide +kernel); exact rfl; (exact .ofExt hSC2'))
  refine jjQ (joined_ref3 _ _ _ ((ws.take (st.2 + 1)).drop (i + 1)) _ (by rw [List.length_drop, List.length_take]; omega) (hc2.ext hSC2') (fun s h => hsz s (List.mem_of_mem_take (List.mem_of_mem_drop h))) (by rw [List.length_drop, List.length_take]; omega)) rfl rfl ?_
  rintro _ wD hSD' rfl
  refine jz ?_
  have hSD := hSC2'.trans hSD'.ext
  (apply jjW 17; (decide +kernel); exact rfl; (exact .ofExt hSD))
  (refine jjS (cells := [.int .i64 (k : Int), .int .i64 m.1, .int .i64 m.2, .string ws[i], .string (joinB ((ws.take i).drop st.1)), .string (joinB ((ws.take (st.2 + 1)).drop (i + 1)))]) ?_ ?_; exact rfl)
  refine jz ?_
  (apply jjW 18; (decide +kernel); exact rfl; (exact .ofExt hSD))
  have h6D : Bk wD b6 [.int .i64 0, .int .i64 0, .int .i64 0, .string ⟨#[]⟩, .string ⟨#[]⟩, .string ⟨#[]⟩] 53 := hb6.ext (hS8.ext.trans hSD)
  refine Ops.store rfl rfl rfl rfl rfl ?_
  intro wE hpE
  refine jz ?_
  refine jjX (by decide +kernel) ((Only.ofExt hSD).trans (.ofPut hpE)) ?_
  have h6E : At wE b6 0 [.int .i64 (k : Int), .int .i64 m.1, .int .i64 m.2, .string ws[i], .string (joinB ((ws.take i).drop st.1)), .string (joinB ((ws.take (st.2 + 1)).drop (i + 1)))] := Bk.toAt (h := ⟨hpE.new⟩)
  (refine jjF ?_)
  refine fin1C rfl rfl rfl rfl rfl ⟨hpE.ext (hE8.trans hSD) (by omega), rfl⟩
end
end Go.Proofs.YtgnjjocafmofaaaGreatDoor

/- The reference: All places. -/
namespace Go.Proofs.YtgnjjocafmofaaaGreatDoor
open Go.RowKit

theorem allP_small {cs : List Ch} (hs : SmallT cs) : ∀ {n : Nat}, n ≤ cs.length → (allP (txF cs) n).length ≤ n * 1000000
  | 0, _ => by simp [allP]
  | n + 1, hn => by
    rw [allP_succ, List.length_append, runA_len, wsT_get (by omega)]
    have h1 := allP_small hs (n := n) (by omega)
    have h2 : (chW cs[n]).flatten.length ≤ 1000000 := (rnW_small hs (k := n) (by omega)).1
    omega
section
variable (a : Option Addr) (c : Nat) (cs : List Ch) (w : World) [hrow : RowI w (.slice a cs.length c) true 2 (cs.map encCh)] [hT : TextI w cs]
set_option maxHeartbeats 4000000 in
theorem All_ref1 (hs : SmallT cs) : Ct Tryz.prog 110 [.agg #[.slice a cs.length c]] w fun v w' => OwnL w' w.heap.size 43 true 3 v ((allP (txF cs) (txF cs).length).map encPl) := by
  have hs1 := hs.1
  rw [txF_len]
  refine Ct.ofW (by simp) ?_
  (refine jjB ?_; refine jjC ?_)
  (refine jy rfl ?_; intro b1 w_b1 hb_b1 hs_b1 hS_b1 hk_b1; have hA_b1 := At.ofBlock hk_b1)
  (apply jJ; exact eS rfl; refine jz ?_; refine jjB ?_; refine jjC ?_; apply jJ; exact eS rfl; refine jz ?_; refine jjB ?_; refine jjB ?_; refine jjC ?_; apply jJ; exact eI rfl; refine jz ?_; refine jjD ?_)
  have hE1 : Ext w w_b1 := inferInstance
  refine W.keep0 [(1, .pointer (some ⟨b1, 0, none⟩)), (3, .slice none 0 0), (4, .int .i64 ((0 : Nat) : Int))] ⟨eP rfl, eS rfl, eI rfl, trivial⟩ fun s0 => ?_
  refine W.loopG (7 :: 8 :: 9 :: 10 :: 11 :: 5 :: 14 :: 15 :: 16 :: 17 :: 18 :: 19 :: 20 :: 21 :: 22 :: 6 :: 25 :: 26 :: 27 :: 28 :: 29 :: 30 :: 31 :: 32 :: 33 :: 34 :: 35 :: 36 :: 39 :: 40 :: 41 :: 42 :: 43 :: 44 :: 45 :: 3 :: 37 :: 38 :: 23 :: 24 :: 12 :: 13 :: 4 :: []) (fun g s' V => ∃ (k : Nat) (av : Value), s' 4 = .int .i64 ((k : Nat) : Int) ∧ s' 3 = av ∧ g = cs.length - k ∧ k ≤ cs.length ∧ Ext w V ∧ w_b1.heap.size ≤ V.heap.size ∧ At V b1 0 [.slice a cs.length c] ∧ OwnL V w_b1.heap.size 43 true 3 av ((allP (txF cs) k).map encPl)) cs.length ⟨0, _, rfl, rfl, rfl, Nat.zero_le _, hE1, Nat.le_refl _, inferInstance, OwnL.nil _ _ _ _ _⟩ ?_
  rintro _ sd V ⟨k, av, h4, h3, rfl, hk, hE, hz, hb1, hOa⟩
  obtain ⟨aa, al, ac, rfl⟩ := hOa.slice3
  refine W.fix h4 (W.fix (d := 3) h3 ?_)
  clear h4 h3
  by_cases hkc : k < cs.length
  rotate_left
  · obtain rfl : k = cs.length := by omega
    (refine jjB ?_; refine jjB ?_; refine jjC ?_; apply jI; exact eI rfl; refine jm ?_; refine jn rfl ?_; refine jN rfl rfl rfl ?_; refine jh rfl ?_; refine jja rfl rfl (by omega) ?_; refine jz ?_; refine jjK rfl ?_; refine jjE ?_; refine jjB ?_; refine jjC ?_; apply jI; exact eS rfl; apply jJ; exact eS rfl; refine jz ?_; refine jjF ?_; refine jB rfl rfl ⟨inferInstance, ?_⟩)
    exact hOa.mono hE1.size
  have hgk := List.getElem?_eq_getElem hkc
  have hsk := hs.2 _ (List.getElem_mem hkc)
  have hsm := chW_small fun y hy => (hsk.2 y hy).1
  have hcl : (chW cs[k]).length = cs[k].2.2.2.length := by simp [chW]
  have hapl := allP_small hs (n := k) (by omega)
  have hap1 : k * 1000000 ≤ 1000 * 1000000 := Nat.mul_le_mul_right _ (by omega)
  have hnext : allP (txF cs) (k + 1) = allP (txF cs) k ++ runAn k (chW cs[k]) (chW cs[k]).length := by rw [allP_succ, wsT_get hkc, runA]
  (refine jjB ?_; refine jjB ?_; refine jjC ?_; apply jI; exact eI rfl; refine jm ?_; refine jn rfl ?_; refine jN rfl rfl rfl ?_; refine jh rfl ?_; refine jjZ rfl rfl (by omega) ?_; refine jz ?_; refine jjJ rfl ?_; refine jjG ?_; refine jjB ?_; refine jjD ?_; refine jjB ?_; refine jjC ?_; apply jJ; exact eI rfl; refine jz ?_; refine jjD ?_)
  refine W.keep [(1, .pointer (some ⟨b1, 0, none⟩)), (3, .slice aa al ac), (4, .int .i64 ((k : Nat) : Int)), (5, .int .i64 ((0 : Nat) : Int))] (D := (7 :: 8 :: 9 :: 10 :: 11 :: 5 :: 14 :: 15 :: 16 :: 17 :: 18 :: 19 :: 20 :: 21 :: 22 :: 6 :: 25 :: 26 :: 27 :: 28 :: 29 :: 30 :: 31 :: 32 :: 33 :: 34 :: 35 :: 36 :: 39 :: 40 :: 41 :: 42 :: 43 :: 44 :: 45 :: 3 :: 37 :: 38 :: 23 :: 24 :: 12 :: 13 :: 4 :: [])) (sO := upds s0 _) (by ((refine Same.upd rfl ?_; refine Same.upd rfl ?_; refine Same.upd rfl ?_; refine Same.upd rfl ?_; refine Same.upd rfl ?_; refine Same.upd rfl ?_; refine Same.upd rfl ?_; refine Same.upd rfl ?_; exact Same.ovN))) ⟨eP rfl, eS rfl, eI rfl, eI rfl, trivial⟩ fun s1 hs1' => ?_
  refine W.loopG (14 :: 15 :: 16 :: 17 :: 18 :: 19 :: 20 :: 21 :: 22 :: 6 :: 25 :: 26 :: 27 :: 28 :: 29 :: 30 :: 31 :: 32 :: 33 :: 34 :: 35 :: 36 :: 39 :: 40 :: 41 :: 42 :: 43 :: 44 :: 45 :: 3 :: 37 :: 38 :: 23 :: 24 :: 5 :: []) (fun g s' V => ∃ (n : Nat) (av : Value), s' 5 = .int .i64 ((n : Nat) : Int) ∧ s' 3 = av ∧ g = cs[k].2.2.2.length - n ∧ n ≤ cs[k].2.2.2.length ∧ Ext w V ∧ w_b1.heap.size ≤ V.heap.size ∧ At V b1 0 [.slice a cs.length c] ∧ OwnL V w_b1.heap.size 43 true 3 av ((allP (txF cs) k ++ runAn k (chW cs[k]) n).map encPl)) cs[k].2.2.2.length ⟨0, _, rfl, rfl, rfl, Nat.zero_le _, hE, hz, hb1, by rw [runAn_zero, List.append_nil]; exact hOa⟩ ?_
  rintro _ sd1 V1 ⟨n, av, h5, h3, rfl, hn, hE, hz, hb1, hOa⟩
  obtain ⟨aa, al, ac, rfl⟩ := hOa.slice3
  refine W.fix h5 (W.fix (d := 3) h3 ?_)
  clear h5 h3
  have i0 : RowI V1 (.slice a cs.length c) true 2 (cs.map encCh) := ⟨hrow.h.ext hE⟩
  have hTV : TextI V1 cs := hT.ext hE
  have i2 := hTV.line hkc
  by_cases hnl : n < cs[k].2.2.2.length
  rotate_left
  · have hne : n = (chW cs[k]).length := by omega
    rw [hne, ← hnext] at hOa
    (refine jjB ?_; refine jjB ?_; refine jjC ?_; apply jI; exact eI rfl; refine jm ?_; refine jn rfl ?_; refine jN rfl rfl rfl ?_; apply jI; exact eI rfl; refine jF rfl rfl rfl (map_get (by omega)) ?_; intro _ _ _; refine jm ?_; refine jn rfl ?_; refine jP rfl rfl rfl ?_; refine jh rfl ?_; refine jja rfl rfl (by omega) ?_; refine jz ?_; refine jjK rfl ?_; refine jjE ?_; refine jjC ?_; apply jI; exact eI rfl; refine jY rfl rfl (by omega) ?_; apply jJ; exact eI rfl; refine jz ?_)
    exact ⟨rfl, by ((refine Same.upd rfl ?_; refine Same.upd rfl ?_; refine Same.upd rfl ?_; refine Same.upd rfl ?_; refine Same.upd rfl ?_; refine Same.upd rfl ?_; refine Same.upd rfl ?_; refine Same.upd rfl ?_; refine Same.upd rfl ?_; refine Same.upd rfl ?_; refine Same.upd rfl ?_; refine Same.upd rfl ?_; refine Same.upd rfl ?_; refine Same.upd rfl ?_; refine Same.ovN' rfl ?_; assumption)), cs.length - (k + 1), by omega, k + 1, _, congrArg (Value.int .i64) (by omega), rfl, rfl, by omega, hE, hz, hb1, hOa⟩
  have hgn := chW_get hnl
  have hsn := hsk.2 _ (List.getElem_mem hnl)
  (refine jjB ?_; refine jjB ?_; refine jjC ?_; apply jI; exact eI rfl; refine jm ?_; refine jn rfl ?_; refine jN rfl rfl rfl ?_; apply jI; exact eI rfl; refine jF rfl rfl rfl (map_get (by omega)) ?_; intro _ _ _; refine jm ?_; refine jn rfl ?_; refine jP rfl rfl rfl ?_; refine jh rfl ?_; refine jjZ rfl rfl (by omega) ?_; refine jz ?_; refine jjJ rfl ?_; refine jjG ?_; refine jjB ?_; refine jjD ?_; refine jjB ?_; refine jjC ?_; apply jJ; exact eI rfl; refine jz ?_; refine jjD ?_)
  refine W.keep [(1, .pointer (some ⟨b1, 0, none⟩)), (3, .slice aa al ac), (4, .int .i64 ((k : Nat) : Int)), (5, .int .i64 ((n : Nat) : Int)), (6, .int .i64 ((0 : Nat) : Int))] (D := (14 :: 15 :: 16 :: 17 :: 18 :: 19 :: 20 :: 21 :: 22 :: 6 :: 25 :: 26 :: 27 :: 28 :: 29 :: 30 :: 31 :: 32 :: 33 :: 34 :: 35 :: 36 :: 39 :: 40 :: 41 :: 42 :: 43 :: 44 :: 45 :: 3 :: 37 :: 38 :: 23 :: 24 :: 5 :: [])) (sO := upds s1 _) (by ((refine Same.upd rfl ?_; refine Same.upd rfl ?_; refine Same.upd rfl ?_; refine Same.upd rfl ?_; refine Same.upd rfl ?_; refine Same.upd rfl ?_; refine Same.upd rfl ?_; refine Same.upd rfl ?_; refine Same.upd rfl ?_; refine Same.upd rfl ?_; refine Same.upd rfl ?_; refine Same.upd rfl ?_; exact Same.ovN))) ⟨eP rfl, eS rfl, eI rfl, eI rfl, eI rfl, trivial⟩ fun s2 hs2' => ?_
  refine W.loopG (25 :: 26 :: 27 :: 28 :: 29 :: 30 :: 31 :: 32 :: 33 :: 34 :: 35 :: 36 :: 39 :: 40 :: 41 :: 42 :: 43 :: 44 :: 45 :: 3 :: 37 :: 38 :: 6 :: []) (fun g s' V => ∃ (q : Nat) (av : Value), s' 6 = .int .i64 ((q : Nat) : Int) ∧ s' 3 = av ∧ g = cs[k].2.2.2[n].2.2.length - q ∧ q ≤ cs[k].2.2.2[n].2.2.length ∧ Ext w V ∧ w_b1.heap.size ≤ V.heap.size ∧ At V b1 0 [.slice a cs.length c] ∧ OwnL V w_b1.heap.size 43 true 3 av ((allP (txF cs) k ++ (runAn k (chW cs[k]) n ++ lnP k n q)).map encPl)) cs[k].2.2.2[n].2.2.length ⟨0, _, rfl, rfl, rfl, Nat.zero_le _, hE, hz, hb1, by rw [show lnP k n 0 = [] from rfl, List.append_nil]; exact hOa⟩ ?_
  rintro _ sd2 V2 ⟨q, av, h6, h3, rfl, hq, hE, hz, hb1, hOa⟩
  obtain ⟨aa, al, ac, rfl⟩ := hOa.slice3
  refine W.fix h6 (W.fix (d := 3) h3 ?_)
  clear h6 h3
  have i0 : RowI V2 (.slice a cs.length c) true 2 (cs.map encCh) := ⟨hrow.h.ext hE⟩
  have hTV2 : TextI V2 cs := hT.ext hE
  have i3 := hTV2.line hkc
  have i4 := hTV2.word hkc hnl
  by_cases hql : q < cs[k].2.2.2[n].2.2.length
  rotate_left
  · obtain rfl : q = cs[k].2.2.2[n].2.2.length := by omega
    rw [← runAn_succ k hgn] at hOa
    (refine jjB ?_; refine jjB ?_; refine jjC ?_; apply jI; exact eI rfl; refine jm ?_; refine jn rfl ?_; refine jN rfl rfl rfl ?_; apply jI; exact eI rfl; refine jF rfl rfl rfl (map_get (by omega)) ?_; intro _ _ _; refine jm ?_; refine jn rfl ?_; refine jP rfl rfl rfl ?_; apply jI; exact eI rfl; refine jF rfl rfl rfl (map_get (by omega)) ?_; intro _ _ _; refine jQ rfl rfl ?_; refine jh rfl ?_; refine jja rfl rfl (by omega) ?_; refine jz ?_; refine jjK rfl ?_; refine jjE ?_; refine jjC ?_; apply jI; exact eI rfl; refine jY rfl rfl (by omega) ?_; apply jJ; exact eI rfl; refine jz ?_)
    exact ⟨rfl, by ((refine Same.upd rfl ?_; refine Same.upd rfl ?_; refine Same.upd rfl ?_; refine Same.upd rfl ?_; refine Same.upd rfl ?_; refine Same.upd rfl ?_; refine Same.upd rfl ?_; refine Same.upd rfl ?_; refine Same.upd rfl ?_; refine Same.upd rfl ?_; refine Same.upd rfl ?_; refine Same.upd rfl ?_; refine Same.upd rfl ?_; refine Same.upd rfl ?_; refine Same.upd rfl ?_; refine Same.upd rfl ?_; refine Same.upd rfl ?_; refine Same.ovN' rfl ?_; assumption)), cs[k].2.2.2.length - (n + 1), by omega, n + 1, _, congrArg (Value.int .i64) (by omega), rfl, rfl, by omega, hE, hz, hb1, hOa⟩
  have hl2 : (allP (txF cs) k ++ (runAn k (chW cs[k]) n ++ lnP k n q)).length ≤ 1002000000 := by
    have := flat_take hsm (n := n) (by omega)
    rw [List.length_append, List.length_append, lnP_len, runAn_len k (by omega)]; omega
  (refine jjB ?_; refine jjB ?_; refine jjC ?_; apply jI; exact eI rfl; refine jm ?_; refine jn rfl ?_; refine jN rfl rfl rfl ?_; apply jI; exact eI rfl; refine jF rfl rfl rfl (map_get (by omega)) ?_; intro _ _ _; refine jm ?_; refine jn rfl ?_; refine jP rfl rfl rfl ?_; apply jI; exact eI rfl; refine jF rfl rfl rfl (map_get (by omega)) ?_; intro _ _ _; refine jQ rfl rfl ?_; refine jh rfl ?_; refine jjZ rfl rfl (by omega) ?_; refine jz ?_; refine jjJ rfl ?_; refine jjG ?_; refine jjB ?_; refine jjD ?_; refine jjC ?_; apply jI; exact eS rfl; apply jI; exact eI rfl; apply jI; exact eI rfl; apply jI; exact eI rfl)
  (refine jjS (cells := [.int .i64 (k : Int), .int .i64 (n : Int), .int .i64 (q : Int)]) ?_ ?_; exact rfl)
  (refine jjP (v := .agg _) rfl (by exact rfl) (by exact rfl) (by exact rfl) (by exact rfl) ?_; intro b47 w_b47 hb_b47 hs_b47 hS_b47 hk_b47; have hR_b47 := RowV.one (agg := true) (k := 3) rfl hk_b47)
  have z47 := hS_b47.size
  refine Ops.appendL (hOa.ext hS_b47.ext) (by omega) hR_b47 rfl rfl rfl rfl (one_pl ((k : Int), (n : Int), (q : Int))) ?_ ?_ ?_
  · rw [List.length_map]; simp only [List.length_cons, List.length_nil]; omega
  · rw [List.length_map]; simp only [List.length_cons, List.length_nil]; omega
  intro av2 w48 hA48 hO48 _ hown48
  have z48 := hA48.g.size
  have hE48 : Ext w w48 := hA48.ext (hE.trans hS_b47.ext) (by omega)
  have e48 : (allP (txF cs) k ++ (runAn k (chW cs[k]) n ++ lnP k n q)).map encPl ++ [encPl ((k : Int), (n : Int), (q : Int))] = (allP (txF cs) k ++ (runAn k (chW cs[k]) n ++ lnP k n (q + 1))).map encPl := by rw [lnP_succ]; simp
  rw [e48] at hO48
  have hb148 := hA48.at_ (hb1.ext hS_b47.ext) (fun e => by have := (hOa.block _ e).1; omega)
  obtain ⟨aa2, al2, ac2, rfl⟩ := hO48.slice3
  (apply jJ; exact eS rfl; refine jz ?_; refine jjC ?_; apply jI; exact eI rfl; refine jY rfl rfl (by omega) ?_; apply jJ; exact eI rfl; refine jz ?_)
  exact ⟨rfl, by ((refine Same.upd rfl ?_; refine Same.upd rfl ?_; refine Same.upd rfl ?_; refine Same.upd rfl ?_; refine Same.upd rfl ?_; refine Same.upd rfl ?_; refine Same.upd rfl ?_; refine Same.upd rfl ?_; refine Same.upd rfl ?_; refine Same.upd rfl ?_; refine Same.upd rfl ?_; refine Same.upd rfl ?_; refine Same.upd rfl ?_; refine Same.upd rfl ?_; refine Same.upd rfl ?_; refine Same.upd rfl ?_; refine Same.upd rfl ?_; refine Same.upd rfl ?_; refine Same.upd rfl ?_; refine Same.upd rfl ?_; refine Same.upd rfl ?_; refine Same.upd rfl ?_; refine Same.upd rfl ?_; refine Same.upd rfl ?_; refine Same.upd rfl ?_; exact Same.ovN)), cs[k].2.2.2[n].2.2.length - (q + 1), by omega, q + 1, _, congrArg (Value.int .i64) (by omega), rfl, rfl, by omega, hE48, by omega, hb148, hO48⟩
end
end Go.Proofs.YtgnjjocafmofaaaGreatDoor

/- The reference: Make, All, Part. -/
namespace Go.Proofs.YtgnjjocafmofaaaGreatDoor
open Go.RowKit

theorem makeF_mem {t : Tx} {side wd : Int} {p : Pl} {n : Nat} (h : p ∈ allP t n) (hn : n ≤ t.length) : makeF t side wd p = some (slP t side wd p) := by
  obtain ⟨k, hk, hm⟩ := mem_allP.1 h
  obtain ⟨i, hi, e⟩ := List.mem_iff_getElem.1 hm
  have hg : (runA k (wsT t k))[i]? = some p := by rw [List.getElem?_eq_getElem hi, e]
  rw [makeF_yes (by omega) hg, slP_eq (by omega) hg]
section
variable (a : Option Addr) (c : Nat) (cs : List Ch) (wd side : Int) (w : World) [hrow : RowI w (.slice a cs.length c) true 2 (cs.map encCh)] [hT : TextI w cs]
theorem slipM_ref3 (hs : SmallT cs) (p : Pl) (s : Slp) (h : makeF (txF cs) side wd p = some s) : Ct Tryz.prog 111 [.agg #[.slice a cs.length c], encCut wd side, encPl p] w fun v _ => v = encSl s := by
  obtain ⟨k, i, hk, hi, rfl⟩ := makeF_some h
  rw [txF_len] at hk
  rw [wsT_get hk] at hi ⊢
  obtain ⟨p1, m⟩ := p
  obtain rfl : p1 = (k : Int) := runA_fst (List.mem_of_getElem? hi)
  exact slip_ref3 a c cs w hs wd side k i m hk hi
set_option maxHeartbeats 4000000 in
theorem All_ref3 (hs : SmallT cs) (hd : 0 ≤ side ∧ side ≤ 255) : Ct Tryz.prog 64 [.agg #[.slice a cs.length c], encCut wd side] w fun v w' => ∃ sv, v = .tuple #[sv, .int .i64 (askE (txF cs) wd side)] ∧ OwnL w' w.heap.size 53 true 6 sv ((allR (txF cs) wd side).map encSl) := by
  refine Ct.ofW (by simp) ?_
  (refine jjB ?_; refine jjC ?_)
  (refine jy rfl ?_; intro b2 w_b2 hb_b2 hs_b2 hS_b2 hk_b2; have hA_b2 := At.ofBlock hk_b2)
  skip
  (refine jy rfl ?_; intro b3 w_b3 hb_b3 hs_b3 hS_b3 hk_b3; have hA_b3 := At.ofBlock hk_b3)
  (apply jJ; exact eS rfl; apply jJ; exact eI rfl; refine jz ?_; refine jjB ?_; refine jjB ?_; refine jjC ?_; refine jO rfl rfl rfl rfl ?_; refine jO rfl rfl rfl rfl ?_)
  obtain ⟨e, he⟩ : ∃ e, askE (txF cs) wd side = e := ⟨_, rfl⟩
  have h3 := askE_in (txF cs) wd side
  rw [he] at h3
  refine jjQ ((asked_ref3 a c cs wd side _ hs hd).mono fun v _ _ h => h.trans (by rw [he])) rfl rfl ?_
  rintro _ w8 hS8 rfl
  by_cases h0 : e = 0
  rotate_left
  · (apply jJ; exact eI rfl; refine jz ?_; refine jjB ?_; refine jjC ?_; apply jI; exact eI rfl; refine jjj rfl rfl (by omega) ?_; refine jz ?_; refine jjJ rfl ?_; refine jjB ?_; refine jjC ?_; apply jI; exact eI rfl; apply jJ; exact eS rfl; apply jJ; exact eI rfl; refine jz ?_; refine jjF ?_; refine jC rfl rfl rfl ⟨inferInstance, ?_⟩)
    rw [he, allR, if_neg (by rw [he]; exact h0)]
    exact ⟨_, rfl, OwnL.nil _ _ _ _ _⟩
  subst h0
  obtain ⟨ht, hc⟩ := askE_zero he
  rw [he, allR, if_pos he, allS]
  have hal := allS_len (side := side) (wd := wd) ht
  rw [allS, List.length_map] at hal
  (apply jJ; exact eI rfl; refine jz ?_; refine jjB ?_; refine jjC ?_; apply jI; exact eI rfl; refine jjk rfl rfl (by omega) ?_; refine jz ?_; refine jjK rfl ?_; refine jjG ?_; refine jjB ?_; refine jjC ?_; apply jJ; exact eS rfl; refine jz ?_; refine jjB ?_; refine jjC ?_; refine jO rfl rfl rfl rfl ?_)
  refine jjQ (All_ref1 a c cs _ hs) rfl rfl ?_
  rintro av w9 hS9 hOa
  have hmf : ∀ i (hi : i < (allP (txF cs) (txF cs).length).length), makeF (txF cs) side wd (allP (txF cs) (txF cs).length)[i] = some (slP (txF cs) side wd (allP (txF cs) (txF cs).length)[i]) := fun i hi => makeF_mem (List.getElem_mem hi) (Nat.le_refl _)
  generalize allP (txF cs) (txF cs).length = ps at *
  obtain ⟨aa, ac, rfl⟩ := hOa.slice
  rw [List.length_map] at hOa ⊢
  have hE9 : Ext w w9 := inferInstance
  (apply jJ; exact eS rfl; refine jz ?_; refine jjB ?_; refine jjB ?_; refine jjC ?_; apply jJ; exact eI rfl; refine jz ?_; refine jjD ?_)
  refine W.keep0 [(2, .pointer (some ⟨b2, 0, none⟩)), (3, .pointer (some ⟨b3, 0, none⟩)), (7, .slice none 0 0), (8, .slice aa ps.length ac), (9, .int .i64 ((0 : Nat) : Int))] ⟨eP rfl, eP rfl, eS rfl, eS rfl, eI rfl, trivial⟩ fun s0 => ?_
  refine W.loopG (18 :: 19 :: 20 :: 21 :: 24 :: 25 :: 26 :: 27 :: 28 :: 29 :: 30 :: 31 :: 32 :: 33 :: 7 :: 22 :: 23 :: 9 :: []) (fun g s' V => ∃ (i : Nat) (sv : Value), s' 9 = .int .i64 ((i : Nat) : Int) ∧ s' 7 = sv ∧ g = ps.length - i ∧ i ≤ ps.length ∧ Ext w V ∧ w9.heap.size ≤ V.heap.size ∧ At V b2 0 [.slice a cs.length c] ∧ At V b3 0 [.int .i64 wd, .int .u8 side] ∧ OwnL V w8.heap.size 43 true 3 (.slice aa ps.length ac) (ps.map encPl) ∧ OwnL V w9.heap.size 53 true 6 sv (((ps.take i).map (slP (txF cs) side wd)).map encSl)) ps.length ⟨0, _, rfl, rfl, rfl, Nat.zero_le _, hE9, Nat.le_refl _, inferInstance, inferInstance, hOa, OwnL.nil _ _ _ _ _⟩ ?_
  rintro _ sd V ⟨i, sv, h9, h7, rfl, hi, hE, hz, hb2, hb3, hOaV, hO⟩
  obtain ⟨va, vl, vc, rfl⟩ := hO.slice3
  refine W.fix h9 (W.fix (d := 7) h7 ?_)
  clear h9 h7
  by_cases hil : i < ps.length
  rotate_left
  · obtain rfl : i = ps.length := by omega
    rw [List.take_length] at hO
    (refine jjB ?_; refine jjB ?_; refine jjC ?_; apply jI; exact eI rfl; apply jI; exact eS rfl; refine jh rfl ?_; refine jja rfl rfl (by omega) ?_; refine jz ?_; refine jjK rfl ?_; refine jjE ?_; refine jjB ?_; refine jjC ?_; apply jI; exact eS rfl; apply jJ; exact eS rfl; apply jJ; exact eI rfl; refine jz ?_; refine jjF ?_; refine jC rfl rfl rfl ⟨inferInstance, ?_⟩)
    exact ⟨_, rfl, hO.mono hE9.size⟩
  have hb2l := hb2.lt
  obtain ⟨ba, oa, rfl, hAp⟩ := hOaV.row.place' (by rw [List.getElem?_map, List.getElem?_eq_getElem hil]; rfl)
  have i0 : RowI V (.slice a cs.length c) true 2 (cs.map encCh) := ⟨hrow.h.ext hE⟩
  have hTV : TextI V cs := hT.ext hE
  (refine jjB ?_; refine jjB ?_; refine jjC ?_; apply jI; exact eI rfl; apply jI; exact eS rfl; refine jh rfl ?_; refine jjZ rfl rfl (by omega) ?_; refine jz ?_; refine jjJ rfl ?_; refine jjG ?_; refine jjB ?_; refine jjD ?_)
  have z8 := hS8.size
  have z9 := hS9.size
  have hba : ba < w9.heap.size := (hOa.block ba rfl).2
  refine W.draw (fun w' => Ext w w' ∧ At w' b2 0 [.slice a cs.length c] ∧ At w' b3 0 [.int .i64 wd, .int .u8 side] ∧ At w' ba (oa + i * 3) (encPl ps[i]).cells.toList) ?_
  intro w1 hS1
  have s1 := And.intro (hE.trans hS1.ext) (And.intro (hb2.ext hS1.ext) (And.intro (hb3.ext hS1.ext) (hAp.ext hS1.ext)))
  (refine jjV [0, 1, 2, 3, 4, 5, 6] ?_ ?_ ?_; (decide +kernel); (exact s1); (((apply jjT; exact rfl; rintro w' ⟨q0, q1, q2, q3⟩; apply jI; exact eS rfl; refine jz ?_; exact ⟨rfl, rfl⟩; apply jjT; exact rfl; rintro w' ⟨q0, q1, q2, q3⟩; refine jO rfl rfl rfl rfl ?_; refine jz ?_; exact ⟨rfl, rfl⟩; apply jjT; exact rfl; rintro w' ⟨q0, q1, q2, q3⟩; refine jO rfl rfl rfl rfl ?_; refine jz ?_; exact ⟨rfl, rfl⟩; apply jjT; exact rfl; rintro w' ⟨q0, q1, q2, q3⟩; apply jI; exact eS rfl; refine jz ?_; exact ⟨rfl, rfl⟩; apply jjT; exact rfl; rintro w' ⟨q0, q1, q2, q3⟩; apply jI; exact eI rfl; refine jz ?_; exact ⟨rfl, rfl⟩; apply jjT; exact rfl; rintro w' ⟨q0, q1, q2, q3⟩; refine jH _ rfl rfl rfl (by omega) ?_; refine jz ?_; exact ⟨rfl, rfl⟩; apply jjT; exact rfl; rintro w' ⟨q0, q1, q2, q3⟩; refine jQ rfl rfl ?_; refine jz ?_; exact ⟨rfl, rfl⟩; refine jjU ?_))))
  (apply jjW 7; (decide +kernel); exact rfl; (exact s1))
  have j0 : RowI w1 (.slice a cs.length c) true 2 (cs.map encCh) := ⟨hrow.h.ext (hE.trans hS1.ext)⟩
  have j1 : TextI w1 cs := hTV.ext hS1.ext
  refine jjQ (slipM_ref3 a c cs wd side _ hs ps[i] _ (hmf i hil)) rfl rfl ?_
  rintro _ w2 hS2 rfl
  have e2 := hS1.ext.trans hS2.ext
  have s2 := And.intro (hE.trans e2) (And.intro (hb2.ext e2) (And.intro (hb3.ext e2) (hAp.ext e2)))
  refine jz ?_
  (apply jjW 8; (decide +kernel); exact rfl; (exact s2))
  (refine jjP (v := .agg _) rfl (by exact rfl) (by exact rfl) (by exact rfl) (by exact rfl) ?_; intro b10 w_b10 hb_b10 hs_b10 hS_b10 hk_b10; have hR_b10 := RowV.one (agg := true) (k := 6) rfl hk_b10)
  refine jz ?_
  have e10 := e2.trans hS_b10.ext
  have z10 := e10.size
  have s10 := And.intro (hE.trans e10) (And.intro (hb2.ext e10) (And.intro (hb3.ext e10) (hAp.ext e10)))
  have hR1 : RowV w_b10 true 6 (.slice (some ⟨b10, 0, none⟩) 1 1) [encSl (slP (txF cs) side wd ps[i])] := hR_b10
  (apply jjW 9; (decide +kernel); exact rfl; (exact s10))
  refine Ops.appendL (hO.ext e10) (by omega) hR1 rfl rfl rfl rfl (one_sl _) ?_ ?_ ?_
  · rw [List.length_map, List.length_map, List.length_take]; simp only [List.length_cons, List.length_nil]; omega
  · rw [List.length_map, List.length_map, List.length_take]; simp only [List.length_cons, List.length_nil]; omega
  intro sv2 w3 hA hO3 _ hown
  refine jz ?_
  have hE3 : Ext w w3 := hA.ext (hE.trans e10) hE9.size
  have hnb : ∀ b, b < w9.heap.size → (Value.slice va vl vc).ownBlock ≠ some b := fun b h e => by have := (hO.block _ e).1; omega
  have k2 := hA.at_ (hb2.ext e10) (hnb _ (by omega))
  have k3 := hA.at_ (hb3.ext e10) (hnb _ (by omega))
  have s3 := And.intro hE3 (And.intro k2 (And.intro k3 (hA.at_ (hAp.ext e10) (hnb _ hba))))
  obtain ⟨va3, vl3, vc3, rfl⟩ := hO3.slice3
  (apply jjW 10; (decide +kernel); exact rfl; (exact s3))
  (apply jJ; exact eS rfl; refine jz ?_)
  refine jjX (by decide +kernel) s3 ?_
  have zA := hA.g.size
  have hnx : (ps.take i).map (slP (txF cs) side wd) ++ [slP (txF cs) side wd ps[i]] = (ps.take (i + 1)).map (slP (txF cs) side wd) := by rw [take_snoc_get (List.getElem?_eq_getElem hil), List.map_append]; rfl
  rw [← List.map_singleton, ← List.map_append, hnx] at hO3
  have hOa3 := (hOaV.ext e10).app hA (OwnL.ne (hOaV.ext e10) (hO.ext e10) (by decide))
  (refine jjC ?_; apply jI; exact eI rfl; refine jY rfl rfl (by omega) ?_; apply jJ; exact eI rfl; refine jz ?_)
  exact ⟨rfl, by ((refine Same.upd rfl ?_; refine Same.upd rfl ?_; refine Same.upd rfl ?_; refine Same.upd rfl ?_; refine Same.upd rfl ?_; refine Same.upd rfl ?_; refine Same.upd rfl ?_; refine Same.upd rfl ?_; refine Same.upd rfl ?_; refine Same.upd rfl ?_; refine Same.upd rfl ?_; refine Same.upd rfl ?_; refine Same.upd rfl ?_; refine Same.upd rfl ?_; refine Same.upd rfl ?_; refine Same.upd rfl ?_; refine Same.upd rfl ?_; refine Same.upd rfl ?_; refine Same.upd rfl ?_; refine Same.upd rfl ?_; exact Same.ovN)), ps.length - (i + 1), by omega, i + 1, _, congrArg (Value.int .i64) (by omega), rfl, rfl, by omega, hE3, by omega, k2, k3, hOa3, hO3⟩
end
end Go.Proofs.YtgnjjocafmofaaaGreatDoor

/- Plain law: the places of a text are in order; parts of it. -/
namespace Go.Proofs.YtgnjjocafmofaaaGreatDoor
open Go.RowKit

theorem lnP_sorted (k n q : Nat) : (lnP k n q).Pairwise fun a b => befP a b = true := by
  unfold lnP
  rw [List.pairwise_map]
  refine List.Pairwise.imp (R := (· < ·)) ?_ List.pairwise_lt_range
  intro a b h
  rw [befP_iff]; simp; omega
theorem runA_sorted (k : Nat) (x : List (List ByteArray)) : (runA k x).Pairwise fun a b => befP a b = true := by
  unfold runA runAn
  rw [List.pairwise_flatMap]
  refine ⟨fun i _ => lnP_sorted _ _ _, ?_⟩
  refine List.Pairwise.imp (R := (· < ·)) ?_ List.pairwise_lt_range
  intro a b h p hp q hq
  simp only [lnP, List.mem_map] at hp hq
  obtain ⟨_, _, rfl⟩ := hp
  obtain ⟨_, _, rfl⟩ := hq
  rw [befP_iff]; simp; omega
theorem allP_sorted (t : Tx) (n : Nat) : (allP t n).Pairwise fun a b => befP a b = true := by
  unfold allP
  rw [List.pairwise_flatMap]
  refine ⟨fun i _ => runA_sorted _ _, ?_⟩
  refine List.Pairwise.imp (R := (· < ·)) ?_ List.pairwise_lt_range
  intro a b h p hp q hq
  have h1 := runA_fst hp
  have h2 := runA_fst hq
  rw [befP_iff]; omega
theorem befP_asymm {a b : Pl} (h : befP a b = true) : befP b a = false := by
  cases h2 : befP b a with
  | false => rfl
  | true => have := befP_trans h h2; rw [befP_irr] at this; cases this
theorem sorted_get {l : List Pl} (h : l.Pairwise fun a b => befP a b = true) {i j : Nat} (hij : i < j) (hj : j < l.length) : befP (l[i]'(by omega)) l[j] = true := List.pairwise_iff_getElem.1 h i j _ hj hij
theorem sorted_lt {l : List Pl} (h : l.Pairwise fun a b => befP a b = true) {i j : Nat} (hi : i < l.length) (hj : j < l.length) : befP l[i] l[j] = decide (i < j) := by
  rcases Nat.lt_trichotomy i j with hl | he | hl
  · rw [sorted_get h hl hj, decide_eq_true hl]
  · subst he; rw [befP_irr]; simp
  · rw [befP_asymm (sorted_get h hl hi), decide_eq_false (by omega)]
theorem sorted_nodup {l : List Pl} (h : l.Pairwise fun a b => befP a b = true) : l.Nodup := by
  refine List.Pairwise.imp ?_ h
  intro a b hab e
  subst e; rw [befP_irr] at hab; cases hab
/-- Of a list in order those from one place on to another one. -/
theorem filter_seg {l : List Pl} (h : l.Pairwise fun a b => befP a b = true) {x y : Nat} (hx : x < l.length) (hy : y < l.length) (hxy : x ≤ y) : l.filter (inP l[x] l[y]) = (l.take (y + 1)).drop x := by
  have e : l = l.take x ++ ((l.take (y + 1)).drop x ++ l.drop (y + 1)) := by
    have h1 := List.take_append_drop x (l.take (y + 1))
    rw [List.take_take, Nat.min_eq_left (by omega)] at h1
    rw [← List.append_assoc, h1, List.take_append_drop]
  have f1 : (l.take x).filter (inP l[x] l[y]) = [] := by
    rw [List.filter_eq_nil_iff]
    intro z hz
    obtain ⟨j, hj, rfl⟩ := List.mem_iff_getElem.1 hz
    rw [List.length_take] at hj
    rw [List.getElem_take, inP, sorted_lt h (by omega) hx, decide_eq_true (by omega)]; simp
  have f2 : (l.drop (y + 1)).filter (inP l[x] l[y]) = [] := by
    rw [List.filter_eq_nil_iff]
    intro z hz
    obtain ⟨j, hj, rfl⟩ := List.mem_iff_getElem.1 hz
    rw [List.length_drop] at hj
    rw [List.getElem_drop, inP, sorted_lt h hy (by omega), decide_eq_true (by omega)]; simp
  have f3 : ((l.take (y + 1)).drop x).filter (inP l[x] l[y]) = (l.take (y + 1)).drop x := by
    rw [List.filter_eq_self]
    intro z hz
    obtain ⟨j, hj, rfl⟩ := List.mem_iff_getElem.1 hz
    rw [List.length_drop, List.length_take] at hj
    rw [List.getElem_drop, List.getElem_take, inP, sorted_lt h (by omega) hx, sorted_lt h hy (by omega), decide_eq_false (by omega), decide_eq_false (by omega)]; rfl
  conv => lhs; arg 2; rw [e]
  rw [List.filter_append, List.filter_append, f1, f2, f3, List.nil_append, List.append_nil]
/-- The slips of a part. -/
theorem part_seg {t : Tx} {wd side : Int} (ha : askE t wd side = 0) {x y : Nat} (hx : x < (allP t t.length).length) (hy : y < (allP t t.length).length) (hxy : x ≤ y) :
    partR t wd side (allP t t.length)[x] (allP t t.length)[y] = (((allS t side wd).take (y + 1)).drop x, 0) := by
  have m1 := makeF_mem (side := side) (wd := wd) (List.getElem_mem hx) (Nat.le_refl _)
  have m2 := makeF_mem (side := side) (wd := wd) (List.getElem_mem hy) (Nat.le_refl _)
  have hs := allP_sorted t t.length
  rw [partR, if_neg (by simp [ha]), if_neg (by rw [m1, m2]; simp), sorted_lt hs hy hx, decide_eq_false (by omega), if_neg (by simp), filter_seg hs hx hy hxy, allS, List.map_drop, List.map_take]
end Go.Proofs.YtgnjjocafmofaaaGreatDoor

/- Lists of slips: listed, Twice; of the code and of the reference. -/
namespace Go.Proofs.YtgnjjocafmofaaaGreatDoor
open Go.RowKit

def SmallSs (ls : List Slp) : Prop := ls.length ≤ 1000 ∧ ∀ x ∈ ls, SmallS x
/-- The error of a list of slips. -/
def listE (ls : List Slp) : Int := if 700 < ls.length then 4 else if ls.all slipB then 0 else 31
theorem listE_in (ls : List Slp) : 0 ≤ listE ls ∧ listE ls ≤ 31 := by
  unfold listE
  split
  · omega
  · split <;> omega
theorem listed1_slip (x : Slp) (w : World) [hmx : MxI w] (hx : SmallS x) : Ct Tryz.prog 123 [encSl x] w fun v _ => v = .bool (!slipB x) := by
  refine Ct.ofW (by simp) ?_
  (refine jjB ?_; refine jjC ?_)
  (refine jy rfl ?_; intro b1 w_b1 hb_b1 hs_b1 hS_b1 hk_b1; have hA_b1 := At.ofBlock hk_b1)
  (apply jJ; exact eB rfl; refine jz ?_; refine jjB ?_; refine jjC ?_; refine jO rfl rfl rfl rfl ?_)
  refine jjQ (right_slip _ x hx) rfl rfl ?_
  rintro _ w2 hS2 rfl
  (refine js rfl ?_; apply jJ; exact eB rfl; refine jz ?_; refine jjF ?_; refine jB rfl rfl ⟨inferInstance, ?_⟩)
  exact rfl
theorem listed_slip (a : Option Addr) (c : Nat) (ls : List Slp) (w : World) [hmx : MxI w] [hrow : RowI w (.slice a ls.length c) true 6 (ls.map encSl)] (hs : SmallSs ls) : Ct Tryz.prog 78 [.slice a ls.length c] w fun v _ => v = .int .i64 (listE ls) := by
  refine Ct.ofW (by simp) ?_
  by_cases h7 : 700 < ls.length
  · (refine jjB ?_; refine jjC ?_; apply jJ; exact eI rfl; refine jz ?_; refine jjB ?_; refine jjB ?_; refine jjC ?_; apply jI; exact eS rfl; refine jh rfl ?_; refine jjd rfl rfl (by omega) ?_; refine jz ?_; refine jjJ rfl ?_; refine jjB ?_; refine jjC ?_; apply jJ; exact eI rfl; refine jz ?_; refine jjF ?_; refine jB rfl rfl ⟨inferInstance, ?_⟩)
    rw [listE, if_pos h7]; exact rfl
  obtain ⟨B, hB⟩ : ∃ B, ls.all slipB = B := ⟨_, rfl⟩
  (refine jjB ?_; refine jjC ?_; apply jJ; exact eI rfl; refine jz ?_; refine jjB ?_; refine jjB ?_; refine jjC ?_; apply jI; exact eS rfl; refine jh rfl ?_; refine jje rfl rfl (by omega) ?_; refine jz ?_; refine jjK rfl ?_; refine jjG ?_; refine jjB ?_; refine jjB ?_; refine jjC ?_; apply jI; exact eS rfl)
  refine jjQ ((ContainsFunc_Slip _ _ (.func (.func 123) #[] #[]) encSl ls (fun s => !slipB s) (hrow.h) ⟨_, [], rfl, inferInstance, fun w' x hx hs' => listed1_slip x w' (hmx := hmx.ext hs') (hs.2 x hx)⟩).mono fun v _ _ e => e.trans (by rw [any_not, hB])) rfl rfl ?_
  rintro _ w2 hS2 rfl
  rw [listE, if_neg h7, hB]
  cases B
  · (refine jz ?_; refine jjJ rfl ?_; refine jjB ?_; refine jjC ?_; apply jJ; exact eI rfl; refine jz ?_; refine jjF ?_; refine jB rfl rfl ⟨inferInstance, ?_⟩)
    exact rfl
  · (refine jz ?_; refine jjK rfl ?_; refine jjG ?_; refine jjB ?_; refine jjC ?_; apply jJ; exact eI rfl; refine jz ?_; refine jjF ?_; refine jB rfl rfl ⟨inferInstance, ?_⟩)
    exact rfl
/-! ### Twice -/
def hasB (ls : List Slp) (i : Nat) : Bool := (ls.take i).any fun x => decide (x = ls.getD i noSl)
def idxI (p : Nat → Bool) (n : Nat) : List Int := ((List.range n).filter p).map fun (i : Nat) => (i : Int)
theorem idxI_succ (p : Nat → Bool) (n : Nat) : idxI p (n + 1) = idxI p n ++ (if p n then [(n : Int)] else []) := by
  rw [idxI, List.range_succ, List.filter_append, List.map_append]
  congr 1
  cases h : p n <;> simp [h]
theorem idxI_len (p : Nat → Bool) (n : Nat) : (idxI p n).length ≤ n := by
  rw [idxI, List.length_map]
  exact Nat.le_trans (List.length_filter_le _ _) (by simp)
def twiceR (ls : List Slp) : List Int × Int := if listE ls ≠ 0 then ([], listE ls) else (idxI (hasB ls) ls.length, 0)
theorem Twice1_slip (x y : Slp) (b : Nat) (w : World) [hb : At w b 0 (encSl y).cells.toList] : Ct Tryz.prog 80 [encSl x, .pointer (some ⟨b, 0, none⟩)] w fun v _ => v = .bool (decide (x = y)) := by
  refine Ct.ofW (by simp) ?_
  (refine jjB ?_; refine jjC ?_)
  (refine jy rfl ?_; intro b2 w_b2 hb_b2 hs_b2 hS_b2 hk_b2; have hA_b2 := At.ofBlock hk_b2)
  (apply jJ; exact eB rfl; refine jz ?_; refine jjB ?_; refine jjC ?_; refine jO rfl rfl rfl rfl ?_; refine jO rfl rfl rfl rfl ?_)
  refine Ops.eqlT (enc := encSl) x y rfl rfl ?_
  (apply jJ; exact eB rfl; refine jz ?_; refine jjF ?_; refine jB rfl rfl ⟨inferInstance, ?_⟩)
  exact rfl
set_option maxHeartbeats 1000000 in
theorem Twice_slip (a : Option Addr) (c : Nat) (ls : List Slp) (w : World) [hmx : MxI w] [hrow : RowI w (.slice a ls.length c) true 6 (ls.map encSl)] (hs : SmallSs ls) : Ct Tryz.prog 33 [.slice a ls.length c] w fun v w' => ∃ sv, v = .tuple #[sv, .int .i64 (twiceR ls).2] ∧ OwnL w' w.heap.size 3 false 1 sv ((twiceR ls).1.map intV) := by
  have hs1 := hs.1
  refine Ct.ofW (by simp) ?_
  (refine jjB ?_; refine jjC ?_; apply jJ; exact eS rfl; apply jJ; exact eI rfl; refine jz ?_; refine jjB ?_; refine jjB ?_; refine jjC ?_; apply jI; exact eS rfl)
  obtain ⟨e, he⟩ : ∃ e, listE ls = e := ⟨_, rfl⟩
  have h3 := listE_in ls
  rw [he] at h3
  refine jjQ ((listed_slip a c ls _ hs).mono fun v _ _ h => h.trans (by rw [he])) rfl rfl ?_
  rintro _ w2 hS2 rfl
  by_cases h0 : e = 0
  rotate_left
  · (apply jJ; exact eI rfl; refine jz ?_; refine jjB ?_; refine jjC ?_; apply jI; exact eI rfl; refine jjj rfl rfl (by omega) ?_; refine jz ?_; refine jjJ rfl ?_; refine jjB ?_; refine jjC ?_; apply jI; exact eI rfl; apply jJ; exact eS rfl; apply jJ; exact eI rfl; refine jz ?_; refine jjF ?_; refine jC rfl rfl rfl ⟨inferInstance, ?_⟩)
    rw [twiceR, if_pos (by rw [he]; exact h0), he]
    exact ⟨_, rfl, OwnL.nil _ _ _ _ _⟩
  subst h0
  rw [twiceR, if_neg (by rw [he]; simp)]
  have hE2 : Ext w w2 := inferInstance
  (apply jJ; exact eI rfl; refine jz ?_; refine jjB ?_; refine jjC ?_; apply jI; exact eI rfl; refine jjk rfl rfl (by omega) ?_; refine jz ?_; refine jjK rfl ?_; refine jjG ?_; refine jjB ?_; refine jjC ?_; apply jJ; exact eS rfl; refine jz ?_; refine jjB ?_; refine jjB ?_; refine jjC ?_; apply jI; exact eS rfl; refine jh rfl ?_; apply jI; exact eI rfl; refine jz ?_; refine jjD ?_)
  refine W.keep0 [(0, .slice a ls.length c), (5, .slice none 0 0), (13, .slice a ls.length c), (14, .int .i64 (ls.length : Int)), (15, .int .i64 ((0 : Nat) : Int))] ⟨eS rfl, eS rfl, eS rfl, eI rfl, eI rfl, trivial⟩ fun s0 => ?_
  refine W.loopG (16 :: 17 :: 18 :: 19 :: 7 :: 6 :: 20 :: 21 :: 22 :: 23 :: 24 :: 25 :: 26 :: 27 :: 28 :: 5 :: 29 :: 15 :: []) (fun g s' V => ∃ (i : Nat) (sv : Value), s' 15 = .int .i64 ((i : Nat) : Int) ∧ s' 5 = sv ∧ g = ls.length - i ∧ i ≤ ls.length ∧ Ext w V ∧ w2.heap.size ≤ V.heap.size ∧ OwnL V w2.heap.size 3 false 1 sv ((idxI (hasB ls) i).map intV)) ls.length ⟨0, _, rfl, rfl, rfl, Nat.zero_le _, hE2, Nat.le_refl _, OwnL.nil _ _ _ _ _⟩ ?_
  rintro _ sd V ⟨i, sv, h15, h5, rfl, hi, hE, hz, hO⟩
  obtain ⟨va, vl, vc, rfl⟩ := hO.slice3
  refine W.fix h15 (W.fix (d := 5) h5 ?_)
  clear h15 h5
  by_cases hil : i < ls.length
  rotate_left
  · obtain rfl : i = ls.length := by omega
    (refine jjB ?_; refine jjC ?_; refine jja rfl rfl (by omega) ?_; refine jz ?_; refine jjB ?_; refine jjK rfl ?_; refine jjE ?_; refine jjB ?_; refine jjC ?_; apply jI; exact eS rfl; apply jJ; exact eS rfl; apply jJ; exact eI rfl; refine jz ?_; refine jjF ?_; refine jC rfl rfl rfl ⟨inferInstance, ?_⟩)
    exact ⟨_, rfl, hO.mono hE2.size⟩
  have i0 : RowI V (.slice a ls.length c) true 6 (ls.map encSl) := ⟨hrow.h.ext hE⟩
  have hgd : ls.getD i noSl = ls[i] := by rw [List.getD_eq_getElem?_getD, List.getElem?_eq_getElem hil, Option.getD_some]
  have hsn := idxI_succ (hasB ls) i
  have hln := idxI_len (hasB ls) i
  obtain ⟨B, hB⟩ : ∃ B, hasB ls i = B := ⟨_, rfl⟩
  have hB' : ((ls.take i).any fun x => decide (x = ls[i])) = B := by rw [← hB, hasB, hgd]
  rw [hB] at hsn
  (refine jjB ?_; refine jjC ?_; refine jjZ rfl rfl (by omega) ?_; refine jz ?_; refine jjB ?_; refine jjJ rfl ?_; refine jjG ?_; refine jjB ?_; refine jjD ?_; refine jjB ?_; refine jjC ?_; apply jI; exact eI rfl; refine jF rfl rfl rfl (map_get (by omega)) ?_; intro _ _ _; refine jQ rfl rfl ?_)
  ((skip); refine jjY ?_; intro b7 w_b7 hb_b7 hs_b7 hS_b7 hk_b7; have hA_b7 := Bk.of hk_b7)
  (apply jJ; exact eI rfl)
  refine Ops.store rfl rfl rfl rfl rfl ?_
  intro V1 hp1
  have e1 : Ext V V1 := hp1.ext hS_b7.ext (by omega)
  (refine jz ?_; refine jjB ?_; refine jjC ?_; apply jI; exact eS rfl; apply jI; exact eI rfl)
  refine Ops.sliceH (hi := i) (hrow.h.ext (hE.trans e1)) rfl rfl rfl (by rw [List.length_map]; omega) ?_
  rintro _ hR ⟨a3, c3, rfl⟩
  have hA7 : At V1 b7 0 (encSl ls[i]).cells.toList := Bk.toAt (h := Bk.of hp1.new)
  rw [← List.map_take] at hR
  (refine jv ?_)
  refine jjQ ((ContainsFunc_Slip _ _ (.func (.func 80) #[] ([.pointer (some ⟨b7, 0, none⟩)] : List Value).toArray) encSl (ls.take i) (fun x => decide (x = ls[i])) hR ⟨_, [.pointer (some ⟨b7, 0, none⟩)], rfl, inferInstance, fun w' x _ hs' => Twice1_slip x ls[i] b7 w' (hb := hA7.ext hs')⟩).mono fun v _ _ h => h.trans (by rw [hB'])) rfl rfl ?_
  rintro _ V2 hS2 rfl
  have e2 := e1.trans hS2.ext
  cases B with
  | false =>
    (refine jz ?_; refine jjK rfl ?_; refine jjG ?_; refine jjC ?_; refine jY rfl rfl (by omega) ?_; apply jI; exact eI rfl; refine jz ?_)
    refine ⟨rfl, by ((refine Same.upd rfl ?_; refine Same.upd rfl ?_; refine Same.upd rfl ?_; refine Same.upd rfl ?_; refine Same.upd rfl ?_; refine Same.upd rfl ?_; refine Same.upd rfl ?_; refine Same.upd rfl ?_; refine Same.upd rfl ?_; refine Same.upd rfl ?_; refine Same.upd rfl ?_; refine Same.upd rfl ?_; refine Same.upd rfl ?_; refine Same.upd rfl ?_; refine Same.upd rfl ?_; exact Same.ovN)), ls.length - (i + 1), by omega, i + 1, _, congrArg (Value.int .i64) (by omega), rfl, rfl, by omega, hE.trans e2, by have := e2.size; omega, ?_⟩
    rw [hsn, if_neg (by simp), List.append_nil]; exact hO.ext e2
  | true =>
    (refine jz ?_; refine jjJ rfl ?_; refine jjC ?_; apply jI; exact eS rfl; apply jI; exact eI rfl)
    (refine jjP (v := .int _ _) rfl (by exact rfl) (by exact rfl) (by exact rfl) (by exact rfl) ?_; intro b10 w_b10 hb_b10 hs_b10 hS_b10 hk_b10; have hR_b10 := RowV.one (agg := false) (k := 1) rfl hk_b10)
    have e10 := e2.trans hS_b10.ext
    have y10 := e10.size
    refine Ops.appendL (hO.ext e10) (by omega) hR_b10 rfl rfl rfl rfl (one_int _) ?_ ?_ ?_
    · rw [List.length_map]; simp only [List.length_cons, List.length_nil]; omega
    · rw [List.length_map]; simp only [List.length_cons, List.length_nil]; omega
    intro sv2 u3 hA hO3 _ hown
    obtain ⟨va3, vl3, vc3, rfl⟩ := hO3.slice3
    have zA := hA.g.size
    (apply jJ; exact eS rfl; refine jz ?_; refine jjC ?_; refine jY rfl rfl (by omega) ?_; apply jI; exact eI rfl; refine jz ?_)
    refine ⟨rfl, by ((refine Same.upd rfl ?_; refine Same.upd rfl ?_; refine Same.upd rfl ?_; refine Same.upd rfl ?_; refine Same.upd rfl ?_; refine Same.upd rfl ?_; refine Same.upd rfl ?_; refine Same.upd rfl ?_; refine Same.upd rfl ?_; refine Same.upd rfl ?_; refine Same.upd rfl ?_; refine Same.upd rfl ?_; refine Same.upd rfl ?_; refine Same.upd rfl ?_; refine Same.upd rfl ?_; refine Same.upd rfl ?_; refine Same.upd rfl ?_; refine Same.upd rfl ?_; refine Same.upd rfl ?_; refine Same.upd rfl ?_; exact Same.ovN)), ls.length - (i + 1), by omega, i + 1, _, congrArg (Value.int .i64) (by omega), rfl, rfl, by omega, hA.ext (hE.trans e10) hE2.size, by omega, ?_⟩
    rw [hsn, if_pos rfl, List.map_append]; exact hO3
end Go.Proofs.YtgnjjocafmofaaaGreatDoor

/- The reference: listed, Twice. -/
namespace Go.Proofs.YtgnjjocafmofaaaGreatDoor
open Go.RowKit

theorem take_any {α : Type} {l : List α} {f : α → Bool} {k : Nat} (hk : k < l.length) : (l.take (k + 1)).any f = ((l.take k).any f || f l[k]) := by
  rw [take_snoc_get (List.getElem?_eq_getElem hk), List.any_append]; simp
def hasL (l : List Slp) (x : Slp) (k : Nat) : Bool := (l.take k).any fun y => decide (y = x)
theorem hasL_succ {l : List Slp} {x : Slp} {k : Nat} (hk : k < l.length) : hasL l x (k + 1) = (hasL l x k || decide (l[k] = x)) := take_any hk
theorem listE_all {ls : List Slp} (h : ¬ 700 < ls.length) (h2 : ∀ (j : Nat) (hj : j < ls.length), slipB ls[j] = true) : listE ls = 0 := by rw [listE, if_neg h, all_yes h2]; rfl
theorem listE_no {ls : List Slp} (h : ¬ 700 < ls.length) {j : Nat} (hj : j < ls.length) (h2 : slipB ls[j] = false) : listE ls = 31 := by rw [listE, if_neg h, all_no hj h2]; rfl
end Go.Proofs.YtgnjjocafmofaaaGreatDoor

/- Maps whose keys are there once; maps that are sets. -/
namespace Go.Proofs.YtgnjjocafmofaaaGreatDoor
open Go.RowKit

section
variable {κ : Type} [DecidableEq κ]
abbrev NdG (m : List (κ × Value)) : Prop := (m.map (·.1)).Nodup
theorem mset_keysG (m : List (κ × Value)) (k : κ) (v : Value) : ∀ x, x ∈ (mset m k v).map (·.1) → x = k ∨ x ∈ m.map (·.1) := by
  induction m with
  | nil => intro x hx; simp [mset] at hx; exact .inl hx
  | cons p m ih =>
    obtain ⟨y, u⟩ := p
    intro x hx
    rw [mset] at hx
    split at hx
    · subst_vars; exact .inr hx
    · simp only [List.map_cons, List.mem_cons] at hx ⊢
      rcases hx with hx | hx
      · exact .inr (.inl hx)
      · rcases ih x hx with h | h
        · exact .inl h
        · exact .inr (.inr h)
theorem NdG.set {m : List (κ × Value)} (h : NdG m) (k : κ) (v : Value) : NdG (mset m k v) := by
  induction m with
  | nil => simp [NdG, mset]
  | cons p m ih =>
    obtain ⟨y, u⟩ := p
    simp only [NdG, List.map_cons, List.nodup_cons] at h
    rw [mset]
    split
    · subst_vars; simp only [NdG, List.map_cons, List.nodup_cons]; exact h
    · simp only [NdG, List.map_cons, List.nodup_cons]
      refine ⟨fun hc => ?_, ih h.2⟩
      rcases mset_keysG m k v y hc with e | e
      · rename_i hne; exact hne e.symm
      · exact h.1 e
theorem mget_noG {m : List (κ × Value)} {k : κ} (h : k ∉ m.map (·.1)) : mget m k = none := by
  induction m with
  | nil => rfl
  | cons p m ih =>
    obtain ⟨y, u⟩ := p
    simp only [List.map_cons, List.mem_cons, not_or] at h
    rw [mget, if_neg h.1, ih h.2]
theorem NdG.del {m : List (κ × Value)} (h : NdG m) (k : κ) : NdG (mdel m k) ∧ (∀ x, x ∈ (mdel m k).map (·.1) → x ∈ m.map (·.1)) ∧ ∀ x, mget (mdel m k) x = if x = k then none else mget m x := by
  induction m with
  | nil => simp [NdG, mdel, mget]
  | cons p m ih =>
    obtain ⟨y, u⟩ := p
    simp only [NdG, List.map_cons, List.nodup_cons] at h
    obtain ⟨i1, i2, i3⟩ := ih h.2
    rw [mdel]
    split
    · subst_vars
      refine ⟨h.2, fun x hx => by simp only [List.map_cons, List.mem_cons]; exact .inr hx, fun x => ?_⟩
      rw [mget]
      by_cases e : x = y
      · subst e; rw [if_pos rfl, mget_noG h.1]
      · rw [if_neg e, if_neg e]
    · rename_i hne
      refine ⟨?_, fun x hx => ?_, fun x => ?_⟩
      · simp only [NdG, List.map_cons, List.nodup_cons]
        exact ⟨fun hc => h.1 (i2 y hc), i1⟩
      · simp only [List.map_cons, List.mem_cons] at hx ⊢
        exact hx.imp id (i2 x)
      · rw [mget, mget, i3]
        by_cases e : x = y
        · subst e; rw [if_pos rfl, if_pos rfl, if_neg (fun h => hne h.symm)]
        · rw [if_neg e, if_neg e]
/-- A map that is a set: true for what is in it. -/
structure SetM (S : κ → Bool) (m : List (κ × Value)) : Prop where
  nd : NdG m
  get : ∀ x, mget m x = if S x then some (.bool true) else none
theorem SetM.nil : SetM (fun _ : κ => false) [] := ⟨by simp [NdG], fun x => rfl⟩
theorem SetM.congr {S S' : κ → Bool} {m : List (κ × Value)} (h : SetM S m) (e : ∀ x, S' x = S x) : SetM S' m := ⟨h.nd, fun x => by rw [h.get, e]⟩
theorem SetM.set {S : κ → Bool} {m : List (κ × Value)} (h : SetM S m) (k : κ) : SetM (fun x => decide (x = k) || S x) (mset m k (.bool true)) := ⟨h.nd.set k _, fun x => by
  by_cases e : x = k
  · subst e; rw [mget_set_same]; simp
  · rw [mget_set_other _ _ e, h.get]; simp [e]⟩
theorem SetM.del {S : κ → Bool} {m : List (κ × Value)} (h : SetM S m) (k : κ) : SetM (fun x => !decide (x = k) && S x) (mdel m k) := ⟨(h.nd.del k).1, fun x => by
  rw [(h.nd.del k).2.2]
  by_cases e : x = k
  · simp [e]
  · rw [if_neg e, h.get]; simp [e]⟩
theorem SetM.look {S : κ → Bool} {m : List (κ × Value)} (h : SetM S m) (k : κ) : (mget m k).getD (.bool false) = .bool (S k) := by
  rw [h.get]; cases S k <;> rfl
end
end Go.Proofs.YtgnjjocafmofaaaGreatDoor

/- Places and slips as keys of maps. -/
namespace Go.Proofs.YtgnjjocafmofaaaGreatDoor
open Go.RowKit

section
variable {P : Program} {κ : Type} [DecidableEq κ] {enc : κ → Value} {kt : Nat}
theorem findAsking_of [he : EqT P kt enc] (w : World) (k : κ) : ∀ (es : List MapEntry) (ks : List κ) (i : Nat), es.map (·.key) = ks.map enc →
    (Instr.findAsking kt (enc k) es i).run P w = .ok ((ks.findIdx? (fun x => decide (k = x))).map fun j => (i + j, ((es[j]?).map (·.val)).getD undef)) w
  | [], [], i, _ => rfl
  | [], _ :: _, i, h => by simp at h
  | _ :: _, [], i, h => by simp at h
  | e :: es, x :: ks, i, h => by
    simp only [List.map_cons, List.cons.injEq] at h
    have ih := findAsking_of w k es ks (i + 1) h.2
    have hq := he.eq w k x
    simp only [Instr.findAsking, Sem.run_bind, h.1, hq, Result.andThen]
    by_cases hk : k = x
    · simp [hk, List.findIdx?_cons]
    · simp only [hk, decide_false, ih, List.findIdx?_cons, Bool.false_eq_true, if_false, Option.map_map]
      congr 2
      funext j
      simp; omega
theorem keyL_struct {fs : Array Field} (hu : P.underlying kt = some (.struct fs)) [he : EqT P kt enc] (hag : ∀ k, ∃ cs, enc k = .agg cs) (hc : ∀ (em : Bool) (w : World) (k : κ), (Instr.checkKey em 10000 kt (enc k)).run P w = .ok () w) (hb : ∀ k, Instr.sameBits 10000 (enc k) (enc k) = true) : KeyL P kt enc where
  chk := hc
  find w k es ks hk := by
    have h1 := findAsking_of (P := P) (enc := enc) (kt := kt) w k es ks 0 hk
    simp only [Instr.findKey, Sem.run_bind, run_underlying hu, Result.andThen]
    cases es with
    | nil =>
      cases ks with
      | nil => rfl
      | cons x ks => simp at hk
    | cons e es =>
      have : Instr.findNow (.struct fs) (enc k) (e :: es) 0 = none := by
        obtain ⟨cs, h⟩ := hag k
        simp [Instr.findNow, Instr.sameNow]
      rw [this]
      simpa using h1
  bits := hb
end
theorem chk_place (em : Bool) (w : World) (n : Nat) (p : Pl) : (Instr.checkKey em (n + 2) 43 (encPl p)).run Tryz.prog w = .ok () w := by
  have h := Tryz.underlying43
  have hi := Tryz.underlying3
  simp [Instr.checkKey, run_underlying h, run_underlying hi, part, run_isAgg w tu3, TypeDesc.isAgg]
instance : KeyL Tryz.prog 43 encPl := keyL_struct Tryz.underlying43 (fun k => ⟨_, rfl⟩) (fun em w k => chk_place em w 9998 k) (fun k => by simp [Instr.sameBits])
theorem chk_slip (em : Bool) (w : World) (n : Nat) (x : Slp) : (Instr.checkKey em (n + 3) 53 (encSl x)).run Tryz.prog w = .ok () w := by
  have h := Tryz.underlying53
  have hs := Tryz.underlying9
  have hp := chk_place em w n x.1
  have e1 : (part 43 #[.int .i64 x.1.1, .int .i64 x.1.2.1, .int .i64 x.1.2.2, .string x.2.1, .string x.2.2.1, .string x.2.2.2] 0).run Tryz.prog w = .ok (encPl x.1) w := part_agg tu43 rfl ts43 rfl
  rw [Instr.checkKey]
  simp [run_underlying h, e1, hp, part, run_isAgg w tu9, TypeDesc.isAgg, Instr.checkKey, run_underlying hs]
instance : KeyL Tryz.prog 53 encSl := keyL_struct Tryz.underlying53 (fun k => ⟨_, rfl⟩) (fun em w k => chk_slip em w 9997 k) (fun k => by simp [Instr.sameBits, byteArray_beq])
end Go.Proofs.YtgnjjocafmofaaaGreatDoor

/- The proof engine, part 26: entries of maps, what is read of them. -/
namespace Go.Proofs.YtgnjjocafmofaaaGreatDoor
open Go.RowKit

theorem MapN.app {κ : Type} [DecidableEq κ] {encK : κ → Value} {w w' : World} {b B st : Nat} {m : List (κ × Value)} {k : κ} {v : Value} (h : MapN encK w b m k st) (a : App B w w' v) (hne : v.ownBlock ≠ some b) : MapN encK w' b m k st := by
  obtain ⟨es, cl, i, h1, h2⟩ := h.h
  exact ⟨es, cl, i, a.other h1 hne, h2⟩
section rules
variable {P : Program} {ro : Option Nat} {n : Nat} {all rest : List Oper} {K : Sl → World → Prop} {s : Sl} {w : World} {d : Nat} {ty : Nat} {pos : String} {af : Array Edge}
variable {x y : Operand} {t : Nat}
theorem Ops.lookupV {κ : Type} [DecidableEq κ] {encK : κ → Value} {b kt et : Nat} {m : List (κ × Value)} {k : κ} {z v : Value} {size bytes : Nat} (hv : (mget m k).getD z = v) (hm : MapE encK w b m) (hx : ev n s x = .map (some b)) (hy : ev n s y = encK k) [hk : KeyL P kt encK] [ht : TMap P t kt et] [hz : TS P et z size bytes]
    (h : Ops P ro n all rest K (upd s d v) w) : Ops P ro n all (⟨some d, .lookup t x y false, ty, pos, af, none⟩ :: rest) K s w := by
  subst hv
  exact Ops.lookup hm hx hy h
end rules
/-- A slice of the call's own that is cut: its block is the same. -/
theorem own_cut {a : Option Addr} {n c m : Nat} (h0 : 0 < n) (hm : n ≤ c) : (Value.slice a m c).ownBlock = (Value.slice a n c).ownBlock := by
  cases a <;> rfl
end Go.Proofs.YtgnjjocafmofaaaGreatDoor

/- slip: Missing. -/
namespace Go.Proofs.YtgnjjocafmofaaaGreatDoor
open Go.RowKit

/-- The places whose slip is not in a list. -/
noncomputable def missF (t : Tx) (wd side : Int) (ls : List Slp) : List Pl := ((allS t side wd).filter fun s => !hasL ls s ls.length).map (·.1)
noncomputable def missR (t : Tx) (wd side : Int) (ls : List Slp) : List Pl × Int := if askE t wd side ≠ 0 then ([], askE t wd side) else if listE ls ≠ 0 then ([], listE ls) else (missF t wd side ls, 0)
theorem missR_no {t : Tx} {wd side : Int} {ls : List Slp} (h : askE t wd side ≠ 0) : missR t wd side ls = ([], askE t wd side) := by rw [missR, if_pos h]
theorem missR_bad {t : Tx} {wd side : Int} {ls : List Slp} (h : askE t wd side = 0) (h2 : listE ls ≠ 0) : missR t wd side ls = ([], listE ls) := by rw [missR, if_neg (by simp [h]), if_pos h2]
theorem missR_yes {t : Tx} {wd side : Int} {ls : List Slp} (h : askE t wd side = 0) (h2 : listE ls = 0) : missR t wd side ls = (missF t wd side ls, 0) := by rw [missR, if_neg (by simp [h]), if_neg (by simp [h2])]
theorem hasL_next {l : List Slp} {i : Nat} {x y : Slp} (h : l[i]? = some x) : hasL l y (i + 1) = (decide (y = x) || hasL l y i) := by
  obtain ⟨hi, e⟩ := List.getElem?_eq_some_iff.1 h
  rw [hasL_succ hi, Bool.or_comm, e]
  congr 1
  exact decide_eq_decide.2 ⟨Eq.symm, Eq.symm⟩
section
variable (a : Option Addr) (c : Nat) (cs : List Ch) (wd side : Int) (la : Option Addr) (lc : Nat) (ls : List Slp) (w : World) [hrow : RowI w (.slice a cs.length c) true 2 (cs.map encCh)] [hT : TextI w cs] [hgs : At w 1 0 sidesC] [hmx : MxI w] [hl : RowI w (.slice la ls.length lc) true 6 (ls.map encSl)]
set_option maxHeartbeats 8000000 in
theorem Missing_slip (hs : SmallT cs) (hd : 0 ≤ side ∧ side ≤ 255) (hls : SmallSs ls) : Ct Tryz.prog 32 [.agg #[.slice a cs.length c], encCut wd side, .slice la ls.length lc] w fun v w' => ∃ sv, v = .tuple #[sv, .int .i64 (missR (txF cs) wd side ls).2] ∧ OwnL w' w.heap.size 43 true 3 sv ((missR (txF cs) wd side ls).1.map encPl) := by
  have hls1 := hls.1
  refine Ct.ofWM (by simp) ?_
  (refine jjB ?_; refine jjC ?_)
  (refine jy rfl ?_; intro b3 w_b3 hb_b3 hs_b3 hS_b3 hk_b3; have hA_b3 := At.ofBlock hk_b3)
  skip
  (refine jy rfl ?_; intro b4 w_b4 hb_b4 hs_b4 hS_b4 hk_b4; have hA_b4 := At.ofBlock hk_b4)
  (apply jJ; exact eS rfl; apply jJ; exact eI rfl; refine jz ?_; refine jjB ?_; refine jjB ?_; refine jjC ?_; refine jO rfl rfl rfl rfl ?_; refine jO rfl rfl rfl rfl ?_)
  obtain ⟨e, he⟩ : ∃ e, askE (txF cs) wd side = e := ⟨_, rfl⟩
  have h3 := askE_in (txF cs) wd side
  rw [he] at h3
  refine jjQ ((open_slip a c cs wd side _ hs hd).mono fun v _ _ h => h.trans (by rw [he])) rfl rfl ?_
  rintro _ w8 hS8 rfl
  have hE8 : Ext w w8 := inferInstance
  by_cases h0 : e = 0
  rotate_left
  · (apply jJ; exact eI rfl; refine jz ?_; refine jjB ?_; refine jjC ?_; apply jI; exact eI rfl; refine jjj rfl rfl (by omega) ?_; refine jz ?_; refine jjJ rfl ?_; refine jjB ?_; refine jjC ?_; apply jI; exact eI rfl; apply jJ; exact eS rfl; apply jJ; exact eI rfl; refine jz ?_; refine jjF ?_)
    refine fin2M rfl rfl rfl inferInstance fun w' g => ⟨hE8.ofGrow g (Nat.le_refl _), ?_⟩
    rw [missR_no (by rw [he]; exact h0), he]
    exact ⟨_, rfl, OwnL.nil _ _ _ _ _⟩
  subst h0
  obtain ⟨ht, hc⟩ := askE_zero he
  obtain ⟨e2, he2⟩ : ∃ e, listE ls = e := ⟨_, rfl⟩
  have h32 := listE_in ls
  rw [he2] at h32
  (apply jJ; exact eI rfl; refine jz ?_; refine jjB ?_; refine jjC ?_; apply jI; exact eI rfl; refine jjk rfl rfl (by omega) ?_; refine jz ?_; refine jjK rfl ?_; refine jjG ?_; refine jjB ?_; refine jjB ?_; refine jjC ?_; apply jI; exact eS rfl)
  refine jjQ ((listed_slip la lc ls _ hls).mono fun v _ _ h => h.trans (by rw [he2])) rfl rfl ?_
  rintro _ w9 hS9 rfl
  have hE9 : Ext w w9 := inferInstance
  by_cases h0 : e2 = 0
  rotate_left
  · (apply jJ; exact eI rfl; refine jz ?_; refine jjB ?_; refine jjC ?_; apply jI; exact eI rfl; refine jjj rfl rfl (by omega) ?_; refine jz ?_; refine jjJ rfl ?_; refine jjB ?_; refine jjC ?_; apply jI; exact eI rfl; apply jJ; exact eS rfl; apply jJ; exact eI rfl; refine jz ?_; refine jjF ?_)
    refine fin2M rfl rfl rfl inferInstance fun w' g => ⟨hE9.ofGrow g (Nat.le_refl _), ?_⟩
    rw [missR_bad he (by rw [he2]; exact h0), he2]
    exact ⟨_, rfl, OwnL.nil _ _ _ _ _⟩
  subst h0
  rw [missR_yes he he2]
  (apply jJ; exact eI rfl; refine jz ?_; refine jjB ?_; refine jjC ?_; apply jI; exact eI rfl; refine jjk rfl rfl (by omega) ?_; refine jz ?_; refine jjK rfl ?_; refine jjG ?_; refine jjB ?_; refine jjC ?_)
  refine Ops.makeMap encSl ?_
  intro mb w10 hmb hs10 hS10 hM10
  (apply jjR rfl; (intro _; first|exact eI rfl|exact eB rfl|exact eP rfl|exact eS rfl|exact eT rfl|exact eA rfl|exact eU rfl|exact eF rfl|exact eM rfl|exact eN rfl|exact rfl); exact rfl; exact rfl; exact rfl; exact rfl; intro b10 w_b10 hb_b10 hs_b10 hS_b10 hk_b10; have hA_b10 := Bk.of hk_b10)
  (refine jz ?_; refine jjB ?_; refine jjB ?_; refine jjC ?_; refine jO rfl rfl rfl rfl ?_; refine jO rfl rfl rfl rfl ?_)
  refine jjQ (slips_slip a c cs wd side _) rfl rfl ?_
  rintro _ w16 hS16 ⟨bt, bc, rfl, ⟨hbt, hbc⟩, hA1, hA2⟩
  (refine jz ?_; refine jjD ?_)
  have hE16 : Ext w w16 := inferInstance
  have hsz := hE16.size
  have z10 := hS10.size
  have zb10 := hS_b10.size
  have z16 := hS16.size
  have zE9 := hE9.size
  have hwm : w.heap.size ≤ mb := by omega
  have hmw : mb < w16.heap.size := by omega
  have hbm : b10 ≠ mb := by omega
  have hM16 : MapE encSl w16 mb [] := hM10.ext (hS_b10.ext.trans hS16.ext)
  have hB16 : At w16 b10 0 [.map (some mb)] := inferInstance
  have hB3 : At w16 b3 0 [.slice a cs.length c] := inferInstance
  have hB4 : At w16 b4 0 [.int .i64 wd, .int .u8 side] := inferInstance
  have n3 : b3 < mb := by have := hS8.size; have := hS9.size; have := hS_b4.size; omega
  have n4 : b4 < mb := by have := hS8.size; have := hS9.size; omega
  have hal := allS_len (side := side) (wd := wd) ht
  refine W.range w.heap.size (allS (txF cs) side wd) encSl1 (slips1_slip bt bc a c cs wd side hs ht hc) rfl (fun _ => rfl) trivial inferInstance hsz
    (fun i V => Ext w V ∧ w16.heap.size ≤ V.heap.size ∧ At V b10 0 [.map (some mb)] ∧ (At V b3 0 [.slice a cs.length c] ∧ At V b4 0 [.int .i64 wd, .int .u8 side]) ∧ (At V bt 0 [.slice a cs.length c] ∧ At V bc 0 [.int .i64 wd, .int .u8 side]) ∧ ∃ m, MapE encSl V mb m ∧ SetM (fun x => hasL (allS (txF cs) side wd) x i) m)
    (fun _ _ _ => False) ?hJ (fun _ _ _ _ h _ => h) ?hF ?h0 (fun x s' V => ∃ b, s' 10 = .pointer (some ⟨b10, 0, none⟩) ∧ s' 11 = .pointer (some ⟨b, 0, none⟩) ∧ Bk V b (encSl x).cells.toList 53) (fun x s V V' ⟨b, h1, h2, h3⟩ g => ⟨b, h1, h2, h3.grow g⟩) ?hassign ?hbody ?hdone (fun _ _ _ _ _ _ _ h => h.elim)
  case hJ =>
    rintro i V V' ⟨h1, h2, k10, ⟨k3, k4⟩, ⟨kt, kc⟩, m, hm, hS⟩ g
    exact ⟨h1.ofGrow g hsz, Nat.le_trans h2 g.size, k10.grow g, ⟨k3.grow g, k4.grow g⟩, ⟨kt.grow g, kc.grow g⟩, m, hm.grow g, hS⟩
  case hF =>
    rintro i V ⟨h1, h2, k10, ⟨k3, k4⟩, ⟨kt, kc⟩, m, hm, hS⟩
    exact ⟨h2, kt, kc, hrow.h.ext h1, hT.ext h1, hgs.ext h1⟩
  case h0 => exact ⟨hE16, Nat.le_refl _, hB16, ⟨hB3, hB4⟩, ⟨hA1, hA2⟩, _, hM16, SetM.nil.congr fun x => by simp [hasL]⟩
  case hassign =>
    rintro l i x V hx ⟨h1, h2, k10, ⟨k3, k4⟩, ⟨kt, kc⟩, m, hm, hS⟩ hl hr
    (refine jjC ?_)
    (apply jjR rfl; (intro _; first|exact eI rfl|exact eB rfl|exact eP rfl|exact eS rfl|exact eT rfl|exact eA rfl|exact eU rfl|exact eF rfl|exact eM rfl|exact eN rfl|exact rfl); exact rfl; exact rfl; exact rfl; exact rfl; intro bx w_bx hb_bx hs_bx hS_bx hk_bx; have hA_bx := Bk.of hk_bx)
    (refine jz ?_)
    exact ⟨rfl, hS_bx.ext.tr, Fr.ofExt hS_bx.ext fun k hk => .inl hk, ⟨h1.trans hS_bx.ext, by have := hS_bx.size; omega, k10.ext hS_bx.ext, ⟨k3.ext hS_bx.ext, k4.ext hS_bx.ext⟩, ⟨kt.ext hS_bx.ext, kc.ext hS_bx.ext⟩, m, hm.ext hS_bx.ext, hS⟩, bx, rfl, rfl, inferInstance⟩
  case hbody =>
    rintro l i x s' V hx ⟨h1, h2, k10, ⟨k3, k4⟩, ⟨kt, kc⟩, m, hm, hS⟩ ⟨bx, ha10, ha11, hbx⟩ hl hr
    refine W.fix (d := 10) ha10 (W.fix (d := 11) ha11 ?_)
    clear ha10 ha11
    have hbx' : At V bx 0 [.int .i64 x.1.1, .int .i64 x.1.2.1, .int .i64 x.1.2.2, .string x.2.1, .string x.2.2.1, .string x.2.2.2] := Bk.toAt (h := hbx)
    have ht16 := hA1.lt
    have hc16 := hA2.lt
    (refine jjD ?_; refine jjC ?_; refine jN rfl rfl rfl ?_; refine jO rfl rfl rfl rfl ?_)
    refine Ops.mapUpdate (k := x) hm rfl rfl (eB rfl) ?_
    intro V2 o2 hp2 hM2
    (refine jz ?_)
    exact ⟨hp2.tr hm.loopy, hp2.frS hmw, hp2.ext h1 hwm, by rw [hp2.size]; exact h2, hp2.at_ k10 hbm, ⟨hp2.at_ k3 (by omega), hp2.at_ k4 (by omega)⟩, ⟨hp2.at_ kt (by omega), hp2.at_ kc (by omega)⟩, _, hM2, (hS.set x).congr fun y => hasL_next hx⟩
  case hdone =>
    rintro ds' V hmk htr ⟨h1, h2, k10, ⟨k3, k4⟩, ⟨kt, kc⟩, m, hm, hS⟩
    (refine jjB ?_; refine jjB ?_; refine jjC ?_; apply jI; exact eS rfl; refine jh rfl ?_; apply jI; exact eI rfl; refine jz ?_; refine jjD ?_)
    have hE0 : Ext w V := h1
    have hSL : SetM (fun x => hasL (allS (txF cs) side wd) x (allS (txF cs) side wd).length && !hasL ls x 0) m := hS.congr fun x => by simp [hasL]
    refine W.keep0 [(3, .pointer (some ⟨b3, 0, none⟩)), (4, .pointer (some ⟨b4, 0, none⟩)), (10, .pointer (some ⟨b10, 0, none⟩)), (34, .slice la ls.length lc), (35, .int .i64 (ls.length : Int)), (36, .int .i64 ((0 : Nat) : Int))] ⟨eP rfl, eP rfl, eP rfl, eS rfl, eI rfl, eI rfl, trivial⟩ fun s0 => ?_
    refine W.loopG (37 :: 38 :: 39 :: 13 :: 40 :: 41 :: 42 :: 36 :: []) (fun g s' V' => ∃ j : Nat, s' 36 = .int .i64 ((j : Nat) : Int) ∧ g = ls.length - j ∧ j ≤ ls.length ∧ Ext w V' ∧ w16.heap.size ≤ V'.heap.size ∧ Mks w.heap.size V' ds' ∧ At V' b10 0 [.map (some mb)] ∧ (At V' b3 0 [.slice a cs.length c] ∧ At V' b4 0 [.int .i64 wd, .int .u8 side]) ∧ ∃ m, MapE encSl V' mb m ∧ SetM (fun x => hasL (allS (txF cs) side wd) x (allS (txF cs) side wd).length && !hasL ls x j) m) ls.length ⟨0, rfl, rfl, Nat.zero_le _, h1, h2, hmk, k10, ⟨k3, k4⟩, m, hm, hSL⟩ ?_
    clear hSL hS hm m h1 h2 hmk k10 k3 k4 kt kc htr
    rintro _ sd V1 ⟨j, h36, rfl, hj, h1, h2, hmk, k10, ⟨k3, k4⟩, m, hm, hS⟩
    refine W.fix h36 ?_
    clear h36
    by_cases hjl : j < ls.length
    · have hR1 : RowI V1 (.slice la ls.length lc) true 6 (ls.map encSl) := ⟨hl.h.ext h1⟩
      (refine jjB ?_; refine jjC ?_; refine jjZ rfl rfl (by omega) ?_; refine jz ?_; refine jjB ?_; refine jjJ rfl ?_; refine jjG ?_; refine jjB ?_; refine jjD ?_; refine jjB ?_; refine jjC ?_; refine jF rfl rfl rfl (map_get (by omega)) ?_; intro _ _ _; refine jQ rfl rfl ?_)
      (apply jjR rfl; (intro _; first|exact eI rfl|exact eB rfl|exact eP rfl|exact eS rfl|exact eT rfl|exact eA rfl|exact eU rfl|exact eF rfl|exact eM rfl|exact eN rfl|exact rfl); exact rfl; exact rfl; exact rfl; exact rfl; intro b13 w_b13 hb_b13 hs_b13 hS_b13 hk_b13; have hA_b13 := Bk.of hk_b13)
      have e13 := hS_b13.ext
      have hx' : At w_b13 b13 0 [.int .i64 ls[j].1.1, .int .i64 ls[j].1.2.1, .int .i64 ls[j].1.2.2, .string ls[j].2.1, .string ls[j].2.2.1, .string ls[j].2.2.2] := Bk.toAt (h := hA_b13)
      (refine jz ?_; refine jjC ?_; refine jN rfl rfl rfl ?_; refine jO rfl rfl rfl rfl ?_)
      refine Ops.deleteN (k := ls[j]) (hm.ext e13) rfl rfl ?_
      intro V2 o2 hp2 hM2
      have z13 := e13.size
      (refine jz ?_; refine jjC ?_; refine jY rfl rfl (by omega) ?_; apply jI; exact eI rfl; refine jz ?_)
      refine ⟨rfl, by ((refine Same.upd rfl ?_; refine Same.upd rfl ?_; refine Same.upd rfl ?_; refine Same.upd rfl ?_; refine Same.upd rfl ?_; refine Same.upd rfl ?_; refine Same.upd rfl ?_; refine Same.upd rfl ?_; refine Same.upd rfl ?_; exact Same.ovN)), ls.length - (j + 1), by omega, j + 1, congrArg (Value.int .i64) (by omega), rfl, by omega, hp2.ext (h1.trans e13) hwm, by rw [hp2.size]; omega, hmk.tr (e13.tr.trans (hp2.tr (hm.ext e13).loopy)), hp2.at_ (k10.ext e13) hbm, ⟨hp2.at_ (k3.ext e13) (by omega), hp2.at_ (k4.ext e13) (by omega)⟩, _, hM2, (hS.del ls[j]).congr fun y => ?_⟩
      rw [hasL_next (List.getElem?_eq_getElem hjl), Bool.not_or, ← Bool.and_assoc, ← Bool.and_assoc, Bool.and_comm (!decide _)]
    obtain rfl : j = ls.length := by omega
    (refine jjB ?_; refine jjC ?_; refine jja rfl rfl (by omega) ?_; refine jz ?_; refine jjB ?_; refine jjK rfl ?_; refine jjE ?_; refine jjB ?_; refine jjC ?_)
    ((skip); refine jjY ?_; intro b14 w_b14 hb_b14 hs_b14 hS_b14 hk_b14; have hA_b14 := Bk.of hk_b14)
    (refine jz ?_; refine jjB ?_; refine jjB ?_; refine jjC ?_; refine jO rfl rfl rfl rfl ?_; refine jO rfl rfl rfl rfl ?_)
    have e14 := hS_b14.ext
    have hE14 : Ext w w_b14 := h1.trans e14
    have i1 : RowI w_b14 (.slice a cs.length c) true 2 (cs.map encCh) := ⟨hrow.h.ext hE14⟩
    refine jjQ (slips_slip a c cs wd side _) rfl rfl ?_
    rintro _ w17 hS17 ⟨bt', bc', rfl, ⟨hbt', hbc'⟩, hA1', hA2'⟩
    have e17 := e14.trans hS17.ext
    have hE17 := h1.trans e17
    have hm17 := hm.ext e17
    have hmk17 := hmk.tr e17.tr
    have hB14 : Bk w17 b14 [.slice none 0 0] 62 := hA_b14.ext hS17.ext
    have z14 := e14.size
    have z17 := hS17.size
    have hsz17 := hE17.size
    have hm14 : mb < b14 := by omega
    have hb1014 : b10 < b14 := by have := hB16.lt; omega
    (refine jz ?_; refine jjD ?_)
    refine W.rangeM w.heap.size (allS (txF cs) side wd) encSl1 (slips1_slip bt' bc' a c cs wd side hs ht hc) rfl (fun _ => rfl) trivial hmk17 hsz17
      (fun i V => Ext w V ∧ w17.heap.size ≤ V.heap.size ∧ At V b10 0 [.map (some mb)] ∧ MapE encSl V mb m ∧ (At V bt' 0 [.slice a cs.length c] ∧ At V bc' 0 [.int .i64 wd, .int .u8 side]) ∧ ∃ v, Bk V b14 [v] 62 ∧ OwnL V w17.heap.size 43 true 3 v (((((allS (txF cs) side wd).take i).filter (fun s => !hasL ls s ls.length)).map (·.1)).map encPl))
      (fun _ _ _ => False) ?hJ2 (fun _ _ _ _ h _ => h) ?hF2 ?h02 (MB w17.heap.size b14) ?hW1 ?hW2 ?hW3 (fun x s' V => ∃ b, s' 10 = .pointer (some ⟨b10, 0, none⟩) ∧ s' 14 = .pointer (some ⟨b14, 0, none⟩) ∧ s' 15 = .pointer (some ⟨b, 0, none⟩) ∧ Bk V b (encSl x).cells.toList 53) (fun x s V V' ⟨b5, h1, h2, h2', h3⟩ g => ⟨b5, h1, h2, h2', h3.grow g⟩) ?hassign2 ?hbody2 ?hdone2 (fun _ _ _ _ _ _ _ h => h.elim)
    case hJ2 =>
      rintro i V V' ⟨h1, h2, k10, hm, ⟨kt, kc⟩, v, h3, h4⟩ g
      exact ⟨h1.ofGrow g hsz17, Nat.le_trans h2 g.size, k10.grow g, hm.grow g, ⟨kt.grow g, kc.grow g⟩, v, h3.grow g, h4.grow g⟩
    case hF2 =>
      rintro i V ⟨h1, h2, k10, hm, ⟨kt, kc⟩, v, h3, h4⟩
      exact ⟨kt, kc, hrow.h.ext h1, hT.ext h1, hgs.ext h1⟩
    case h02 => exact ⟨hE17, Nat.le_refl _, k10.ext e17, hm17, ⟨hA1', hA2'⟩, _, hB14, OwnL.nil _ _ _ _ _⟩
    case hW1 => exact fun i V k ⟨h1, h2, _, _, _, v, h3, h4⟩ h => MB.lt h2 h3 h4 h
    case hW2 => exact fun i V V' k ⟨h1, h2, _, _, _, v, h3, h4⟩ g h => MB.back h3 g h
    case hW3 => exact fun V V' k g h => .inl (MB.grow (by omega) g h)
    case hassign2 =>
      rintro l i x V hx ⟨h1, h2, k10, hm, ⟨kt, kc⟩, v, h3, h4⟩ hl hr
      (refine jjC ?_)
      (apply jjR rfl; (intro _; first|exact eI rfl|exact eB rfl|exact eP rfl|exact eS rfl|exact eT rfl|exact eA rfl|exact eU rfl|exact eF rfl|exact eM rfl|exact eN rfl|exact rfl); exact rfl; exact rfl; exact rfl; exact rfl; intro bx w_bx hb_bx hs_bx hS_bx hk_bx; have hA_bx := Bk.of hk_bx)
      (refine jz ?_)
      exact ⟨rfl, hS_bx.ext.tr, Fr.ofExt hS_bx.ext fun k hk => .inl (MB.same h3 (h3.ext hS_bx.ext) hk), ⟨h1.trans hS_bx.ext, by have := hS_bx.size; omega, k10.ext hS_bx.ext, hm.ext hS_bx.ext, ⟨kt.ext hS_bx.ext, kc.ext hS_bx.ext⟩, v, h3.ext hS_bx.ext, h4.ext hS_bx.ext⟩, bx, rfl, rfl, rfl, inferInstance⟩
    case hbody2 =>
      rintro l i x s' V hx ⟨h1, h2, k10, hm, ⟨kt, kc⟩, v, h3, h4⟩ ⟨bx, ha10, ha14, ha15, hbx⟩ hl hr
      have hlt := (List.getElem?_eq_some_iff.1 hx).1
      have hfl := List.length_filter_le (fun s => !hasL ls s ls.length) ((allS (txF cs) side wd).take i)
      rw [List.length_take] at hfl
      have hsn := filter_snoc (f := fun s => !hasL ls s ls.length) hx
      refine W.fix (d := 10) ha10 (W.fix (d := 14) ha14 (W.fix (d := 15) ha15 ?_))
      clear ha10 ha14 ha15
      have hbx' : At V bx 0 [.int .i64 x.1.1, .int .i64 x.1.2.1, .int .i64 x.1.2.2, .string x.2.1, .string x.2.2.1, .string x.2.2.2] := Bk.toAt (h := hbx)
      have hin : hasL (allS (txF cs) side wd) x (allS (txF cs) side wd).length = true := by
        rw [hasL, List.take_length, List.any_eq_true]; exact ⟨x, List.mem_of_getElem? hx, by simp⟩
      obtain ⟨B, hB⟩ : ∃ B, hasL ls x ls.length = B := ⟨_, rfl⟩
      rw [hB] at hsn
      have hlk := hS.look x
      simp only [hin, hB, Bool.true_and] at hlk
      (refine jjD ?_; refine jjB ?_; refine jjC ?_; refine jN rfl rfl rfl ?_; refine jO rfl rfl rfl rfl ?_)
      refine Ops.lookupV hlk hm rfl rfl ?_
      cases B with
      | true =>
        rw [show (!true) = false from rfl]
        (refine jz ?_; refine jjK rfl ?_; refine jjG ?_)
        refine ⟨.refl _, Fr.refl _ _, h1, h2, k10, hm, ⟨kt, kc⟩, v, h3, ?_⟩
        rw [hsn, if_neg (by simp), List.append_nil]; exact h4
      | false =>
        rw [show (!false) = true from rfl]
        (refine jz ?_; refine jjJ rfl ?_; refine jjC ?_; refine jN rfl rfl rfl ?_; refine jm ?_; refine jn rfl ?_; refine jO rfl rfl rfl rfl ?_)
        (refine jjP (v := .agg _) rfl (by exact rfl) (by exact rfl) (by exact rfl) (by exact rfl) ?_; intro b20 w_b20 hb_b20 hs_b20 hS_b20 hk_b20; have hR_b20 := RowV.one (agg := true) (k := 3) rfl hk_b20)
        have hR1 : RowV w_b20 true 3 (.slice (some ⟨b20, 0, none⟩) 1 1) [encPl x.1] := hR_b20
        have hz10 := hS_b20.size
        have h33 := h3
        refine Ops.appendL (h4.ext hS_b20.ext) (by omega) hR1 rfl rfl rfl rfl (one_pl x.1) ?_ ?_ ?_
        · rw [List.length_map, List.length_map]; simp only [List.length_cons, List.length_nil]; omega
        · rw [List.length_map, List.length_map]; simp only [List.length_cons, List.length_nil]; omega
        intro v2 V4 hA hO _ hown2
        obtain ⟨a2, c2', rfl⟩ := hO.slice
        have hbl : ∀ g, v.ownBlock = some g → w17.heap.size ≤ g := fun g hg => (h4.block g hg).1
        have hne : v.ownBlock ≠ some b14 := fun e => by have := hbl b14 e; omega
        have hB2 : Bk V4 b14 [v] 62 := hA.bk (h3.ext hS_b20.ext) hne
        skip
        refine Ops.store rfl rfl rfl rfl rfl ?_
        intro V5 hp5
        (refine jz ?_)
        have hl2 : (Value.slice a2 (((((allS (txF cs) side wd).take i).filter (fun s => !hasL ls s ls.length)).map (·.1)).map encPl ++ [encPl x.1]).length c2').ownBlock ≠ some b14 := fun e => by rcases hown2 with h | h <;> rw [h] at e; exact hne e; cases e; omega
        have hB3 : Bk V5 b14 [.slice a2 (((((allS (txF cs) side wd).take i).filter (fun s => !hasL ls s ls.length)).map (·.1)).map encPl ++ [encPl x.1]).length c2'] 62 := ⟨hp5.new⟩
        have e10 := hS_b20.ext
        have hnb : ∀ b, b < w17.heap.size → v.ownBlock ≠ some b := fun b h e => by have := hbl b e; omega
        have ht16 := hA1'.lt
        have hc16 := hA2'.lt
        have hmS := hm.lt
        have hm4 : MapE encSl V4 mb m := (hm.ext e10).app hA (hnb _ (by omega))
        refine ⟨(e10.tr.trans hA.tr).trans (hp5.tr ⟨_, hB2.h, rfl⟩), ?_, hp5.ext (hA.ext (h1.trans e10) hsz17) (by omega), ?_, hp5.at_ (hA.at_ (k10.ext e10) (hnb _ (by omega))) (by omega), hm4.put hp5 (by omega), ⟨hp5.at_ (hA.at_ (kt.ext e10) (hnb _ ht16)) (by omega), hp5.at_ (hA.at_ (kc.ext e10) (hnb _ hc16)) (by omega)⟩, _, hB3, ?_⟩
        · exact (Fr.ofExt e10 fun k hk => .inl (MB.same h3 (h3.ext e10) hk)).trans (MB.append (by omega) (h3.ext e10) hA hp5 hB3 hown2)
        · have := hA.g.size; rw [hp5.size]; omega
        · simp only [Bool.not_false, if_true] at hsn
          rw [hsn, List.map_append, List.map_append]
          exact hO.put hp5 hl2
    case hdone2 =>
      rintro ds' V hmk htr ⟨h1, h2, k10, hm, ⟨kt, kc⟩, v, h3, h4⟩
      obtain ⟨va, vl, vc, rfl⟩ := h4.slice3
      have := h3
      (refine jjB ?_; refine jjC ?_; refine jN rfl rfl rfl ?_; apply jJ; exact eS rfl; apply jJ; exact eI rfl; refine jz ?_; refine jjF ?_)
      refine fin2M rfl rfl rfl hmk fun w' g => ⟨h1.ofGrow g (Nat.le_refl _), ?_⟩
      rw [List.take_length] at h4
      exact ⟨_, rfl, (h4.grow g).mono hsz17⟩
end
end Go.Proofs.YtgnjjocafmofaaaGreatDoor

/- slip: Wrong; the reference: Wrong. -/
namespace Go.Proofs.YtgnjjocafmofaaaGreatDoor
open Go.RowKit

/-- What is wrong with a slip, and the error. -/
noncomputable def wrongR (t : Tx) (wd side : Int) (s : Slp) : Int × Int := if askE t wd side ≠ 0 then (0, askE t wd side) else if slipB s = false then (0, 31) else match makeF t side wd s.1 with
  | none => (1, 0)
  | some x => if x.2.1 ≠ s.2.1 then (2, 0) else if x.2.2.1 ≠ s.2.2.1 then (3, 0) else if x.2.2.2 ≠ s.2.2.2 then (4, 0) else (0, 0)
theorem wrongR_no {t : Tx} {wd side : Int} {s : Slp} (h : askE t wd side ≠ 0) : wrongR t wd side s = (0, askE t wd side) := by rw [wrongR, if_pos h]
theorem wrongR_bad {t : Tx} {wd side : Int} {s : Slp} (h : askE t wd side = 0) (h2 : slipB s = false) : wrongR t wd side s = (0, 31) := by rw [wrongR, if_neg (by simp [h]), if_pos h2]
theorem wrongR_none {t : Tx} {wd side : Int} {s : Slp} (h : askE t wd side = 0) (h2 : slipB s = true) (h3 : makeF t side wd s.1 = none) : wrongR t wd side s = (1, 0) := by rw [wrongR, if_neg (by simp [h]), if_neg (by simp [h2]), h3]
theorem wrongR_some {t : Tx} {wd side : Int} {s x : Slp} (h : askE t wd side = 0) (h2 : slipB s = true) (h3 : makeF t side wd s.1 = some x) : wrongR t wd side s = if x.2.1 ≠ s.2.1 then (2, 0) else if x.2.2.1 ≠ s.2.2.1 then (3, 0) else if x.2.2.2 ≠ s.2.2.2 then (4, 0) else (0, 0) := by rw [wrongR, if_neg (by simp [h]), if_neg (by simp [h2]), h3]
section
variable (a : Option Addr) (c : Nat) (cs : List Ch) (wd side : Int) (w : World) [hrow : RowI w (.slice a cs.length c) true 2 (cs.map encCh)] [hT : TextI w cs]
set_option maxHeartbeats 2000000 in
theorem Wrong_slip [hgs : At w 1 0 sidesC] [hmx : MxI w] (s : Slp) (hs : SmallT cs) (hd : 0 ≤ side ∧ side ≤ 255) (hss : SmallS s) : Ct Tryz.prog 30 [.agg #[.slice a cs.length c], encCut wd side, encSl s] w fun v _ => v = .tuple #[.int .u8 (wrongR (txF cs) wd side s).1, .int .i64 (wrongR (txF cs) wd side s).2] := by
  refine Ct.ofW (by simp) ?_
  (refine jjB ?_; refine jjC ?_)
  (refine jy rfl ?_; intro b3 w_b3 hb_b3 hs_b3 hS_b3 hk_b3; have hA_b3 := At.ofBlock hk_b3)
  skip
  (refine jy rfl ?_; intro b4 w_b4 hb_b4 hs_b4 hS_b4 hk_b4; have hA_b4 := At.ofBlock hk_b4)
  skip
  (refine jy rfl ?_; intro b5 w_b5 hb_b5 hs_b5 hS_b5 hk_b5; have hA_b5 := At.ofBlock hk_b5)
  (apply jJ; exact eI rfl; apply jJ; exact eI rfl; refine jz ?_; refine jjB ?_; refine jjB ?_; refine jjC ?_; refine jO rfl rfl rfl rfl ?_; refine jO rfl rfl rfl rfl ?_)
  obtain ⟨e, he⟩ : ∃ e, askE (txF cs) wd side = e := ⟨_, rfl⟩
  have h3 := askE_in (txF cs) wd side
  rw [he] at h3
  refine jjQ ((open_slip a c cs wd side _ hs hd).mono fun v _ _ h => h.trans (by rw [he])) rfl rfl ?_
  rintro _ w8 hS8 rfl
  by_cases h0 : e = 0
  rotate_left
  · (apply jJ; exact eI rfl; refine jz ?_; refine jjB ?_; refine jjC ?_; apply jI; exact eI rfl; refine jjj rfl rfl (by omega) ?_; refine jz ?_; refine jjJ rfl ?_; refine jjB ?_; refine jjC ?_; apply jI; exact eI rfl; apply jJ; exact eI rfl; apply jJ; exact eI rfl; refine jz ?_; refine jjF ?_; refine jC rfl rfl rfl ⟨inferInstance, ?_⟩)
    rw [wrongR_no (by rw [he]; exact h0), he]; exact rfl
  subst h0
  obtain ⟨ht, hc⟩ := askE_zero he
  obtain ⟨B, hB⟩ : ∃ B, slipB s = B := ⟨_, rfl⟩
  (apply jJ; exact eI rfl; refine jz ?_; refine jjB ?_; refine jjC ?_; apply jI; exact eI rfl; refine jjk rfl rfl (by omega) ?_; refine jz ?_; refine jjK rfl ?_; refine jjG ?_; refine jjB ?_; refine jjB ?_; refine jjC ?_; refine jO rfl rfl rfl rfl ?_)
  refine jjQ ((right_slip _ s hss).mono fun v _ _ h => h.trans (by rw [hB])) rfl rfl ?_
  rintro _ w9 hS9 rfl
  cases B with
  | false =>
    (refine jq rfl ?_; refine jz ?_; refine jjJ rfl ?_; refine jjB ?_; refine jjC ?_; apply jJ; exact eI rfl; apply jJ; exact eI rfl; refine jz ?_; refine jjF ?_; refine jC rfl rfl rfl ⟨inferInstance, ?_⟩)
    rw [wrongR_bad he hB]; exact rfl
  | true =>
  obtain ⟨o, ho⟩ : ∃ o, makeF (txF cs) side wd s.1 = o := ⟨_, rfl⟩
  (refine jp rfl ?_; refine jz ?_; refine jjK rfl ?_; refine jjG ?_; refine jjB ?_; refine jjC ?_; refine jO rfl rfl rfl rfl ?_; refine jO rfl rfl rfl rfl ?_; refine jm ?_; refine jn rfl ?_; refine jO rfl rfl rfl rfl ?_)
  refine jjQ ((made_slip a c cs wd side _ s.1 hs ht hc).mono fun v _ _ h => h.trans (by rw [ho])) rfl rfl ?_
  rintro _ wA hSA rfl
  cases o with
  | none =>
    (apply jI; exact eU rfl; refine ju rfl rfl ?_; refine ju rfl rfl ?_)
    (apply jjR rfl; (intro _; first|exact eI rfl|exact eB rfl|exact eP rfl|exact eS rfl|exact eT rfl|exact eA rfl|exact eU rfl|exact eF rfl|exact eM rfl|exact eN rfl|exact rfl); exact rfl; exact rfl; exact rfl; exact rfl; intro b9 w_b9 hb_b9 hs_b9 hS_b9 hk_b9; have hA_b9 := Bk.of hk_b9)
    (apply jJ; exact eB rfl; refine jz ?_; refine jjB ?_; refine jjD ?_; refine jjB ?_; refine jjC ?_; apply jI; exact eB rfl; refine jq rfl ?_; apply jJ; exact eB rfl; refine jz ?_; refine jjJ rfl ?_; refine jjB ?_; refine jjC ?_; apply jJ; exact eI rfl; apply jJ; exact eI rfl; refine jz ?_; refine jjF ?_; refine jC rfl rfl rfl ⟨inferInstance, ?_⟩)
    rw [wrongR_none he hB ho]; exact rfl
  | some x =>
  rw [wrongR_some he hB ho]
  have hu : Option.getD (some x) noSl = x := rfl
  rw [hu]
  (apply jI; exact eU rfl; refine ju rfl rfl ?_; refine ju rfl rfl ?_)
  (apply jjR rfl; (intro _; first|exact eI rfl|exact eB rfl|exact eP rfl|exact eS rfl|exact eT rfl|exact eA rfl|exact eU rfl|exact eF rfl|exact eM rfl|exact eN rfl|exact rfl); exact rfl; exact rfl; exact rfl; exact rfl; intro b9 w_b9 hb_b9 hs_b9 hS_b9 hk_b9; have hA_b9 := Bk.of hk_b9)
  (apply jJ; exact eB rfl; refine jz ?_; refine jjB ?_; refine jjD ?_; refine jjB ?_; refine jjC ?_; apply jI; exact eB rfl; refine jp rfl ?_; apply jJ; exact eB rfl; refine jz ?_; refine jjK rfl ?_; refine jjB ?_; refine jjC ?_; refine jm ?_; refine jn rfl ?_; refine jN rfl rfl rfl ?_; refine jm ?_; refine jn rfl ?_; refine jN rfl rfl rfl ?_)
  refine Ops.neqS rfl rfl ?_
  by_cases c1 : x.2.1 = s.2.1
  rotate_left
  · rw [decide_eq_true c1, if_pos c1]
    (apply jJ; exact eB rfl; refine jz ?_; refine jjJ rfl ?_; refine jjB ?_; refine jjC ?_; apply jJ; exact eI rfl; apply jJ; exact eI rfl; refine jz ?_; refine jjF ?_; refine jC rfl rfl rfl ⟨inferInstance, ?_⟩)
    exact rfl
  rw [decide_eq_false (fun h => h c1), if_neg (fun h => h c1)]
  (apply jJ; exact eB rfl; refine jz ?_; refine jjK rfl ?_; refine jjB ?_; refine jjC ?_; refine jm ?_; refine jn rfl ?_; refine jN rfl rfl rfl ?_; refine jm ?_; refine jn rfl ?_; refine jN rfl rfl rfl ?_)
  refine Ops.neqS rfl rfl ?_
  by_cases c2 : x.2.2.1 = s.2.2.1
  rotate_left
  · rw [decide_eq_true c2, if_pos c2]
    (apply jJ; exact eB rfl; refine jz ?_; refine jjJ rfl ?_; refine jjB ?_; refine jjC ?_; apply jJ; exact eI rfl; apply jJ; exact eI rfl; refine jz ?_; refine jjF ?_; refine jC rfl rfl rfl ⟨inferInstance, ?_⟩)
    exact rfl
  rw [decide_eq_false (fun h => h c2), if_neg (fun h => h c2)]
  (apply jJ; exact eB rfl; refine jz ?_; refine jjK rfl ?_; refine jjB ?_; refine jjC ?_; refine jm ?_; refine jn rfl ?_; refine jN rfl rfl rfl ?_; refine jm ?_; refine jn rfl ?_; refine jN rfl rfl rfl ?_)
  refine Ops.neqS rfl rfl ?_
  by_cases c3 : x.2.2.2 = s.2.2.2
  rotate_left
  · rw [decide_eq_true c3, if_pos c3]
    (apply jJ; exact eB rfl; refine jz ?_; refine jjJ rfl ?_; refine jjB ?_; refine jjC ?_; apply jJ; exact eI rfl; apply jJ; exact eI rfl; refine jz ?_; refine jjF ?_; refine jC rfl rfl rfl ⟨inferInstance, ?_⟩)
    exact rfl
  rw [decide_eq_false (fun h => h c3), if_neg (fun h => h c3)]
  (apply jJ; exact eB rfl; refine jz ?_; refine jjK rfl ?_; refine jjG ?_; refine jjB ?_; refine jjC ?_; apply jJ; exact eI rfl; apply jJ; exact eI rfl; refine jz ?_; refine jjF ?_; refine jC rfl rfl rfl ⟨inferInstance, ?_⟩)
  exact rfl
end
end Go.Proofs.YtgnjjocafmofaaaGreatDoor

/- Plain law: all slips of a text: no one is there twice, none is missing. -/
namespace Go.Proofs.YtgnjjocafmofaaaGreatDoor
open Go.RowKit

theorem nd_inj {α : Type} {l : List α} (h : l.Nodup) {i j : Nat} (hi : i < l.length) (hj : j < l.length) (e : l[i] = l[j]) : i = j := nodup_inj h (List.getElem?_eq_getElem hi) (by rw [List.getElem?_eq_getElem hj, ← e])
section
variable {t : Tx} {wd side : Int}
theorem allS_mem {s : Slp} (h : s ∈ allS t side wd) : makeF t side wd s.1 = some s ∧ s.1 ∈ allP t t.length := by
  obtain ⟨p, hp, rfl⟩ := List.mem_map.1 h
  rw [slP_at]
  exact ⟨makeF_mem hp (Nat.le_refl _), hp⟩
theorem allS_right (ht : textB t = true) (hc : cutB wd side = true) {s : Slp} (h : s ∈ allS t side wd) : slipB s = true := (make_right ht hc (allS_mem h).1).1
theorem allS_fst : (allS t side wd).map (·.1) = allP t t.length := by
  rw [allS, List.map_map]
  exact (List.map_congr_left fun p _ => slP_at t side wd p).trans (List.map_id _)
theorem allS_nodup : (allS t side wd).Nodup := by
  have h := sorted_nodup (allP_sorted t t.length)
  rw [← allS_fst (side := side) (wd := wd)] at h
  exact List.Pairwise.imp (fun hne e => hne (by rw [e])) (List.pairwise_map.1 h)
theorem allS_get {i : Nat} (hi : i < (allS t side wd).length) : (allS t side wd)[i].1 = (allP t t.length)[i]'(by rw [allS, List.length_map] at hi; exact hi) := by
  simp [allS, slP_at]
end
theorem mem_hasL {ls : List Slp} {x : Slp} : hasL ls x ls.length = true ↔ x ∈ ls := by
  rw [hasL, List.take_length, List.any_eq_true]
  constructor
  · rintro ⟨y, hy, e⟩; rw [← of_decide_eq_true e]; exact hy
  · intro h; exact ⟨x, h, decide_eq_true rfl⟩
theorem missF_none {t : Tx} {wd side : Int} {ls : List Slp} (h : ∀ s ∈ allS t side wd, s ∈ ls) : missF t wd side ls = [] := by
  rw [missF, List.filter_eq_nil_iff.2 fun s hs => by simp [mem_hasL.2 (h s hs)]]; rfl
/-- Without one of them that one is missing. -/
theorem filter_one {α : Type} {l : List α} {f : α → Bool} {k : Nat} (hk : k < l.length) (h1 : f l[k] = true) (h2 : ∀ (j : Nat) (hj : j < l.length), j ≠ k → f l[j] = false) : l.filter f = [l[k]] := by
  have e : l = l.take k ++ (l[k] :: l.drop (k + 1)) := by
    rw [← List.drop_eq_getElem_cons hk, List.take_append_drop]
  have f1 : (l.take k).filter f = [] := by
    rw [List.filter_eq_nil_iff]
    intro z hz
    obtain ⟨j, hj, rfl⟩ := List.mem_iff_getElem.1 hz
    rw [List.length_take] at hj
    rw [List.getElem_take, h2 j (by omega) (by omega)]; simp
  have f2 : (l.drop (k + 1)).filter f = [] := by
    rw [List.filter_eq_nil_iff]
    intro z hz
    obtain ⟨j, hj, rfl⟩ := List.mem_iff_getElem.1 hz
    rw [List.length_drop] at hj
    rw [List.getElem_drop, h2 _ (by omega) (by omega)]; simp
  conv => lhs; rw [e]
  rw [List.filter_append, f1, List.filter_cons_of_pos h1, f2]; rfl
theorem missF_one {t : Tx} {wd side : Int} {k : Nat} (hk : k < (allS t side wd).length) : missF t wd side ((allS t side wd).take k ++ (allS t side wd).drop (k + 1)) = [(allS t side wd)[k].1] := by
  have hn := allS_nodup (t := t) (wd := wd) (side := side)
  rw [missF]
  generalize allS t side wd = l at *
  rw [filter_one hk ?_ ?_]
  · rfl
  · have : l[k] ∉ l.take k ++ l.drop (k + 1) := fun hm => by
      rcases List.mem_append.1 hm with hm | hm
      · obtain ⟨j, hj, e⟩ := List.mem_iff_getElem.1 hm
        rw [List.length_take] at hj
        rw [List.getElem_take] at e
        have := nd_inj hn (by omega) (by omega) e; omega
      · obtain ⟨j, hj, e⟩ := List.mem_iff_getElem.1 hm
        rw [List.length_drop] at hj
        rw [List.getElem_drop] at e
        have := nd_inj hn (by omega) (by omega) e; omega
    cases h : hasL (l.take k ++ l.drop (k + 1)) l[k] (l.take k ++ l.drop (k + 1)).length with
    | false => rfl
    | true => exact absurd (mem_hasL.1 h) this
  · intro j hj hne
    have : l[j] ∈ l.take k ++ l.drop (k + 1) := by
      rw [List.mem_append]
      rcases Nat.lt_or_gt_of_ne hne with h | h
      · left; exact List.mem_iff_getElem.2 ⟨j, by rw [List.length_take]; omega, by rw [List.getElem_take]⟩
      · right; exact List.mem_iff_getElem.2 ⟨j - (k + 1), by rw [List.length_drop]; omega, by rw [List.getElem_drop]; congr 1; omega⟩
    rw [mem_hasL.2 this]; rfl
theorem hasB_iff {ls : List Slp} {i : Nat} (hi : i < ls.length) : hasB ls i = true ↔ ∃ j, ∃ (h : j < i), ls[j]'(by omega) = ls[i] := by
  have hg : ls.getD i noSl = ls[i] := by rw [List.getD_eq_getElem?_getD, List.getElem?_eq_getElem hi, Option.getD_some]
  rw [hasB, hg, List.any_eq_true]
  constructor
  · rintro ⟨y, hy, e⟩
    obtain ⟨j, hj, rfl⟩ := List.mem_iff_getElem.1 hy
    rw [List.length_take] at hj
    exact ⟨j, by omega, by rw [← of_decide_eq_true e, List.getElem_take]⟩
  · rintro ⟨j, hj, e⟩
    exact ⟨ls[j], List.mem_iff_getElem.2 ⟨j, by rw [List.length_take]; omega, by rw [List.getElem_take]⟩, decide_eq_true e⟩
theorem idxI_nil {p : Nat → Bool} {n : Nat} (h : ∀ i, i < n → p i = false) : idxI p n = [] := by
  rw [idxI, List.filter_eq_nil_iff.2 fun i hi => by simp [h i (by simpa using hi)]]; rfl
theorem twice_none {ls : List Slp} (h : ls.Nodup) : idxI (hasB ls) ls.length = [] := idxI_nil fun i hi => by
  cases hb : hasB ls i with
  | false => rfl
  | true =>
    obtain ⟨j, hj, e⟩ := (hasB_iff hi).1 hb
    have := nd_inj h (by omega) (by omega) e; omega
theorem twice_one {ls : List Slp} (h : ls.Nodup) {x : Slp} (hx : x ∈ ls) : idxI (hasB (ls ++ [x])) (ls ++ [x]).length = [(ls.length : Int)] := by
  rw [List.length_append, List.length_singleton, idxI_succ]
  have h1 : idxI (hasB (ls ++ [x])) ls.length = [] := idxI_nil fun i hi => by
    cases hb : hasB (ls ++ [x]) i with
    | false => rfl
    | true =>
      obtain ⟨j, hj, e⟩ := (hasB_iff (by rw [List.length_append]; omega)).1 hb
      rw [List.getElem_append_left (by omega), List.getElem_append_left (by omega)] at e
      have := nd_inj h (by omega) (by omega) e; omega
  have h2 : hasB (ls ++ [x]) ls.length = true := by
    obtain ⟨j, hj, e⟩ := List.mem_iff_getElem.1 hx
    exact (hasB_iff (by rw [List.length_append]; simp)).2 ⟨j, hj, by rw [List.getElem_append_left hj, e]; simp⟩
  rw [h1, h2]; rfl
theorem listE_ok {ls : List Slp} (h : ls.length ≤ 700) (h2 : ∀ s ∈ ls, slipB s = true) : listE ls = 0 := by
  rw [listE, if_neg (by omega), List.all_eq_true.2 h2]; rfl
/-- Nothing is wrong with a slip of a text. -/
theorem wrong_own {t : Tx} (ht : textB t = true) {wd side : Int} (hc : cutB wd side = true) {s : Slp} (h : s ∈ allS t side wd) (ha : askE t wd side = 0) : wrongR t wd side s = (0, 0) := by
  rw [wrongR_some ha (allS_right ht hc h) (allS_mem h).1]; simp
end Go.Proofs.YtgnjjocafmofaaaGreatDoor

/- Plain law: all places of a text with their words, in order. -/
namespace Go.Proofs.YtgnjjocafmofaaaGreatDoor
open Go.RowKit

theorem flat_get3 {α : Type} {f : Nat → List α} {q m r : Nat} {x : α} (hq : q < m) (h : (f q)[r]? = some x) : ((List.range m).flatMap f)[((List.range q).flatMap f).length + r]? = some x := by
  obtain ⟨s, hs⟩ := range_split hq
  rw [hs, List.flatMap_append, List.flatMap_cons, List.getElem?_append_right (by omega), Nat.add_sub_cancel_left, List.getElem?_append_left (List.getElem?_eq_some_iff.1 h).1, h]
theorem flat_at {α : Type} {x : List (List α)} {n w : Nat} (hn : n < x.length) (hw : w < x[n].length) : x.flatten[(x.take n).flatten.length + w]? = some x[n][w] := by
  have e : x = x.take n ++ (x[n] :: x.drop (n + 1)) := by rw [← List.drop_eq_getElem_cons hn, List.take_append_drop]
  conv => lhs; rw [e]
  rw [List.flatten_append, List.flatten_cons]
  have hl : ((x.take n ++ (x[n] :: x.drop (n + 1))).take n).flatten.length = (x.take n).flatten.length := by rw [← e]
  rw [hl, List.getElem?_append_right (by omega), Nat.add_sub_cancel_left, List.getElem?_append_left hw, List.getElem?_eq_getElem hw]
theorem lnPs_len (k : Nat) (x : List (List ByteArray)) : ∀ n, n ≤ x.length → ((List.range n).flatMap fun i => lnP k i (x.getD i []).length).length = (x.take n).flatten.length
  | 0, _ => by simp
  | n + 1, h => by
    have hg : x.getD n [] = x[n] := by rw [List.getD_eq_getElem?_getD, List.getElem?_eq_getElem (by omega), Option.getD_some]
    rw [List.range_succ, List.flatMap_append, List.length_append, lnPs_len k x n (by omega), take_snoc_get (List.getElem?_eq_getElem (show n < x.length by omega)), List.flatten_append, List.length_append]
    simp [lnP, List.getElem?_eq_getElem (show n < x.length by omega)]
theorem runA_at {k : Nat} {x : List (List ByteArray)} {n w : Nat} (hn : n < x.length) (hw : w < x[n].length) : (runA k x)[(x.take n).flatten.length + w]? = some ((k : Int), (n : Int), (w : Int)) := by
  have hg : x.getD n [] = x[n] := by rw [List.getD_eq_getElem?_getD, List.getElem?_eq_getElem hn, Option.getD_some]
  rw [← lnPs_len k x n (by omega), runA, runAn]
  refine flat_get3 hn ?_
  rw [hg, lnP, List.getElem?_map, List.getElem?_range hw]; rfl
theorem allW_len (t : Tx) (n : Nat) : (allW t n).length = (allP t n).length := by
  induction n with
  | zero => rfl
  | succ n ih =>
    rw [allP_succ, List.length_append, ← ih, allW, allW, List.range_succ, List.flatMap_append, List.length_append]
    simp [List.length_zip, runA_len]
theorem allW_fst (t : Tx) (n : Nat) : (allW t n).map (·.1) = allP t n := by
  rw [allW, allP, List.map_flatMap]
  congr 1
  funext k
  rw [List.map_fst_zip]
  rw [runA_len]; exact Nat.le_refl _
theorem allW_at {t : Tx} {k n w : Nat} (hk : k < t.length) (hn : n < (wsT t k).length) (hw : w < (wsT t k)[n].length) : (allW t t.length)[(allW t k).length + (((wsT t k).take n).flatten.length + w)]? = some (((k : Int), (n : Int), (w : Int)), (wsT t k)[n][w]) := by
  rw [allW]
  refine flat_get3 (f := fun k => (runA k (wsT t k)).zip (wsT t k).flatten) hk ?_
  rw [List.getElem?_zip_eq_some]
  exact ⟨runA_at hn hw, flat_at hn hw⟩
theorem allW_succ (t : Tx) (k : Nat) : (allW t (k + 1)).length = (allW t k).length + (wsT t k).flatten.length := by
  rw [allW_len, allW_len, allP_succ, List.length_append, runA_len]
theorem flat_len_succ {α : Type} {x : List (List α)} {n : Nat} (hn : n < x.length) : (x.take (n + 1)).flatten.length = (x.take n).flatten.length + x[n].length := by
  rw [take_snoc_get (List.getElem?_eq_getElem hn), List.flatten_append, List.length_append]; simp
/-- The words of places. -/
theorem allW_word {t : Tx} {i : Nat} {p : Pl} {s : ByteArray} (h : (allW t t.length)[i]? = some (p, s)) : ∃ k n w : Nat, ∃ (hk : k < t.length) (hn : n < t[k].2.length) (hw : w < t[k].2[n].length), p = ((k : Int), (n : Int), (w : Int)) ∧ s = t[k].2[n][w] := by
  have hm := List.mem_of_getElem? h
  obtain ⟨k, hk, hz⟩ := List.mem_flatMap.1 hm
  rw [List.mem_range] at hk
  have hws : wsT t k = t[k].2 := by rw [wsT, List.getD_eq_getElem?_getD, List.getElem?_eq_getElem hk, Option.getD_some]
  obtain ⟨j, hj, e⟩ := List.mem_iff_getElem.1 hz
  have e' : ((runA k (wsT t k)).zip (wsT t k).flatten)[j]? = some (p, s) := by rw [List.getElem?_eq_getElem hj, e]
  rw [List.getElem?_zip_eq_some] at e'
  obtain ⟨n, w, hn, hw, hp⟩ := mem_runA.1 (List.mem_of_getElem? e'.1)
  have h1 := runA_at (k := k) hn hw
  subst hp
  have hji : j = ((wsT t k).take n).flatten.length + w := nodup_inj (runA_nodup k (wsT t k)) e'.1 h1
  have h2 := flat_at hn hw
  rw [← hji, e'.2] at h2
  simp only [hws] at hn hw h2
  exact ⟨k, n, w, hk, hn, hw, rfl, by simpa using h2⟩
end Go.Proofs.YtgnjjocafmofaaaGreatDoor

/- The examples of the slips' chapter: what the plain functions answer there. -/
namespace Go.Proofs.YtgnjjocafmofaaaGreatDoor
open Go.RowKit

abbrev wThe : ByteArray := ⟨#[116, 104, 101]⟩
abbrev wSea : ByteArray := ⟨#[115, 101, 97]⟩
abbrev wIs : ByteArray := ⟨#[105, 115]⟩
abbrev wOld : ByteArray := ⟨#[111, 108, 100]⟩
abbrev wAnd : ByteArray := ⟨#[97, 110, 100]⟩
abbrev wNo : ByteArray := ⟨#[]⟩
abbrev wIsOld : ByteArray := ⟨#[105, 115, 32, 111, 108, 100]⟩
abbrev wOldOld : ByteArray := ⟨#[111, 108, 100, 32, 111, 108, 100]⟩
abbrev wSeaIsOld : ByteArray := ⟨#[115, 101, 97, 32, 105, 115, 32, 111, 108, 100]⟩
abbrev wA : ByteArray := ⟨#[97]⟩
abbrev wB : ByteArray := ⟨#[98]⟩
def seaT : Tx := [(7, [[wThe, wSea, wIs, wOld], [wOld, wThe, wSea]]), (3, [[wSea, wAnd, wSea]])]
theorem sea_valid : textB seaT = true := by kernel_rfl
theorem sea_all : allP seaT seaT.length = [(0, 0, 0), (0, 0, 1), (0, 0, 2), (0, 0, 3), (0, 1, 0), (0, 1, 1), (0, 1, 2), (1, 0, 0), (1, 0, 1), (1, 0, 2)] := by kernel_rfl
theorem sea_ask1 : askE seaT 14 1 = 0 := by kernel_rfl
theorem sea_ask2 : askE seaT 14 2 = 0 := by kernel_rfl
theorem sea_ask3 : askE seaT 14 3 = 0 := by kernel_rfl
theorem make_at {t : Tx} {wd side : Int} {p : Pl} {s : Slp} {k i : Nat} (ha : askE t wd side = 0) (hk : k < t.length) (hi : (runA k (wsT t k))[i]? = some p) (hs : slipX (wsT t k).flatten side wd i p = s) : makeR t wd side p = (s, 0) := by
  rw [makeR_some ha (makeF_yes hk hi), hs]
theorem sea_m002 : makeR seaT 14 3 (0, 0, 2) = (((0, 0, 2), wIs, wSea, wOldOld), 0) := make_at (k := 0) (i := 2) sea_ask3 (by decide) (by kernel_rfl) (by kernel_rfl)
theorem sea_m010l : makeR seaT 14 1 (0, 1, 0) = (((0, 1, 0), wOld, wSeaIsOld, wNo), 0) := make_at (k := 0) (i := 4) sea_ask1 (by decide) (by kernel_rfl) (by kernel_rfl)
theorem sea_m001 : makeR seaT 14 3 (0, 0, 1) = (((0, 0, 1), wSea, wThe, wIsOld), 0) := make_at (k := 0) (i := 1) sea_ask3 (by decide) (by kernel_rfl) (by kernel_rfl)
theorem sea_m010r : makeR seaT 14 2 (0, 1, 0) = (((0, 1, 0), wOld, wIsOld, wThe), 0) := make_at (k := 0) (i := 4) sea_ask2 (by decide) (by kernel_rfl) (by kernel_rfl)
theorem sea_m010e : makeR seaT 14 3 (0, 1, 0) = (((0, 1, 0), wOld, wIsOld, wThe), 0) := make_at (k := 0) (i := 4) sea_ask3 (by decide) (by kernel_rfl) (by kernel_rfl)
theorem sea_allR : (allR seaT 14 3).length = 10 := by
  rw [allR, if_pos sea_ask3, allS, List.length_map, sea_all]; rfl
theorem sea_part : partR seaT 14 3 (0, 1, 2) (1, 0, 0) = (((allS seaT 3 14).take 8).drop 6, 0) := by
  have h := part_seg sea_ask3 (x := 6) (y := 7) (by rw [sea_all]; decide) (by rw [sea_all]; decide) (by decide)
  have e6 : (allP seaT seaT.length)[6]'(by rw [sea_all]; decide) = (0, 1, 2) := by simp only [sea_all]; rfl
  have e7 : (allP seaT seaT.length)[7]'(by rw [sea_all]; decide) = (1, 0, 0) := by simp only [sea_all]; rfl
  rw [e6, e7] at h; exact h
theorem sea_len : (allS seaT 3 14).length = 10 := by rw [allS, List.length_map, sea_all]; rfl
theorem sea_where : whereR seaT ((0, 0, 0), wSea, wThe, wNo) = ([(0, 0, 1), (0, 1, 2)], 0) := by kernel_rfl
theorem filter_notin {l : List Slp} (hn : l.Nodup) {a b : Nat} (hab : a ≤ b) (hb : b ≤ l.length) : ((l.filter fun s => !hasL ((l.take b).drop a) s ((l.take b).drop a).length)).length = l.length - (b - a) := by
  have e : l = l.take a ++ ((l.take b).drop a ++ l.drop b) := by
    have h1 := List.take_append_drop a (l.take b)
    rw [List.take_take, Nat.min_eq_left hab] at h1
    rw [← List.append_assoc, h1, List.take_append_drop]
  have f1 : (l.take a).filter (fun s => !hasL ((l.take b).drop a) s ((l.take b).drop a).length) = l.take a := by
    rw [List.filter_eq_self]
    intro z hz
    obtain ⟨j, hj, rfl⟩ := List.mem_iff_getElem.1 hz
    rw [List.length_take] at hj
    rw [Bool.not_eq_true', ← Bool.not_eq_true, mem_hasL]
    intro hm
    obtain ⟨i, hi, e⟩ := List.mem_iff_getElem.1 hm
    rw [List.length_drop, List.length_take] at hi
    rw [List.getElem_drop, List.getElem_take, List.getElem_take] at e
    have := nd_inj hn (by omega) (by omega) e; omega
  have f2 : ((l.take b).drop a).filter (fun s => !hasL ((l.take b).drop a) s ((l.take b).drop a).length) = [] := by
    rw [List.filter_eq_nil_iff]
    intro z hz
    rw [mem_hasL.2 hz]; simp
  have f3 : (l.drop b).filter (fun s => !hasL ((l.take b).drop a) s ((l.take b).drop a).length) = l.drop b := by
    rw [List.filter_eq_self]
    intro z hz
    obtain ⟨j, hj, rfl⟩ := List.mem_iff_getElem.1 hz
    rw [List.length_drop] at hj
    rw [Bool.not_eq_true', ← Bool.not_eq_true, mem_hasL]
    intro hm
    obtain ⟨i, hi, e⟩ := List.mem_iff_getElem.1 hm
    rw [List.length_drop, List.length_take] at hi
    rw [List.getElem_drop, List.getElem_drop, List.getElem_take] at e
    have := nd_inj hn (by omega) (by omega) e; omega
  generalize hF : (fun s => !hasL ((l.take b).drop a) s ((l.take b).drop a).length) = F at *
  have hlen : (l.filter F).length = (l.take a).length + (l.drop b).length := by
    conv => lhs; rw [e]
    rw [List.filter_append, List.filter_append, f1, f2, f3, List.length_append, List.length_append]; simp
  rw [hlen, List.length_take, List.length_drop]; omega
theorem sea_right : ∀ s ∈ ((allS seaT 3 14).take 8).drop 6, slipB s = true := fun s hs => allS_right sea_valid (by kernel_rfl) (List.mem_of_mem_take (List.mem_of_mem_drop hs))
theorem sea_miss : (missR seaT 14 3 (((allS seaT 3 14).take 8).drop 6)).1.length = 8 ∧ (missR seaT 14 3 (((allS seaT 3 14).take 8).drop 6)).2 = 0 := by
  have hl : (((allS seaT 3 14).take 8).drop 6).length ≤ 700 := by rw [List.length_drop, List.length_take, sea_len]; decide
  rw [missR_yes sea_ask3 (listE_ok hl sea_right), missF]
  refine ⟨?_, rfl⟩
  have := filter_notin (l := allS seaT 3 14) allS_nodup (a := 6) (b := 8) (by decide) (by rw [sea_len]; decide)
  rw [List.length_map, this, sea_len]
theorem sea_wrong : wrongR seaT 14 3 ((0, 0, 2), wIs, wSea, wOld) = (4, 0) := by
  rw [wrongR_some sea_ask3 (by kernel_rfl) (makeF_yes (k := 0) (i := 2) (by decide) (by kernel_rfl)), show slipX (wsT seaT 0).flatten 3 14 2 (0, 0, 2) = ((0, 0, 2), wIs, wSea, wOldOld) by kernel_rfl]
  decide
theorem sea_twice : twiceR [((0, 0, 0), wA, wNo, wNo), ((0, 0, 0), wA, wNo, wNo)] = ([1], 0) := by kernel_rfl
theorem sea_order : ordR ((0, 0, 0), wA, wNo, wNo) ((0, 0, 0), wB, wNo, wNo) = (-1, 0) := by kernel_rfl
end Go.Proofs.YtgnjjocafmofaaaGreatDoor

/- The proof engine, part 28: literals of slices of however many elements. -/
namespace Go.Proofs.YtgnjjocafmofaaaGreatDoor
open Go.RowKit

/-- Zero cells of so many elements. -/
def zeroL (z : Value) (m : Nat) : List Value := (List.range m).map fun i => z.cells[i % z.cells.size]!
section rules
variable {P : Program} {ro : Option Nat} {n : Nat} {all rest : List Oper} {K : Sl → World → Prop} {s : Sl} {w : World} {d : Nat} {ty : Nat} {pos : String} {af : Array Edge} {t e : Nat}
theorem Ops.buildSliceF {len size bytes : Nat} {z : Value} {parts : Array (Nat × Operand)} {cells : List Value} [ht : TSl P t e] [hz : TS P e z size bytes] (h0 : Nat.blt 0 (len * size) = true) (h1 : Nat.blt (len * size) 10000 = true)
    (hf : fillL (fun i => some (i * size, size)) (zeroL z (len * size)) (parts.toList.map fun (i, x) => (i, ev n s x)) = some cells)
    (h : ∀ b w', b = w.heap.size → w'.heap.size = w.heap.size + 1 → Step w w' → Bk w' b cells e → Ops P ro n all rest K (upd s d (.slice (some ⟨b, 0, none⟩) len len)) w') :
    Ops P ro n all (⟨some d, .buildSlice t len parts, ty, pos, af, none⟩ :: rest) K s w := by
  have h0' : 0 < len * size := by simpa using h0
  have h1' : len * size < 10000 := by simpa using h1
  have hf2 := fillL_eq _ _ _ _ hf
  have e1 : (zeroL z (len * size)).toArray = (Array.range (len * size)).map (z.cells[· % z.cells.size]!) := by
    apply Array.ext'
    simp [zeroL]
  rw [e1] at hf2
  have e2 : (parts.map fun (p : Nat × Operand) => (p.1, ev n s p.2)).toList = parts.toList.map fun (i, x) => (i, ev n s x) := by simp
  refine Ops.ofRun (w' := w.alloc (.cells cells.toArray e)) rfl ?_ (h w.heap.size _ rfl (by simp) ⟨(Below.refl _ w).alloc (Nat.le_refl _) _⟩ (Bk.of (World.alloc_heap_new w _)))
  have hne : ¬ len * size = 0 := by omega
  have hbig : ¬ (16777216 < len * size) := by omega
  simp only [execOp, Instr.buildSlice, Sem.run_bind, run_underlying ht.h, run_sizeOf' w hz, Result.andThen_ok]
  simp [hbig, run_zeroValue' w hz, newRow]
  have hf3 : Instr.fill (fun i => some (i * size, size)) (Array.map (fun x => z.cells[x % z.cells.size]!) (Array.range (len * size))) (parts.toList.map fun p => (p.1, ev n s p.2)) = some cells.toArray := hf2
  simp [hf3]
  intro hc; exact absurd hc hne
end rules
/-- What such a literal reads as. -/
theorem Bk.rows {w : World} {b e k : Nat} {agg : Bool} {xs : List Value} (h : Bk w b (xs.flatMap (·.cells.toList)) e) (hf : ∀ x ∈ xs, fitsV agg k x = true) (hl : xs.length ≤ 140737488355328) : RowV w agg k (.slice (some ⟨b, 0, none⟩) xs.length xs.length) xs := by
  refine ⟨hl, hf, .inr ⟨b, 0, xs.length, rfl, Nat.le_refl _, fun j x hx => ⟨fun i v hv => ?_⟩⟩⟩
  have := flat_get (k := k) (xs := xs) (fun y hy => fitsV_cells (hf y hy)) hx hv
  have hc := (Bk.toAt (h := h)).h _ _ this
  rw [show 0 + j * k + i = 0 + (j * k + i) by omega]; exact hc
end Go.Proofs.YtgnjjocafmofaaaGreatDoor

/- The statements' examples: places, cuts, the text and its copy. -/
namespace Go.Proofs.YtgnjjocafmofaaaGreatDoor
open Go.RowKit

theorem at_law3 (k n q : Int) (w : World) : Ct Tryz.prog 23 [.int .i64 k, .int .i64 n, .int .i64 q] w fun v _ => v = encPl (k, n, q) := by
  refine Ct.ofW (by simp) ?_
  (((refine jjB ?_; refine jjC ?_)); refine jjY ?_; intro b6 w_b6 hb_b6 hs_b6 hS_b6 hk_b6; have hA_b6 := Bk.of hk_b6)
  (refine jz ?_; refine jjB ?_; refine jjC ?_; apply jI; exact eI rfl; apply jI; exact eI rfl; apply jI; exact eI rfl)
  (refine jjS (cells := [.int .i64 k, .int .i64 n, .int .i64 q]) ?_ ?_; exact rfl)
  skip
  refine Ops.store rfl rfl rfl rfl rfl ?_
  intro V2 hp2
  have := Bk.toAt (h := Bk.of hp2.new)
  (refine jz ?_; refine jjF ?_)
  exact fin1C rfl rfl rfl rfl rfl ⟨hp2.ext hS_b6.ext (by omega), rfl⟩
theorem cut_law3 (side : Int) (w : World) : Ct Tryz.prog 28 [.int .u8 side] w fun v _ => v = encCut 14 side := by
  refine Ct.ofW (by simp) ?_
  (((refine jjB ?_; refine jjC ?_)); refine jjY ?_; intro b2 w_b2 hb_b2 hs_b2 hS_b2 hk_b2; have hA_b2 := Bk.of hk_b2)
  (refine jz ?_; refine jjB ?_; refine jjC ?_; apply jI; exact eI rfl)
  (refine jjS (cells := [.int .i64 14, .int .u8 side]) ?_ ?_; exact rfl)
  skip
  refine Ops.store rfl rfl rfl rfl rfl ?_
  intro V2 hp2
  have := Bk.toAt (h := Bk.of hp2.new)
  (refine jz ?_; refine jjF ?_)
  exact fin1C rfl rfl rfl rfl rfl ⟨hp2.ext hS_b2.ext (by omega), rfl⟩
theorem strs_fit (l : List ByteArray) : ∀ x ∈ l.map strV, fitsV false 1 x = true := fun x hx => by
  obtain ⟨y, _, rfl⟩ := List.mem_map.1 hx; rfl
theorem lns_fit (l : List Ln) : ∀ x ∈ l.map encLn, fitsV false 1 x = true := fun x hx => by
  obtain ⟨y, _, rfl⟩ := List.mem_map.1 hx; rfl
set_option maxHeartbeats 1000000 in
theorem sea_law3 (w : World) : Ct Tryz.prog 24 [] w fun v w' => ∃ a c cs, v = .agg #[.slice a cs.length c] ∧ RowV w' true 2 (.slice a cs.length c) (cs.map encCh) ∧ TextI w' cs ∧ txF cs = seaT := by
  refine Ct.ofW (by simp) ?_
  (((refine jjB ?_; refine jjC ?_)); refine jjY ?_; intro b0 w_b0 hb_b0 hs_b0 hS_b0 hk_b0; have hA_b0 := Bk.of hk_b0)
  (refine jz ?_; refine jjB ?_; refine jjC ?_)
  refine Ops.buildSliceF (cells := [strV wThe, strV wSea, strV wIs, strV wOld]) rfl rfl rfl ?_
  intro b1 w1 hb1 hs1 hS1 hk1
  refine Ops.buildSliceF (cells := [strV wOld, strV wThe, strV wSea]) rfl rfl rfl ?_
  intro b2 w2 hb2 hs2 hS2 hk2
  refine Ops.buildSliceF (cells := [.slice (some ⟨b1, 0, none⟩) 4 4, .slice (some ⟨b2, 0, none⟩) 3 3]) rfl rfl rfl ?_
  intro b3 w3 hb3 hs3 hS3 hk3
  (refine jjS (cells := [.int .i64 7, .slice (some ⟨b3, 0, none⟩) 2 2]) ?_ ?_; exact rfl)
  refine Ops.buildSliceF (cells := [strV wSea, strV wAnd, strV wSea]) rfl rfl rfl ?_
  intro b5 w5 hb5 hs5 hS5 hk5
  refine Ops.buildSliceF (cells := [.slice (some ⟨b5, 0, none⟩) 3 3]) rfl rfl rfl ?_
  intro b6 w6 hb6 hs6 hS6 hk6
  (refine jjS (cells := [.int .i64 3, .slice (some ⟨b6, 0, none⟩) 1 1]) ?_ ?_; exact rfl)
  refine Ops.buildSliceF (cells := [.int .i64 7, .slice (some ⟨b3, 0, none⟩) 2 2, .int .i64 3, .slice (some ⟨b6, 0, none⟩) 1 1]) rfl rfl rfl ?_
  intro b8 w8 hb8 hs8 hS8 hk8
  (refine jjS (cells := [.slice (some ⟨b8, 0, none⟩) 2 2]) ?_ ?_; exact rfl)
  have hb0 : Bk w8 b0 [.slice none 0 0] 24 := inferInstance
  have hE8 : Ext w w8 := inferInstance
  have k1 : Bk w8 b1 [strV wThe, strV wSea, strV wIs, strV wOld] 9 := inferInstance
  have k2 : Bk w8 b2 [strV wOld, strV wThe, strV wSea] 9 := inferInstance
  have k3 : Bk w8 b3 [.slice (some ⟨b1, 0, none⟩) 4 4, .slice (some ⟨b2, 0, none⟩) 3 3] 81 := inferInstance
  have k5 : Bk w8 b5 [strV wSea, strV wAnd, strV wSea] 9 := inferInstance
  have k6 : Bk w8 b6 [.slice (some ⟨b5, 0, none⟩) 3 3] 81 := inferInstance
  refine Ops.store rfl rfl rfl rfl rfl ?_
  intro V2 hp2
  have := Bk.toAt (h := Bk.of hp2.new)
  have z0 := hS_b0.size
  have z1 := hS1.size
  have z2 := hS2.size
  have z3 := hS3.size
  have z5 := hS5.size
  have z6 := hS6.size
  have z8 := hS8.size
  have m1 := hp2.bk k1 (by omega)
  have m2 := hp2.bk k2 (by omega)
  have m3 := hp2.bk k3 (by omega)
  have m5 := hp2.bk k5 (by omega)
  have m6 := hp2.bk k6 (by omega)
  have m8 := hp2.bk hk8 (by omega)
  (refine jz ?_; refine jjF ?_)
  refine fin1C rfl rfl rfl rfl rfl ⟨hp2.ext hE8 (by omega), some ⟨b8, 0, none⟩, 2, [(7, some ⟨b3, 0, none⟩, 2, [(some ⟨b1, 0, none⟩, 4, [wThe, wSea, wIs, wOld]), (some ⟨b2, 0, none⟩, 3, [wOld, wThe, wSea])]), (3, some ⟨b6, 0, none⟩, 1, [(some ⟨b5, 0, none⟩, 3, [wSea, wAnd, wSea])])], rfl, ?_, ⟨?_, ?_⟩, rfl⟩
  · exact Bk.rows (xs := [encCh (7, some ⟨b3, 0, none⟩, 2, [(some ⟨b1, 0, none⟩, 4, [wThe, wSea, wIs, wOld]), (some ⟨b2, 0, none⟩, 3, [wOld, wThe, wSea])]), encCh (3, some ⟨b6, 0, none⟩, 1, [(some ⟨b5, 0, none⟩, 3, [wSea, wAnd, wSea])])]) m8 (by simp [fitsV]) (by simp)
  · intro x hx
    simp only [List.mem_cons, List.not_mem_nil, or_false] at hx
    rcases hx with rfl | rfl
    · exact m3.row (fun x hx => by simp at hx; rcases hx with rfl | rfl <;> rfl) (by simp)
    · exact m6.row (fun x hx => by simp at hx; rcases hx with rfl; rfl) (by simp)
  · intro x hx
    simp only [List.mem_cons, List.not_mem_nil, or_false] at hx
    rcases hx with rfl | rfl
    · intro y hy
      simp only [List.mem_cons, List.not_mem_nil, or_false] at hy
      rcases hy with rfl | rfl
      · exact m1.row (strs_fit [_, _, _, _]) (by simp)
      · exact m2.row (strs_fit [_, _, _]) (by simp)
    · intro y hy
      simp only [List.mem_cons, List.not_mem_nil, or_false] at hy
      subst hy
      exact m5.row (strs_fit [_, _, _]) (by simp)
end Go.Proofs.YtgnjjocafmofaaaGreatDoor

/- The statements' examples: the copy; a slip of the examples. -/
namespace Go.Proofs.YtgnjjocafmofaaaGreatDoor
open Go.RowKit

abbrev wCold : ByteArray := ⟨#[99, 111, 108, 100]⟩
abbrev wSalt : ByteArray := ⟨#[115, 97, 108, 116]⟩
def saltR : List Rd := [((0, 0, 3), 3, wCold), ((0, 1, 1), 1, wNo), ((1, 0, 3), 2, wSalt)]
theorem salt_small : ∀ r ∈ saltR, 0 ≤ r.2.1 ∧ r.2.1 ≤ 255 := by decide
set_option maxHeartbeats 1000000 in
theorem salt_law3 (w : World) : Ct Tryz.prog 26 [] w fun v w' => ∃ ra rc, v = .agg #[.int .i64 4, .slice ra saltR.length rc] ∧ RowV w' true 5 (.slice ra saltR.length rc) (saltR.map encRd) := by
  refine Ct.ofW (by simp) ?_
  (((refine jjB ?_; refine jjC ?_)); refine jjY ?_; intro b0 w_b0 hb_b0 hs_b0 hS_b0 hk_b0; have hA_b0 := Bk.of hk_b0)
  (refine jz ?_; refine jjB ?_; refine jjC ?_)
  refine jjQ (at_law3 0 0 3 _) rfl rfl ?_
  rintro _ w1 hS1 rfl
  (refine jjS (cells := [.int .i64 0, .int .i64 0, .int .i64 3, .int .u8 3, .string wCold]) ?_ ?_; exact rfl)
  refine jjQ (at_law3 0 1 1 _) rfl rfl ?_
  rintro _ w2 hS2 rfl
  (refine jjS (cells := [.int .i64 0, .int .i64 1, .int .i64 1, .int .u8 1, .string wNo]) ?_ ?_; exact rfl)
  refine jjQ (at_law3 1 0 3 _) rfl rfl ?_
  rintro _ w3 hS3 rfl
  (refine jjS (cells := [.int .i64 1, .int .i64 0, .int .i64 3, .int .u8 2, .string wSalt]) ?_ ?_; exact rfl)
  refine Ops.buildSliceF (cells := [.int .i64 0, .int .i64 0, .int .i64 3, .int .u8 3, .string wCold, .int .i64 0, .int .i64 1, .int .i64 1, .int .u8 1, .string wNo, .int .i64 1, .int .i64 0, .int .i64 3, .int .u8 2, .string wSalt]) rfl rfl rfl ?_
  intro b7 w7 hb7 hs7 hS7 hk7
  (refine jjS (cells := [.int .i64 4, .slice (some ⟨b7, 0, none⟩) 3 3]) ?_ ?_; exact rfl)
  have hb0 : Bk w7 b0 [.int .i64 0, .slice none 0 0] 50 := inferInstance
  have hE7 : Ext w w7 := inferInstance
  refine Ops.store rfl rfl rfl rfl rfl ?_
  intro V2 hp2
  have := Bk.toAt (h := Bk.of hp2.new)
  have z0 := hS_b0.size
  have z1 := hS1.size
  have z2 := hS2.size
  have z3 := hS3.size
  have m7 := hp2.bk hk7 (by omega)
  (refine jz ?_; refine jjF ?_)
  refine fin1C rfl rfl rfl rfl rfl ⟨hp2.ext hE7 (by omega), some ⟨b7, 0, none⟩, 3, rfl, ?_⟩
  exact Bk.rows (xs := saltR.map encRd) m7 (by simp [saltR, fitsV]) (by simp [saltR])
theorem salt_moved : movedS seaT 4 saltR (0, 1, 2) = ((0, 1, 1), 0) := by kernel_rfl
theorem salt_none : movedS seaT 4 saltR (0, 1, 1) = ((0, 0, 0), 6) := by kernel_rfl
section
variable (w : World) [hgs : At w 1 0 sidesC]
set_option maxHeartbeats 4000000 in
theorem made_law3 (p : Pl) (side : Int) (hd : 0 ≤ side ∧ side ≤ 255) (a b c : ByteArray) : Ct Tryz.prog 22 [encPl p, .int .u8 side, .string a, .string b, .string c] w fun v _ => v = .bool (decide ((makeR seaT 14 side p).2 = 0) && decide ((makeR seaT 14 side p).1 = (p, a, b, c))) := by
  refine Ct.ofW (by simp) ?_
  (refine jjB ?_; refine jjC ?_)
  (refine jy rfl ?_; intro b5 w_b5 hb_b5 hs_b5 hS_b5 hk_b5; have hA_b5 := At.ofBlock hk_b5)
  (apply jJ; exact eB rfl; refine jz ?_; refine jjB ?_)
  have hE5 : Ext w w_b5 := inferInstance
  have hA5 : At w_b5 b5 0 [.int .i64 p.1, .int .i64 p.2.1, .int .i64 p.2.2] := inferInstance
  have hg5 : At w_b5 1 0 sidesC := inferInstance
  refine W.keep0 [(1, .int .u8 side), (2, .string a), (3, .string b), (4, .string c), (5, .pointer (some ⟨b5, 0, none⟩))] ⟨eI rfl, eT rfl, eT rfl, eT rfl, eP rfl, trivial⟩ fun s0 => ?_
  refine W.draw (fun w' => Ext w_b5 w') ?_
  intro w1 hS1
  refine AnyS.mono (K' := fun s w' => s 2 = .string a ∧ s 3 = .string b ∧ s 4 = .string c ∧ s 5 = .pointer (some ⟨b5, 0, none⟩) ∧ s 12 = .int .i64 (makeR seaT 14 side p).2 ∧ (∃ b11, s 11 = .pointer (some ⟨b11, 0, none⟩) ∧ At w' b11 0 (encSl (makeR seaT 14 side p).1).cells.toList) ∧ Ext w_b5 w') ?_ ?_
  rotate_left
  · (refine jjV [1, 3] ?_ ?_ ?_; (decide +kernel); (exact inferInstance); (((apply jjT; exact rfl; rintro w' hq; have := hq.toStep; apply jI; exact eI rfl; refine jz ?_; exact ⟨rfl, rfl⟩; apply jjT; exact rfl; rintro w' hq; have := hq.toStep; refine jO rfl rfl rfl rfl ?_; refine jz ?_; exact ⟨rfl, rfl⟩; refine jjU ?_))))
    repeat' ( first
      | (refine jjl 0 8 (by decide +kernel) rfl rfl inferInstance ?_ ?_)
      | (refine jjl 2 8 (by decide +kernel) rfl rfl inferInstance ?_ ?_)
      | (refine jjl 4 8 (by decide +kernel) rfl rfl inferInstance ?_ ?_)
      | ((apply jjW 0; (decide +kernel); exact rfl; (exact inferInstance)))
      | ((apply jjW 2; (decide +kernel); exact rfl; (exact inferInstance)))
      | ((apply jjW 4; (decide +kernel); exact rfl; (exact inferInstance)))
      | (refine jjQ (sea_law3 _) rfl rfl ?_; rintro _ v0 hv0 ⟨ta, tc, cs, rfl, hR0, hT0, hx0⟩; have i0 := RowI.mk hR0; have hsm := small_of_great (cs := cs) (by rw [hx0]; kernel_rfl); refine jz ?_)
      | (refine jjQ (cut_law3 side _) rfl rfl ?_; rintro _ v2 hv2 rfl; refine jz ?_)
      | (refine jjY ?_; intro b8 v8 hb8 hs8 hv8 hk8; have k8 := Bk.of hk8; have z8 : w_b5.heap.size ≤ b8 := (by rw [hb8]; exact Ext.size inferInstance); refine jz ?_)
      | (refine jjQ ((Make_slip ta tc cs 14 side _ p hsm hd).mono fun v _ _ h => h.trans (by rw [hx0])) rfl rfl ?_; rintro _ v4 hv4 rfl; refine jz ?_)
      | (refine jjV [5, 6, 7] ?_ ?_ ?_; (decide +kernel); (exact inferInstance); ((repeat' (first|(apply jjT; exact rfl)|rintro w' hq; have := hq.toStep|(apply jI; exact eU rfl)|refine ju rfl rfl ?_|refine jz ?_|exact ⟨rfl, rfl⟩|refine jjU ?_))))
      | ((apply jjW 8; (decide +kernel); exact rfl; (exact inferInstance)))
      | ((apply jjW 9; (decide +kernel); exact rfl; (exact inferInstance)); refine Ops.store rfl rfl rfl rfl rfl ?_; intro V2 hp2; have e2 : Ext w_b5 V2 := hp2.ext inferInstance z8; refine jz ?_; (refine jjV [10] ?_ ?_ ?_; (decide +kernel); (exact e2); ((repeat' (first|(apply jjT; exact rfl)|rintro w' hq; have := hq.toStep|(apply jJ; exact eI rfl)|refine jz ?_|exact ⟨rfl, rfl⟩|refine jjU ?_)))); refine jjX (by decide +kernel) e2 ?_; exact ⟨rfl, rfl, rfl, rfl, rfl, ⟨b8, rfl, Bk.toAt (h := Bk.of hp2.new)⟩, e2⟩))
  rintro s w8 ⟨h2, h3, h4, h5, h12, ⟨b11, h11, hA11⟩, x8⟩
  have s8 : Step w_b5 w8 := x8.toStep
  refine W.keep0 [(2, .string a), (3, .string b), (4, .string c), (5, .pointer (some ⟨b5, 0, none⟩)), (12, .int .i64 (makeR seaT 14 side p).2), (11, .pointer (some ⟨b11, 0, none⟩))] ⟨h2, h3, h4, h5, h12, h11, trivial⟩ fun s1 => ?_
  clear h2 h3 h4 h5 h12 h11
  generalize makeR seaT 14 side p = R at *
  by_cases h0 : R.2 = 0
  · rw [decide_eq_true h0]
    have hA : At w8 b11 0 [.int .i64 R.1.1.1, .int .i64 R.1.1.2.1, .int .i64 R.1.1.2.2, .string R.1.2.1, .string R.1.2.2.1, .string R.1.2.2.2] := hA11
    (refine jjB ?_; refine jjC ?_; apply jI; exact eI rfl; refine jjh rfl rfl (by omega) ?_; apply jI; exact eB rfl; refine jT rfl rfl rfl ?_; refine jO rfl rfl rfl rfl ?_; refine jT rfl rfl rfl ?_; refine jO rfl rfl rfl rfl ?_; refine jT rfl rfl rfl ?_; apply jI; exact eT rfl; refine jT rfl rfl rfl ?_; apply jI; exact eT rfl; refine jT rfl rfl rfl ?_; apply jI; exact eT rfl; refine jT rfl rfl rfl ?_)
    (refine jjS (cells := [.int .i64 p.1, .int .i64 p.2.1, .int .i64 p.2.2, .string a, .string b, .string c]) ?_ ?_; exact rfl)
    (refine jT rfl rfl rfl ?_)
    refine Ops.eqlT (enc := encSl) R.1 (p, a, b, c) rfl rfl ?_
    (apply jK rfl; exact eB rfl; apply jJ; exact eB rfl; refine jz ?_; refine jjF ?_; refine jB rfl rfl ⟨inferInstance, ?_⟩)
    exact rfl
  · rw [decide_eq_false h0]
    (refine jjB ?_; refine jjC ?_; apply jI; exact eI rfl; refine jji rfl rfl (by omega) ?_; apply jI; exact eB rfl; refine jU rfl rfl rfl rfl ?_; refine jU rfl rfl rfl rfl ?_; refine jU rfl rfl rfl rfl ?_; refine jU rfl rfl rfl rfl ?_; refine jU rfl rfl rfl rfl ?_; refine jU rfl rfl rfl rfl ?_; refine jU rfl rfl rfl rfl ?_; apply jL rfl; exact eB rfl; apply jJ; exact eB rfl; refine jz ?_; refine jjF ?_; refine jB rfl rfl ⟨inferInstance, ?_⟩)
    exact rfl
theorem made_ok (p : Pl) (side : Int) (hd : 0 ≤ side ∧ side ≤ 255) (a b c : ByteArray) (h : makeR seaT 14 side p = ((p, a, b, c), 0)) : Ct Tryz.prog 22 [encPl p, .int .u8 side, .string a, .string b, .string c] w fun v _ => v = .bool true :=
  (made_law3 w p side hd a b c).mono fun v _ _ e => e.trans (by rw [h, decide_eq_true rfl, decide_eq_true rfl]; rfl)
end
end Go.Proofs.YtgnjjocafmofaaaGreatDoor

/- slices.DeleteFunc of texts that are empty. -/
namespace Go.Proofs.YtgnjjocafmofaaaGreatDoor
open Go.RowKit

theorem fullB_not (s : ByteArray) : fullB s = !decide (s.size = 0) := by
  unfold fullB
  by_cases h : s.size = 0 <;> simp [h]
theorem read1_leaf (s : ByteArray) (w : World) : Ct Tryz.prog 133 [.string s] w fun v _ => v = .bool (!fullB s) := by
  refine Ct.ofW (by simp) ?_
  (refine jjB ?_; refine jjC ?_; apply jJ; exact eB rfl; refine jz ?_; refine jjB ?_; refine jjC ?_; apply jI; exact eT rfl)
  refine Ops.eqlS rfl rfl ?_
  (apply jJ; exact eB rfl; refine jz ?_; refine jjF ?_; refine jB rfl rfl ⟨inferInstance, ?_⟩)
  rw [fullB_not, Bool.not_not, ← decide_str]; exact rfl
theorem idxV_some {α : Type} {p : α → Bool} {xs : List α} {i : Nat} (h : xs.findIdx? p = some i) : idxV p xs = i := by rw [idxV, h]
theorem idxV_none {α : Type} {p : α → Bool} {xs : List α} (h : xs.findIdx? p = none) : idxV p xs = -1 := by rw [idxV, h]
theorem filter_len_lt {α : Type} {f : α → Bool} {l : List α} {i : Nat} (hi : i < l.length) (h : f l[i] = false) : (l.filter f).length < l.length := by
  rw [List.length_filter_lt_length_iff_exists]
  exact ⟨l[i], List.getElem_mem hi, by rw [h]; simp⟩
theorem filter_take_snoc {α : Type} {f : α → Bool} {l : List α} {i : Nat} {x : α} (h : l[i]? = some x) : (l.take (i + 1)).filter f = (l.take i).filter f ++ (if f x then [x] else []) := by
  rw [take_snoc_get h, List.filter_append]
  congr 1
  cases hf : f x <;> simp [hf]
theorem filter_take_le {α : Type} (f : α → Bool) (l : List α) (i : Nat) : ((l.take i).filter f).length ≤ i ∧ ((l.take i).filter f).length ≤ (l.filter f).length := by
  refine ⟨Nat.le_trans (List.length_filter_le _ _) (List.length_take_le i l), ?_⟩
  exact (List.Sublist.filter f (List.take_sublist i l)).length_le
set_option maxHeartbeats 2000000 in
theorem DeleteFunc_string (g n c : Nat) (l : List ByteArray) (w : World) {B : Nat} (hO : OwnL w B 9 false 1 (.slice (some ⟨g, 0, none⟩) n c) (l.map strV)) (hn : n ≤ 1000000) :
    Calls Tryz.prog 132 [.slice (some ⟨g, 0, none⟩) n c, .func (.func 133) #[] #[]].toArray w fun e w' => e = .returned (.slice (some ⟨g, 0, none⟩) (l.filter fullB).length c) ∧ Only g w w' ∧ OwnL w' B 9 false 1 (.slice (some ⟨g, 0, none⟩) (l.filter fullB).length c) ((l.filter fullB).map strV) := by
  obtain ⟨cs, hB, hcl, hnc, hcm, hll, htk, hBg⟩ := hO.cells
  rw [List.length_map] at hll
  have hcs : ∀ j x, l[j]? = some x → cs[j]? = some (strV x) := fun j x hx => by
    have hj := (List.getElem?_eq_some_iff.1 hx).1
    have h2 : (cs.take n)[j]? = some (strV x) := by rw [htk, List.getElem?_map, hx]; rfl
    rwa [List.getElem?_take, if_pos (by omega)] at h2
  have hfit : ∀ x ∈ (l.filter fullB).map strV, fitsV false 1 x = true := fun x hx => by obtain ⟨y, _, rfl⟩ := List.mem_map.1 hx; rfl
  have hfl := List.length_filter_le fullB l
  refine Calls.ofW (by simp) ?_
  (refine jjB ?_; refine jjC ?_; apply jJ; exact eS rfl; refine jz ?_; refine jjB ?_; refine jjC ?_; apply jI; exact eS rfl; apply jI; exact eF rfl)
  obtain ⟨o, ho⟩ : ∃ o, l.findIdx? (fun s => !fullB s) = o := ⟨_, rfl⟩
  refine jjQ (IndexFunc_string _ _ (.func (.func 133) #[] #[]) strV l (fun s => !fullB s) hO.row ⟨_, [], rfl, inferInstance, fun w' x _ _ => read1_leaf x w'⟩) rfl rfl ?_
  rintro _ w2 hS2 rfl
  cases o with
  | none =>
    rw [idxV_none ho]
    have hall : l.filter fullB = l := by
      rw [List.filter_eq_self]
      intro x hx
      have := List.findIdx?_eq_none_iff.1 ho x hx
      simpa using this
    (apply jJ; exact eI rfl; refine jz ?_; refine jjB ?_; refine jjB ?_; refine jjC ?_; apply jI; exact eI rfl; refine jjh rfl rfl (by omega) ?_; refine jz ?_; refine jjJ rfl ?_; refine jjB ?_; refine jjC ?_; apply jI; exact eS rfl; apply jJ; exact eS rfl; refine jz ?_; refine jjF ?_)
    refine jB rfl rfl ⟨?_, .ofExt hS2.ext, ?_⟩
    · rw [hall, hll]; exact rfl
    · rw [hall, hll]; exact hO.ext hS2.ext
  | some i =>
  rw [idxV_some ho]
  obtain ⟨hil, hpi, hbef⟩ := List.findIdx?_eq_some_iff_getElem.1 ho
  have hpi' : fullB l[i] = false := by simpa using hpi
  have hlt := filter_len_lt hil hpi'
  have hpre : (l.take (i + 1)).filter fullB = l.take i := by
    rw [filter_take_snoc (List.getElem?_eq_getElem hil), hpi', if_neg (by simp), List.append_nil, List.filter_eq_self]
    intro x hx
    obtain ⟨j, hj, rfl⟩ := List.mem_iff_getElem.1 hx
    rw [List.length_take] at hj
    have := hbef j (by omega)
    rw [List.getElem_take]
    simpa using this
  (apply jJ; exact eI rfl; refine jz ?_; refine jjB ?_; refine jjB ?_; refine jjC ?_; apply jI; exact eI rfl; refine jji rfl rfl (by omega) ?_; refine jz ?_; refine jjK rfl ?_; refine jjG ?_; refine jjB ?_; refine jjB ?_; refine jjC ?_; apply jI; exact eI rfl; refine jY rfl rfl (by omega) ?_; apply jJ; exact eI rfl; refine jz ?_; refine jjD ?_)
  refine W.keep0 [(0, .slice (some ⟨g, 0, none⟩) n c), (1, .func (.func 133) #[] #[]), (5, .int .i64 ((i : Nat) : Int)), (6, .int .i64 ((i + 1 : Nat) : Int))] ⟨eS rfl, eF rfl, eI rfl, eI rfl, trivial⟩ fun s0 => ?_
  refine W.loopG (16 :: 17 :: 18 :: 19 :: 22 :: 23 :: 24 :: 25 :: 7 :: 26 :: 27 :: 28 :: 29 :: 30 :: 31 :: 32 :: 33 :: 34 :: 35 :: 5 :: 20 :: 21 :: 6 :: []) (fun gg s' V => ∃ (j m : Nat) (ds : List Value), s' 6 = .int .i64 ((j : Nat) : Int) ∧ s' 5 = .int .i64 ((m : Nat) : Int) ∧ gg = n - j ∧ j ≤ n ∧ m = ((l.take j).filter fullB).length ∧ m < j ∧ Only g w V ∧ Bk V g ds 9 ∧ ds.length = c ∧ ds.take m = ((l.take j).filter fullB).map strV ∧ ∀ q, j ≤ q → ds[q]? = cs[q]?) (n - (i + 1)) ⟨i + 1, i, cs, rfl, rfl, rfl, by omega, by rw [hpre, List.length_take]; omega, by omega, .ofExt hS2.ext, hB.ext hS2.ext, hcl, by rw [hpre, List.map_take, ← htk, List.take_take, Nat.min_eq_left (by omega)], fun q _ => rfl⟩ ?_
  rintro _ sd V ⟨j, m, ds, h6, h5, rfl, hj, hm, hmj, hOn, hV, hdl, hdt, hdq⟩
  refine W.fix h6 (W.fix (d := 5) h5 ?_)
  clear h6 h5
  by_cases hjl : j < n
  rotate_left
  · obtain rfl : j = n := by omega
    have e9 : l.take j = l := List.take_of_length_le (by omega)
    rw [e9] at hm hdt
    (refine jjB ?_; refine jjB ?_; refine jjC ?_; apply jI; exact eI rfl; apply jI; exact eS rfl; refine jh rfl ?_; refine jja rfl rfl (by omega) ?_; refine jz ?_; refine jjK rfl ?_; refine jjE ?_; refine jjB ?_; refine jjC ?_; apply jI; exact eS rfl; apply jI; exact eI rfl)
    refine Ops.sliceXL2 (lo := m) rfl rfl rfl (by omega) (by omega) ?_
    skip
    refine Ops.clearB hV rfl (by omega) (by omega) rfl rfl ?_
    intro V3 hp3
    have hO3 : Only g w V3 := hOn.trans (.ofPut hp3)
    have hB3 : Bk V3 g _ 9 := ⟨hp3.new⟩
    (refine jz ?_; refine jjB ?_; refine jjC ?_; apply jI; exact eS rfl; apply jI; exact eI rfl)
    refine Ops.sliceXH (hi := m) rfl rfl rfl (by omega) ?_
    (apply jJ; exact eS rfl; refine jz ?_; refine jjF ?_)
    refine jB rfl rfl ⟨?_, hO3, ?_⟩
    · rw [← hm]; exact rfl
    · rw [← hm]
      refine OwnL.ofCells hB3 ?_ (by omega) hcm ?_ (by omega) hBg hfit
      · simp only [List.length_append, List.length_take, List.length_replicate, List.length_drop]; omega
      · rw [List.append_assoc, List.take_append_of_le_length (by rw [List.length_take]; omega), List.take_take, Nat.zero_add, Nat.min_self]; exact hdt
  have hjl' : j < l.length := by omega
  have hcell : V.cell? ⟨g, 0 + j, none⟩ = some (strV l[j]) := by
    rw [Nat.zero_add]
    exact hV.cellO (by rw [hdq j (Nat.le_refl _)]; exact hcs j _ (List.getElem?_eq_getElem hjl'))
  have hsn := filter_take_snoc (f := fullB) (List.getElem?_eq_getElem hjl')
  obtain ⟨F, hF⟩ : ∃ F, fullB l[j] = F := ⟨_, rfl⟩
  (refine jjB ?_; refine jjB ?_; refine jjC ?_; apply jI; exact eI rfl; apply jI; exact eS rfl; refine jh rfl ?_; refine jjZ rfl rfl (by omega) ?_; refine jz ?_; refine jjJ rfl ?_; refine jjG ?_; refine jjB ?_; refine jjD ?_; refine jjB ?_; refine jjC ?_; apply jI; exact eS rfl; apply jI; exact eI rfl; refine jG rfl rfl rfl (by omega) ?_; refine jR (by assumption) rfl rfl ?_; apply jJ; exact eT rfl; refine jz ?_; refine jjB ?_; refine jjC ?_; apply jI; exact eF rfl; apply jI; exact eT rfl)
  refine jjQ ((read1_leaf l[j] _).mono fun v _ _ h => h.trans (by rw [hF])) rfl rfl ?_
  rintro _ V2 hS2' rfl
  rw [hF] at hsn
  cases F
  · rw [if_neg (by simp), List.append_nil] at hsn
    (refine jp rfl ?_; refine jz ?_; refine jjK rfl ?_; refine jjG ?_; refine jjC ?_; apply jI; exact eI rfl; refine jY rfl rfl (by omega) ?_; apply jJ; exact eI rfl; refine jz ?_)
    exact ⟨rfl, by ((refine Same.upd rfl ?_; refine Same.upd rfl ?_; refine Same.upd rfl ?_; refine Same.upd rfl ?_; refine Same.upd rfl ?_; refine Same.upd rfl ?_; refine Same.upd rfl ?_; refine Same.upd rfl ?_; refine Same.upd rfl ?_; refine Same.upd rfl ?_; refine Same.upd rfl ?_; refine Same.upd rfl ?_; refine Same.upd rfl ?_; refine Same.upd rfl ?_; refine Same.upd rfl ?_; refine Same.upd rfl ?_; refine Same.upd rfl ?_; refine Same.upd rfl ?_; exact Same.ovN)), n - (j + 1), by omega, j + 1, m, ds, congrArg (Value.int .i64) (by omega), rfl, rfl, by omega, by rw [hsn]; exact hm, by omega, hOn.trans (.ofExt hS2'.ext), hV.ext hS2'.ext, hdl, by rw [hsn]; exact hdt, fun q hq => hdq q (by omega)⟩
  · rw [if_pos rfl] at hsn
    have hV2 := hV.ext hS2'.ext
    (refine jq rfl ?_; refine jz ?_; refine jjJ rfl ?_; refine jjB ?_; refine jjC ?_; apply jI; exact eS rfl; apply jI; exact eI rfl; apply jI; exact eT rfl; refine jG rfl rfl rfl (by omega) ?_)
    refine Ops.storeC (cs := ds) (j := m) (v := strV l[j]) rfl rfl rfl rfl (by omega) ?_
    intro V3 hp3
    have hml : (ds.take m).length = m := by rw [List.length_take]; omega
    (refine jz ?_; refine jjC ?_; apply jI; exact eI rfl; refine jY rfl rfl (by omega) ?_; apply jJ; exact eI rfl; refine jz ?_; refine jjC ?_; apply jI; exact eI rfl; refine jY rfl rfl (by omega) ?_; apply jJ; exact eI rfl; refine jz ?_)
    refine ⟨rfl, by ((refine Same.upd rfl ?_; refine Same.upd rfl ?_; refine Same.upd rfl ?_; refine Same.upd rfl ?_; refine Same.upd rfl ?_; refine Same.upd rfl ?_; refine Same.upd rfl ?_; refine Same.upd rfl ?_; refine Same.upd rfl ?_; refine Same.upd rfl ?_; refine Same.upd rfl ?_; refine Same.upd rfl ?_; refine Same.upd rfl ?_; refine Same.upd rfl ?_; refine Same.upd rfl ?_; refine Same.upd rfl ?_; refine Same.upd rfl ?_; refine Same.upd rfl ?_; refine Same.upd rfl ?_; refine Same.upd rfl ?_; refine Same.upd rfl ?_; refine Same.upd rfl ?_; refine Same.upd rfl ?_; refine Same.upd rfl ?_; refine Same.upd rfl ?_; exact Same.ovN)), n - (j + 1), by omega, j + 1, m + 1, _, congrArg (Value.int .i64) (by omega), congrArg (Value.int .i64) (by omega), rfl, by omega, by rw [hsn, List.length_append, ← hm]; rfl, by omega, (hOn.trans (.ofExt hS2'.ext)).trans (.ofPut hp3), ⟨hp3.new⟩, ?_, ?_, fun q hq => ?_⟩
    · simp only [List.length_append, List.length_take, List.length_drop, List.length_cons, List.length_nil]; omega
    · rw [hsn, List.map_append, ← hdt, List.take_append_of_le_length (by rw [List.length_append, hml]; simp), List.take_of_length_le (by rw [List.length_append, hml]; simp)]; rfl
    · rw [← hdq q (by omega), List.getElem?_append_right (by rw [List.length_append, hml]; simp; omega), List.length_append, hml, List.getElem?_drop]
      congr 1
      simp; omega
theorem DeleteFunc_none (a : Option Addr) (n c : Nat) (w : World) (hrow : RowV w false 1 (.slice a n c) (([] : List ByteArray).map strV)) :
    Calls Tryz.prog 132 [.slice a n c, .func (.func 133) #[] #[]].toArray w fun e w' => e = .returned (.slice a n c) ∧ Ext w w' := by
  refine Calls.ofW (by simp) ?_
  (refine jjB ?_; refine jjC ?_; apply jJ; exact eS rfl; refine jz ?_; refine jjB ?_; refine jjC ?_; apply jI; exact eS rfl; apply jI; exact eF rfl)
  refine jjQ (IndexFunc_string _ _ (.func (.func 133) #[] #[]) strV [] (fun s => !fullB s) hrow ⟨_, [], rfl, inferInstance, fun w' x _ _ => read1_leaf x w'⟩) rfl rfl ?_
  rintro _ w2 hS2 rfl
  rw [idxV_none rfl]
  (apply jJ; exact eI rfl; refine jz ?_; refine jjB ?_; refine jjB ?_; refine jjC ?_; apply jI; exact eI rfl; refine jjh rfl rfl (by omega) ?_; refine jz ?_; refine jjJ rfl ?_; refine jjB ?_; refine jjC ?_; apply jI; exact eS rfl; apply jJ; exact eS rfl; refine jz ?_; refine jjF ?_)
  exact jB rfl rfl ⟨rfl, hS2.ext⟩
theorem DeleteFunc_own (a : Option Addr) (n c : Nat) (l : List ByteArray) (w : World) {B : Nat} (hO : OwnL w B 9 false 1 (.slice a n c) (l.map strV)) (hn : l.length ≤ 1000000) :
    Calls Tryz.prog 132 [.slice a n c, .func (.func 133) #[] #[]].toArray w fun e w' => ∃ v', e = .returned v' ∧ OwnL w' B 9 false 1 v' ((l.filter fullB).map strV) ∧ ∀ w0, Ext w0 w → w0.heap.size ≤ B → Ext w0 w' := by
  cases l with
  | nil => exact (DeleteFunc_none a n c w hO.row).mono fun e w' ⟨h1, h2⟩ => ⟨_, h1, hO.ext h2, fun w0 h _ => h.trans h2⟩
  | cons x r =>
    obtain ⟨g, rfl, hg, _⟩ := hO.self (by simp)
    have hlen := hO.row.len
    rw [List.length_map] at hlen
    obtain ⟨_, _, _, _, _, hll, _⟩ := hO.cells
    rw [List.length_map] at hll
    refine (DeleteFunc_string g n c (x :: r) w hO (by omega)).mono fun e w' hp => ?_
    obtain ⟨h1, h2, h3⟩ := hp
    exact ⟨_, h1, h3, fun w0 h hB => h2.ext h (by omega)⟩
end Go.Proofs.YtgnjjocafmofaaaGreatDoor
