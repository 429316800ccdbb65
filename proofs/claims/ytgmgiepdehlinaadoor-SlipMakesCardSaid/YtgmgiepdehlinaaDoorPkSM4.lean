/- Texts of the proof, part 4: Sl8, Sl9, Sr1, Sr2, Sr3, Sr4, Sr5, Sr6, Sr7, Eng23, Tr3, SameT, Tr4, LawSl. -/
import Derived.Test.YtgmgiepdehlinaaDoorPkSM3
/- slip: Make, All, Part. -/
namespace Go.Proofs.YtgmgiepdehlinaaDoor
open Go.RowKit

section
variable (a : Option Addr) (c : Nat) (cs : List Ch) (wd side : Int) (w : World) [hrow : RowI w (.slice a cs.length c) true 2 (cs.map encCh)] [hT : TextI w cs] [hgs : At w 0 0 sidesC]
set_option maxHeartbeats 2000000 in
theorem Make_slip (p : Pl) (hs : SmallT cs) (hd : 0 ≤ side ∧ side ≤ 255) : Ct Tryd.prog 7 [.agg #[.slice a cs.length c], encCut wd side, encPl p] w fun v _ => v = .tuple #[encSl (makeR (txF cs) wd side p).1, .int .i64 (makeR (txF cs) wd side p).2] := by
  refine Ct.ofW (by simp) ?_
  (refine jjB ?_; refine jjC ?_)
  (refine jy rfl ?_; intro b3 w_b3 hb_b3 hs_b3 hS_b3 hk_b3; have hA_b3 := At.ofBlock hk_b3)
  skip
  (refine jy rfl ?_; intro b4 w_b4 hb_b4 hs_b4 hS_b4 hk_b4; have hA_b4 := At.ofBlock hk_b4)
  skip
  (refine jy rfl ?_; intro b5 w_b5 hb_b5 hs_b5 hS_b5 hk_b5; have hA_b5 := At.ofBlock hk_b5)
  ((skip); refine jjY ?_; intro b6 w_b6 hb_b6 hs_b6 hS_b6 hk_b6; have hA_b6 := Bk.of hk_b6)
  (apply jJ; exact eI rfl; refine jz ?_; refine jjB ?_; refine jjB ?_; refine jjC ?_; refine jO rfl rfl rfl rfl ?_; refine jO rfl rfl rfl rfl ?_)
  obtain ⟨e, he⟩ : ∃ e, askE (txF cs) wd side = e := ⟨_, rfl⟩
  have h3 := askE_in (txF cs) wd side
  rw [he] at h3
  refine jjQ ((open_slip a c cs wd side _ hs hd).mono fun v _ _ h => h.trans (by rw [he])) rfl rfl ?_
  rintro _ w8 hS8 rfl
  have hb6 : Bk w8 b6 [.int .i64 0, .int .i64 0, .int .i64 0, .string ⟨#[]⟩, .string ⟨#[]⟩, .string ⟨#[]⟩] 32 := inferInstance
  have hE8 : Ext w w8 := inferInstance
  by_cases h0 : e = 0
  rotate_left
  · (apply jJ; exact eI rfl; refine jz ?_; refine jjB ?_; refine jjC ?_; apply jI; exact eI rfl; refine jjj rfl rfl (by omega) ?_; refine jz ?_; refine jjJ rfl ?_; refine jjB ?_; refine jjC ?_)
    (refine jjS (cells := [.int .i64 0, .int .i64 0, .int .i64 0, .string ⟨#[]⟩, .string ⟨#[]⟩, .string ⟨#[]⟩]) ?_ ?_; exact rfl)
    (apply jI; exact eI rfl)
    refine Ops.store rfl rfl rfl rfl rfl ?_
    intro V2 hp2
    have := Bk.toAt (h := Bk.of hp2.new)
    (apply jJ; exact eI rfl; refine jz ?_; refine jjF ?_)
    refine fin2C rfl rfl rfl rfl rfl rfl ⟨hp2.ext hE8 (by omega), ?_⟩
    rw [makeR_no (by rw [he]; exact h0), he]; exact rfl
  subst h0
  obtain ⟨ht, hc⟩ := askE_zero he
  obtain ⟨o, ho⟩ : ∃ o, makeF (txF cs) side wd p = o := ⟨_, rfl⟩
  (apply jJ; exact eI rfl; refine jz ?_; refine jjB ?_; refine jjC ?_; apply jI; exact eI rfl; refine jjk rfl rfl (by omega) ?_; refine jz ?_; refine jjK rfl ?_; refine jjG ?_; refine jjB ?_; refine jjC ?_; refine jO rfl rfl rfl rfl ?_; refine jO rfl rfl rfl rfl ?_; refine jO rfl rfl rfl rfl ?_)
  refine jjQ ((made_slip a c cs wd side _ p hs ht hc).mono fun v _ _ h => h.trans (by rw [ho])) rfl rfl ?_
  rintro _ w9 hS9 rfl
  have hb69 := hb6.ext hS9.ext
  cases o with
  | none =>
    (apply jI; exact eU rfl; refine ju rfl rfl ?_; refine ju rfl rfl ?_)
    (apply jjR rfl; (intro _; first|exact eI rfl|exact eB rfl|exact eP rfl|exact eS rfl|exact eT rfl|exact eA rfl|exact eU rfl|exact eF rfl|exact eM rfl|exact eN rfl|exact rfl); exact rfl; exact rfl; exact rfl; exact rfl; intro b9 w_b9 hb_b9 hs_b9 hS_b9 hk_b9; have hA_b9 := Bk.of hk_b9)
    (apply jJ; exact eB rfl; refine jz ?_; refine jjB ?_; refine jjB ?_; refine jjC ?_; apply jI; exact eB rfl; refine jq rfl ?_; refine jz ?_; refine jjJ rfl ?_; refine jjB ?_; refine jjC ?_)
    (refine jjS (cells := [.int .i64 0, .int .i64 0, .int .i64 0, .string ⟨#[]⟩, .string ⟨#[]⟩, .string ⟨#[]⟩]) ?_ ?_; exact rfl)
    skip
    refine Ops.store rfl rfl rfl rfl rfl ?_
    intro V2 hp2
    have := Bk.toAt (h := Bk.of hp2.new)
    (apply jJ; exact eI rfl; refine jz ?_; refine jjF ?_)
    refine fin2C rfl rfl rfl rfl rfl rfl ⟨hp2.ext ((hE8.trans hS9.ext).trans hS_b9.ext) (by omega), ?_⟩
    rw [makeR_none he ho]; exact rfl
  | some s =>
    (apply jI; exact eU rfl; refine ju rfl rfl ?_; refine ju rfl rfl ?_)
    (apply jjR rfl; (intro _; first|exact eI rfl|exact eB rfl|exact eP rfl|exact eS rfl|exact eT rfl|exact eA rfl|exact eU rfl|exact eF rfl|exact eM rfl|exact eN rfl|exact rfl); exact rfl; exact rfl; exact rfl; exact rfl; intro b9 w_b9 hb_b9 hs_b9 hS_b9 hk_b9; have hA_b9 := Bk.of hk_b9)
    (apply jJ; exact eB rfl; refine jz ?_; refine jjB ?_; refine jjB ?_; refine jjC ?_; apply jI; exact eB rfl; refine jp rfl ?_; refine jz ?_; refine jjK rfl ?_; refine jjG ?_; refine jjB ?_; refine jjC ?_; refine jO rfl rfl rfl rfl ?_)
    refine Ops.store rfl rfl rfl rfl rfl ?_
    intro V2 hp2
    have := Bk.toAt (h := Bk.of hp2.new)
    (apply jJ; exact eI rfl; refine jz ?_; refine jjF ?_)
    refine fin2C rfl rfl rfl rfl rfl rfl ⟨hp2.ext ((hE8.trans hS9.ext).trans hS_b9.ext) (by omega), ?_⟩
    rw [makeR_some he ho]; exact rfl
theorem All_slip (hs : SmallT cs) (hd : 0 ≤ side ∧ side ≤ 255) : Ct Tryd.prog 9 [.agg #[.slice a cs.length c], encCut wd side] w fun v w' => ∃ sv, v = .tuple #[sv, .int .i64 (askE (txF cs) wd side)] ∧ OwnL w' w.heap.size 32 true 6 sv ((allR (txF cs) wd side).map encSl) := by
  refine Ct.ofW (by simp) ?_
  (refine jjB ?_; refine jjC ?_)
  (refine jy rfl ?_; intro b2 w_b2 hb_b2 hs_b2 hS_b2 hk_b2; have hA_b2 := At.ofBlock hk_b2)
  skip
  (refine jy rfl ?_; intro b3 w_b3 hb_b3 hs_b3 hS_b3 hk_b3; have hA_b3 := At.ofBlock hk_b3)
  (apply jJ; exact eS rfl; apply jJ; exact eI rfl; refine jz ?_; refine jjB ?_; refine jjB ?_; refine jjC ?_; refine jO rfl rfl rfl rfl ?_; refine jO rfl rfl rfl rfl ?_)
  obtain ⟨e, he⟩ : ∃ e, askE (txF cs) wd side = e := ⟨_, rfl⟩
  have h3 := askE_in (txF cs) wd side
  rw [he] at h3
  refine jjQ ((open_slip a c cs wd side _ hs hd).mono fun v _ _ h => h.trans (by rw [he])) rfl rfl ?_
  rintro _ w8 hS8 rfl
  by_cases h0 : e = 0
  rotate_left
  · (apply jJ; exact eI rfl; refine jz ?_; refine jjB ?_; refine jjC ?_; apply jI; exact eI rfl; refine jjj rfl rfl (by omega) ?_; refine jz ?_; refine jjJ rfl ?_; refine jjB ?_; refine jjC ?_; apply jI; exact eI rfl; apply jJ; exact eS rfl; apply jJ; exact eI rfl; refine jz ?_; refine jjF ?_; refine jC rfl rfl rfl ⟨inferInstance, ?_⟩)
    rw [he, allR, if_neg (by rw [he]; exact h0)]
    exact ⟨_, rfl, OwnL.nil _ _ _ _ _⟩
  subst h0
  obtain ⟨ht, hc⟩ := askE_zero he
  (apply jJ; exact eI rfl; refine jz ?_; refine jjB ?_; refine jjC ?_; apply jI; exact eI rfl; refine jjk rfl rfl (by omega) ?_; refine jz ?_; refine jjK rfl ?_; refine jjG ?_; refine jjB ?_; refine jjC ?_; refine jO rfl rfl rfl rfl ?_; refine jO rfl rfl rfl rfl ?_)
  refine jjQ (slips_slip a c cs wd side _) rfl rfl ?_
  rintro _ w9 hS9 ⟨bt, bc, rfl, _, hA1, hA2⟩
  have hE9 : Ext w w9 := inferInstance
  skip
  refine jjQ (Collect_sl (allS (txF cs) side wd) _ _ _ _ (slips1_slip bt bc a c cs wd side hs ht hc) (fun w' h => ⟨hA1.ext h, hA2.ext h, hrow.h.ext (hE9.trans h), hT.ext (hE9.trans h), hgs.ext (hE9.trans h)⟩) (by have := allS_len (side := side) (wd := wd) ht; omega)) rfl rfl ?_
  rintro sv wA hSA hO
  (apply jJ; exact rfl; apply jJ; exact eI rfl; refine jz ?_; refine jjF ?_; refine jC rfl rfl rfl ⟨inferInstance, ?_⟩)
  rw [he, allR, if_pos he]
  exact ⟨sv, rfl, hO.mono hE9.size⟩
end
end Go.Proofs.YtgmgiepdehlinaaDoor

/- slip: Part. -/
namespace Go.Proofs.YtgmgiepdehlinaaDoor
open Go.RowKit

theorem filter_snoc {α : Type} {f : α → Bool} {l : List α} {i : Nat} {x : α} (h : l[i]? = some x) : (l.take (i + 1)).filter f = (l.take i).filter f ++ (if f x then [x] else []) := by
  rw [take_snoc_get h, List.filter_append]
  congr 1
  cases hf : f x <;> simp [hf]
section
variable (a : Option Addr) (c : Nat) (cs : List Ch) (wd side : Int) (w : World) [hrow : RowI w (.slice a cs.length c) true 2 (cs.map encCh)] [hT : TextI w cs] [hgs : At w 0 0 sidesC]
set_option maxHeartbeats 4000000 in
theorem Part_slip (p q : Pl) (hs : SmallT cs) (hd : 0 ≤ side ∧ side ≤ 255) : Ct Tryd.prog 11 [.agg #[.slice a cs.length c], encCut wd side, encPl p, encPl q] w fun v w' => ∃ sv, v = .tuple #[sv, .int .i64 (partR (txF cs) wd side p q).2] ∧ OwnL w' w.heap.size 32 true 6 sv ((partR (txF cs) wd side p q).1.map encSl) := by
  refine Ct.ofWM (by simp) ?_
  (refine jjB ?_; refine jjC ?_)
  (refine jy rfl ?_; intro b4 w_b4 hb_b4 hs_b4 hS_b4 hk_b4; have hA_b4 := At.ofBlock hk_b4)
  skip
  (refine jy rfl ?_; intro b5 w_b5 hb_b5 hs_b5 hS_b5 hk_b5; have hA_b5 := At.ofBlock hk_b5)
  skip
  (refine jy rfl ?_; intro b6 w_b6 hb_b6 hs_b6 hS_b6 hk_b6; have hA_b6 := At.ofBlock hk_b6)
  skip
  (refine jy rfl ?_; intro b7 w_b7 hb_b7 hs_b7 hS_b7 hk_b7; have hA_b7 := At.ofBlock hk_b7)
  (apply jJ; exact eS rfl; apply jJ; exact eI rfl; refine jz ?_; refine jjB ?_; refine jjB ?_; refine jjC ?_; refine jO rfl rfl rfl rfl ?_; refine jO rfl rfl rfl rfl ?_)
  obtain ⟨e, he⟩ : ∃ e, askE (txF cs) wd side = e := ⟨_, rfl⟩
  have h3 := askE_in (txF cs) wd side
  rw [he] at h3
  refine jjQ ((open_slip a c cs wd side _ hs hd).mono fun v _ _ h => h.trans (by rw [he])) rfl rfl ?_
  rintro _ w8 hS8 rfl
  have hE8 : Ext w w8 := inferInstance
  by_cases h0 : e = 0
  rotate_left
  · (apply jJ; exact eI rfl; refine jz ?_; refine jjB ?_; refine jjC ?_; apply jI; exact eI rfl; refine jjj rfl rfl (by omega) ?_; refine jz ?_; refine jjJ rfl ?_; refine jjB ?_; refine jjC ?_; apply jI; exact eI rfl; apply jJ; exact eS rfl; apply jJ; exact eI rfl; refine jz ?_; refine jjF ?_)
    refine fin2M rfl rfl rfl inferInstance fun w' g => ⟨hE8.ofGrow g (Nat.le_refl _), ?_⟩
    rw [partR, if_pos (by rw [he]; exact h0), he]
    exact ⟨_, rfl, OwnL.nil _ _ _ _ _⟩
  subst h0
  obtain ⟨ht, hc⟩ := askE_zero he
  obtain ⟨o1, ho1⟩ : ∃ o, makeF (txF cs) side wd p = o := ⟨_, rfl⟩
  obtain ⟨o2, ho2⟩ : ∃ o, makeF (txF cs) side wd q = o := ⟨_, rfl⟩
  (apply jJ; exact eI rfl; refine jz ?_; refine jjB ?_; refine jjC ?_; apply jI; exact eI rfl; refine jjk rfl rfl (by omega) ?_; refine jz ?_; refine jjK rfl ?_; refine jjG ?_; refine jjB ?_; refine jjC ?_; refine jO rfl rfl rfl rfl ?_; refine jO rfl rfl rfl rfl ?_; refine jO rfl rfl rfl rfl ?_)
  refine jjQ ((made_slip a c cs wd side _ p hs ht hc).mono fun v _ _ h => h.trans (by rw [ho1])) rfl rfl ?_
  rintro _ w9 hS9 rfl
  (apply jI; exact eU rfl; refine ju rfl rfl ?_; refine ju rfl rfl ?_)
  (apply jjR rfl; (intro _; first|exact eI rfl|exact eB rfl|exact eP rfl|exact eS rfl|exact eT rfl|exact eA rfl|exact eU rfl|exact eF rfl|exact eM rfl|exact eN rfl|exact rfl); exact rfl; exact rfl; exact rfl; exact rfl; intro b11 w_b11 hb_b11 hs_b11 hS_b11 hk_b11; have hA_b11 := Bk.of hk_b11)
  (apply jJ; exact eB rfl; refine jz ?_; refine jjB ?_; refine jjC ?_; refine jO rfl rfl rfl rfl ?_; refine jO rfl rfl rfl rfl ?_; refine jO rfl rfl rfl rfl ?_)
  refine jjQ ((made_slip a c cs wd side _ q hs ht hc).mono fun v _ _ h => h.trans (by rw [ho2])) rfl rfl ?_
  rintro _ w10 hS10 rfl
  (apply jI; exact eU rfl; refine ju rfl rfl ?_; refine ju rfl rfl ?_)
  (apply jjR rfl; (intro _; first|exact eI rfl|exact eB rfl|exact eP rfl|exact eS rfl|exact eT rfl|exact eA rfl|exact eU rfl|exact eF rfl|exact eM rfl|exact eN rfl|exact rfl); exact rfl; exact rfl; exact rfl; exact rfl; intro b13 w_b13 hb_b13 hs_b13 hS_b13 hk_b13; have hA_b13 := Bk.of hk_b13)
  have hE13 : Ext w w_b13 := inferInstance
  have hpr : partR (txF cs) wd side p q = if o1 = none ∨ o2 = none then ([], 12) else if befP q p then ([], 2) else (((allP (txF cs) (txF cs).length).filter (inP p q)).map (slP (txF cs) side wd), 0) := by
    rw [partR, if_neg (by rw [he]; simp), ho1, ho2]
  rw [hpr]
  clear hpr
  cases o1 with
  | none =>
    (apply jJ; exact eB rfl; refine jz ?_; refine jjB ?_; refine jjD ?_; refine jjB ?_; refine jjC ?_; apply jI; exact eB rfl; refine jq rfl ?_; apply jI; exact eB rfl; refine jU rfl rfl rfl rfl ?_; refine jU rfl rfl rfl rfl ?_; apply jK rfl; exact eB rfl; apply jJ; exact eB rfl; refine jz ?_; refine jjJ rfl ?_; refine jjB ?_; refine jjC ?_; apply jJ; exact eS rfl; apply jJ; exact eI rfl; refine jz ?_; refine jjF ?_)
    refine fin2M rfl rfl rfl inferInstance fun w' g => ⟨hE13.ofGrow g (Nat.le_refl _), ?_⟩
    rw [if_pos (.inl rfl)]
    exact ⟨_, rfl, OwnL.nil _ _ _ _ _⟩
  | some s1 =>
  cases o2 with
  | none =>
    (apply jJ; exact eB rfl; refine jz ?_; refine jjB ?_; refine jjD ?_; refine jjB ?_; refine jjC ?_; apply jI; exact eB rfl; refine jp rfl ?_; apply jI; exact eB rfl; refine jT rfl rfl rfl ?_; apply jI; exact eB rfl; refine jT rfl rfl rfl ?_; refine jq rfl ?_; apply jL rfl; exact eB rfl; apply jJ; exact eB rfl; refine jz ?_; refine jjJ rfl ?_; refine jjB ?_; refine jjC ?_; apply jJ; exact eS rfl; apply jJ; exact eI rfl; refine jz ?_; refine jjF ?_)
    refine fin2M rfl rfl rfl inferInstance fun w' g => ⟨hE13.ofGrow g (Nat.le_refl _), ?_⟩
    rw [if_pos (.inr rfl)]
    exact ⟨_, rfl, OwnL.nil _ _ _ _ _⟩
  | some s2 =>
  rw [if_neg (by simp)]
  (apply jJ; exact eB rfl; refine jz ?_; refine jjB ?_; refine jjD ?_; refine jjB ?_; refine jjC ?_; apply jI; exact eB rfl; refine jp rfl ?_; apply jI; exact eB rfl; refine jT rfl rfl rfl ?_; apply jI; exact eB rfl; refine jT rfl rfl rfl ?_; refine jp rfl ?_; apply jL rfl; exact eB rfl; apply jJ; exact eB rfl; refine jz ?_; refine jjK rfl ?_; refine jjB ?_; refine jjC ?_; refine jO rfl rfl rfl rfl ?_; refine jO rfl rfl rfl rfl ?_)
  refine jjQ (places_slip q p _) rfl rfl ?_
  rintro _ w14 hS14 rfl
  have hE14 : Ext w w14 := inferInstance
  have hcm := cmpP_neg q p
  cases hbf : befP q p with
  | true =>
    rw [hbf] at hcm
    have hlt := of_decide_eq_true hcm
    (refine jjZ rfl rfl (by omega) ?_; apply jJ; exact eB rfl; refine jz ?_; refine jjJ rfl ?_; refine jjB ?_; refine jjC ?_; apply jJ; exact eS rfl; apply jJ; exact eI rfl; refine jz ?_; refine jjF ?_)
    refine fin2M rfl rfl rfl inferInstance fun w' g => ⟨hE14.ofGrow g (Nat.le_refl _), ?_⟩
    exact ⟨_, rfl, OwnL.nil _ _ _ _ _⟩
  | false =>
  rw [hbf] at hcm
  have hge := of_decide_eq_false hcm
  rw [if_neg (by simp)]
  (refine jja rfl rfl (by omega) ?_; apply jJ; exact eB rfl; refine jz ?_; refine jjK rfl ?_; refine jjG ?_; refine jjB ?_; refine jjC ?_)
  ((skip); refine jjY ?_; intro b15 w_b15 hb_b15 hs_b15 hS_b15 hk_b15; have hA_b15 := Bk.of hk_b15)
  (refine jz ?_; refine jjB ?_; refine jjB ?_; refine jjC ?_; refine jO rfl rfl rfl rfl ?_; refine jO rfl rfl rfl rfl ?_)
  refine jjQ (slips_slip a c cs wd side _) rfl rfl ?_
  rintro _ w16 hS16 ⟨bt, bc, rfl, ⟨hbt, hbc⟩, hA1, hA2⟩
  (refine jz ?_; refine jjD ?_)
  have hE16 : Ext w w16 := inferInstance
  have hsz := hE16.size
  have hb6 : At w16 b6 0 [.int .i64 p.1, .int .i64 p.2.1, .int .i64 p.2.2] := inferInstance
  have hb7 : At w16 b7 0 [.int .i64 q.1, .int .i64 q.2.1, .int .i64 q.2.2] := inferInstance
  have hb15 : Bk w16 b15 [.slice none 0 0] 38 := inferInstance
  have n6 : b6 < b15 := by have := hS8.size; have := hS9.size; have := hS10.size; have := hS14.size; omega
  have n7 : b7 < b15 := by have := hS8.size; have := hS9.size; have := hS10.size; have := hS14.size; omega
  have nt : w_b15.heap.size ≤ w16.heap.size := hS16.size
  have n15 : w.heap.size ≤ b15 := by have := hE14.size; omega
  have hal := allS_len (side := side) (wd := wd) ht
  have hfin : (allS (txF cs) side wd).filter (fun s => inP p q s.1) = ((allP (txF cs) (txF cs).length).filter (inP p q)).map (slP (txF cs) side wd) := filter_slP _
  refine W.rangeM w.heap.size (allS (txF cs) side wd) encSl1 (slips1_slip bt bc a c cs wd side hs ht hc) rfl (fun _ => rfl) trivial inferInstance hsz
    (fun i V => Ext w V ∧ w16.heap.size ≤ V.heap.size ∧ At V b6 0 [.int .i64 p.1, .int .i64 p.2.1, .int .i64 p.2.2] ∧ At V b7 0 [.int .i64 q.1, .int .i64 q.2.1, .int .i64 q.2.2] ∧ (At V bt 0 [.slice a cs.length c] ∧ At V bc 0 [.int .i64 wd, .int .u8 side]) ∧ ∃ v, Bk V b15 [v] 38 ∧ OwnL V w16.heap.size 32 true 6 v ((((allS (txF cs) side wd).take i).filter (fun s => inP p q s.1)).map encSl))
    (fun _ _ _ => False) ?hJ (fun _ _ _ _ h _ => h) ?hF ?h0 (MB w16.heap.size b15) ?hW1 ?hW2 ?hW3 (fun x s' V => ∃ b, s' 6 = .pointer (some ⟨b6, 0, none⟩) ∧ s' 7 = .pointer (some ⟨b7, 0, none⟩) ∧ s' 15 = .pointer (some ⟨b15, 0, none⟩) ∧ s' 16 = .pointer (some ⟨b, 0, none⟩) ∧ Bk V b (encSl x).cells.toList 32) (fun x s V V' ⟨b5, h1, h2, h2', h2'', h3⟩ g => ⟨b5, h1, h2, h2', h2'', h3.grow g⟩) ?hassign ?hbody ?hdone (fun _ _ _ _ _ _ _ h => h.elim)
  case hJ =>
    rintro i V V' ⟨h1, h2, k6, k7, ⟨kt, kc⟩, v, h3, h4⟩ g
    exact ⟨h1.ofGrow g hsz, Nat.le_trans h2 g.size, k6.grow g, k7.grow g, ⟨kt.grow g, kc.grow g⟩, v, h3.grow g, h4.grow g⟩
  case hF =>
    rintro i V ⟨h1, h2, k6, k7, ⟨kt, kc⟩, v, h3, h4⟩
    exact ⟨kt, kc, hrow.h.ext h1, hT.ext h1, hgs.ext h1⟩
  case h0 => exact ⟨hE16, Nat.le_refl _, hb6, hb7, ⟨hA1, hA2⟩, _, hb15, OwnL.nil _ _ _ _ _⟩
  case hW1 => exact fun i V k ⟨h1, h2, _, _, _, v, h3, h4⟩ h => MB.lt h2 h3 h4 h
  case hW2 => exact fun i V V' k ⟨h1, h2, _, _, _, v, h3, h4⟩ g h => MB.back h3 g h
  case hW3 => exact fun V V' k g h => .inl (MB.grow (by omega) g h)
  case hassign =>
    rintro l i x V hx ⟨h1, h2, k6, k7, ⟨kt, kc⟩, v, h3, h4⟩ hl hr
    (refine jjC ?_)
    (apply jjR rfl; (intro _; first|exact eI rfl|exact eB rfl|exact eP rfl|exact eS rfl|exact eT rfl|exact eA rfl|exact eU rfl|exact eF rfl|exact eM rfl|exact eN rfl|exact rfl); exact rfl; exact rfl; exact rfl; exact rfl; intro bx w_bx hb_bx hs_bx hS_bx hk_bx; have hA_bx := Bk.of hk_bx)
    (refine jz ?_)
    exact ⟨rfl, hS_bx.ext.tr, Fr.ofExt hS_bx.ext fun k hk => .inl (MB.same h3 (h3.ext hS_bx.ext) hk), ⟨h1.trans hS_bx.ext, by have := hS_bx.size; omega, k6.ext hS_bx.ext, k7.ext hS_bx.ext, ⟨kt.ext hS_bx.ext, kc.ext hS_bx.ext⟩, v, h3.ext hS_bx.ext, h4.ext hS_bx.ext⟩, bx, rfl, rfl, rfl, rfl, inferInstance⟩
  case hbody =>
    rintro l i x s' V hx ⟨h1, h2, k6, k7, ⟨kt, kc⟩, v, h3, h4⟩ ⟨bx, ha6, ha7, ha15, ha16, hbx⟩ hl hr
    have hlt := (List.getElem?_eq_some_iff.1 hx).1
    have hfl := List.length_filter_le (fun s => inP p q s.1) ((allS (txF cs) side wd).take i)
    rw [List.length_take] at hfl
    have hsn := filter_snoc (f := fun s => inP p q s.1) hx
    refine W.fix (d := 6) ha6 (W.fix (d := 7) ha7 (W.fix (d := 15) ha15 (W.fix (d := 16) ha16 ?_)))
    clear ha6 ha7 ha15 ha16
    have hbx' : At V bx 0 [.int .i64 x.1.1, .int .i64 x.1.2.1, .int .i64 x.1.2.2, .string x.2.1, .string x.2.2.1, .string x.2.2.2] := Bk.toAt (h := hbx)
    have c1 := cmpP_neg x.1 p
    have c2 := cmpP_pos x.1 q
    (refine jjD ?_; refine jjB ?_; refine jjC ?_; refine jm ?_; refine jn rfl ?_; refine jO rfl rfl rfl rfl ?_; refine jO rfl rfl rfl rfl ?_)
    refine jjQ (places_slip x.1 p _) rfl rfl ?_
    rintro _ V2 hS2 rfl
    have e2 := hS2.ext
    cases hb1 : befP x.1 p with
    | true =>
      rw [hb1] at c1
      have := of_decide_eq_true c1
      have hf : inP p q x.1 = false := by simp [inP, hb1]
      simp only [hf] at hsn
      (refine jjg rfl rfl (by omega) ?_; apply jI; exact eB rfl; refine jU rfl rfl rfl rfl ?_; refine jU rfl rfl rfl rfl ?_; refine jU rfl rfl rfl rfl ?_; refine jU rfl rfl rfl rfl ?_; refine jU rfl rfl rfl rfl ?_; apply jL rfl; exact eB rfl; refine jz ?_; refine jjK rfl ?_; refine jjG ?_)
      refine ⟨e2.tr, Fr.ofExt e2 fun k hk => .inl (MB.same h3 (h3.ext e2) hk), h1.trans e2, by have := e2.size; omega, k6.ext e2, k7.ext e2, ⟨kt.ext e2, kc.ext e2⟩, v, h3.ext e2, ?_⟩
      rw [hsn]; simpa using h4.ext e2
    | false =>
    rw [hb1] at c1
    have := of_decide_eq_false c1
    (refine jjf rfl rfl (by omega) ?_; apply jI; exact eB rfl; refine jT rfl rfl rfl ?_; refine jm ?_; refine jn rfl ?_; refine jT rfl rfl rfl ?_; refine jO rfl rfl rfl rfl ?_; refine jT rfl rfl rfl ?_; refine jO rfl rfl rfl rfl ?_; refine jT rfl rfl rfl ?_)
    refine jjQ (places_slip x.1 q _) rfl rfl ?_
    rintro _ V3 hS3 rfl
    have e3 := e2.trans hS3.ext
    cases hb2 : befP q x.1 with
    | true =>
      rw [hb2] at c2
      have := of_decide_eq_true c2
      have hf : inP p q x.1 = false := by simp [inP, hb2]
      simp only [hf] at hsn
      (refine jT rfl rfl rfl ?_; refine jjc rfl rfl (by omega) ?_; apply jK rfl; exact eB rfl; refine jz ?_; refine jjK rfl ?_; refine jjG ?_)
      refine ⟨e3.tr, Fr.ofExt e3 fun k hk => .inl (MB.same h3 (h3.ext e3) hk), h1.trans e3, by have := e3.size; omega, k6.ext e3, k7.ext e3, ⟨kt.ext e3, kc.ext e3⟩, v, h3.ext e3, ?_⟩
      rw [hsn]; simpa using h4.ext e3
    | false =>
    rw [hb2] at c2
    have := of_decide_eq_false c2
    have hf : inP p q x.1 = true := by simp [inP, hb1, hb2]
    simp only [hf, if_true] at hsn
    have h33 := h3.ext e3
    have h43 := h4.ext e3
    have z3 := e3.size
    (refine jT rfl rfl rfl ?_; refine jjb rfl rfl (by omega) ?_; apply jK rfl; exact eB rfl; refine jz ?_; refine jjJ rfl ?_; refine jjC ?_; refine jN rfl rfl rfl ?_; refine jO rfl rfl rfl rfl ?_)
    (refine jjP (v := .agg _) rfl (by exact rfl) (by exact rfl) (by exact rfl) (by exact rfl) ?_; intro b10 w_b10 hb_b10 hs_b10 hS_b10 hk_b10; have hR_b10 := RowV.one (agg := true) (k := 6) rfl hk_b10)
    have hR1 : RowV w_b10 true 6 (.slice (some ⟨b10, 0, none⟩) 1 1) [encSl x] := hR_b10
    have hz10 := hS_b10.size
    refine Ops.appendL (h43.ext hS_b10.ext) (by omega) hR1 rfl rfl rfl rfl (one_sl x) ?_ ?_ ?_
    · rw [List.length_map]; simp only [List.length_cons, List.length_nil]; omega
    · rw [List.length_map]; simp only [List.length_cons, List.length_nil]; omega
    intro v2 V4 hA hO _ hown2
    obtain ⟨a2, c2', rfl⟩ := hO.slice
    have hbl : ∀ g, v.ownBlock = some g → w16.heap.size ≤ g := fun g hg => (h4.block g hg).1
    have hne : v.ownBlock ≠ some b15 := fun e => by have := hbl b15 e; omega
    have hB2 : Bk V4 b15 [v] 38 := hA.bk (h33.ext hS_b10.ext) hne
    skip
    refine Ops.store rfl rfl rfl rfl rfl ?_
    intro V5 hp5
    (refine jz ?_)
    have hB3 : Bk V5 b15 [.slice a2 (List.map encSl (((allS (txF cs) side wd).take i).filter (fun s => inP p q s.1)) ++ [encSl x]).length c2'] 38 := ⟨hp5.new⟩
    have hne2 : (Value.slice a2 (List.map encSl (((allS (txF cs) side wd).take i).filter (fun s => inP p q s.1)) ++ [encSl x]).length c2').ownBlock ≠ some b15 := fun e => by rcases hown2 with h | h <;> rw [h] at e; exact hne e; cases e; omega
    have e10 := e3.trans hS_b10.ext
    have hnb : ∀ b, b < w16.heap.size → v.ownBlock ≠ some b := fun b h e => by have := hbl b e; omega
    have ht16 := hA1.lt
    have hc16 := hA2.lt
    refine ⟨(e10.tr.trans hA.tr).trans (hp5.tr ⟨_, hB2.h, rfl⟩), ?_, hp5.ext (hA.ext (h1.trans e10) hsz) (by omega), ?_, hp5.at_ (hA.at_ (k6.ext e10) (hnb _ (by omega))) (by omega), hp5.at_ (hA.at_ (k7.ext e10) (hnb _ (by omega))) (by omega), ⟨hp5.at_ (hA.at_ (kt.ext e10) (hnb _ ht16)) (by omega), hp5.at_ (hA.at_ (kc.ext e10) (hnb _ hc16)) (by omega)⟩, _, hB3, ?_⟩
    · exact (Fr.ofExt e10 fun k hk => .inl (MB.same h3 (h3.ext e10) hk)).trans (MB.append (by omega) (h3.ext e10) hA hp5 hB3 hown2)
    · have := hA.g.size; rw [hp5.size]; omega
    · rw [hsn, List.map_append]
      exact hO.put hp5 hne2
  case hdone =>
    rintro ds' V hmk htr ⟨h1, h2, k6, k7, ⟨kt, kc⟩, v, h3, h4⟩
    obtain ⟨va, vl, vc, rfl⟩ := h4.slice3
    have := h3
    (refine jjB ?_; refine jjC ?_; refine jN rfl rfl rfl ?_; apply jJ; exact eS rfl; apply jJ; exact eI rfl; refine jz ?_; refine jjF ?_)
    refine fin2M rfl rfl rfl hmk fun w' g => ⟨h1.ofGrow g (Nat.le_refl _), ?_⟩
    rw [List.take_length, hfin] at h4
    exact ⟨_, rfl, (h4.grow g).mono hsz⟩
end
end Go.Proofs.YtgmgiepdehlinaaDoor

/- The reference: Run, index, joined, Length. -/
namespace Go.Proofs.YtgmgiepdehlinaaDoor
open Go.RowKit

section
variable (a : Option Addr) (c : Nat) (cs : List Ch) (w : World) [hrow : RowI w (.slice a cs.length c) true 2 (cs.map encCh)] [hT : TextI w cs]
set_option maxHeartbeats 4000000 in
theorem Run_ref3 (hs : SmallT cs) (k : Nat) (hk : k < cs.length) : Ct Tryd.prog 52 [.agg #[.slice a cs.length c], .int .i64 (k : Int)] w fun v w' =>
    ∃ wv av, v = .tuple #[wv, av] ∧ OwnL w' w.heap.size 9 false 1 wv ((rnW cs[k]).map strV) ∧ OwnL w' w.heap.size 28 true 3 av ((runA k (chW cs[k])).map encPl) := by
  have hs1 := hs.1
  have hsk := hs.2 _ (List.getElem_mem hk)
  have hsl := hsk.1
  have hsm := chW_small fun y hy => (hsk.2 y hy).1
  have hcl : (chW cs[k]).length = cs[k].2.2.2.length := by simp [chW]
  refine Ct.ofW (by simp) ?_
  (refine jjB ?_; refine jjC ?_)
  (refine jy rfl ?_; intro b2 w_b2 hb_b2 hs_b2 hS_b2 hk_b2; have hA_b2 := At.ofBlock hk_b2)
  have hgk := List.getElem?_eq_getElem hk
  (apply jJ; exact eS rfl; apply jJ; exact eS rfl; refine jz ?_; refine jjB ?_; refine jjC ?_; apply jJ; exact eS rfl; refine jz ?_; refine jjB ?_; refine jjC ?_; apply jJ; exact eS rfl; refine jz ?_; refine jjB ?_; refine jjC ?_; refine jm ?_; refine jn rfl ?_; refine jN rfl rfl rfl ?_; apply jI; exact eI rfl; refine jF rfl rfl rfl (map_get (by omega)) ?_; intro _ _ _; refine jm ?_; refine jn rfl ?_; refine jP rfl rfl rfl ?_; apply jJ; exact eS rfl; refine jz ?_; refine jjB ?_; refine jjB ?_; refine jjC ?_; apply jJ; exact eI rfl; refine jz ?_; refine jjD ?_)
  have i1 := hT.line hk
  have hE7 : Ext w w_b2 := inferInstance
  refine W.keep0 [(1, .int .i64 ((k : Nat) : Int)), (6, .slice none 0 0), (7, .slice none 0 0), (8, .slice cs[k].2.1 cs[k].2.2.2.length cs[k].2.2.1), (9, .int .i64 ((0 : Nat) : Int))] ⟨eI rfl, eS rfl, eS rfl, eS rfl, eI rfl, trivial⟩ fun s0 => ?_
  refine W.loopG (17 :: 18 :: 19 :: 20 :: 10 :: 23 :: 24 :: 25 :: 26 :: 27 :: 28 :: 29 :: 32 :: 33 :: 34 :: 35 :: 36 :: 37 :: 38 :: 39 :: 40 :: 41 :: 42 :: 43 :: 44 :: 45 :: 46 :: 47 :: 48 :: 6 :: 7 :: 30 :: 31 :: 21 :: 22 :: 9 :: []) (fun g s' V => ∃ (n : Nat) (wv av : Value), s' 9 = .int .i64 ((n : Nat) : Int) ∧ s' 6 = wv ∧ s' 7 = av ∧ g = cs[k].2.2.2.length - n ∧ n ≤ cs[k].2.2.2.length ∧ Ext w V ∧ w_b2.heap.size ≤ V.heap.size ∧ OwnL V w_b2.heap.size 9 false 1 wv (((chW cs[k]).take n).flatten.map strV) ∧ OwnL V w_b2.heap.size 28 true 3 av ((runAn k (chW cs[k]) n).map encPl)) cs[k].2.2.2.length ⟨0, _, _, rfl, rfl, rfl, rfl, Nat.zero_le _, hE7, Nat.le_refl _, OwnL.nil _ _ _ _ _, OwnL.nil _ _ _ _ _⟩ ?_
  rintro _ sd V ⟨n, wv, av, h9, h6, h7, rfl, hn, hE, hz, hOw, hOa⟩
  obtain ⟨wa, wl, wc, rfl⟩ := hOw.slice3
  obtain ⟨aa, al, ac, rfl⟩ := hOa.slice3
  refine W.fix h9 (W.fix (d := 6) h6 (W.fix (d := 7) h7 ?_))
  clear h9 h6 h7
  by_cases hnl : n < cs[k].2.2.2.length
  rotate_left
  · obtain rfl : n = cs[k].2.2.2.length := by omega
    rw [← hcl, List.take_length] at hOw
    rw [← hcl] at hOa
    (refine jjB ?_; refine jjB ?_; refine jjC ?_; apply jI; exact eI rfl; apply jI; exact eS rfl; refine jh rfl ?_; refine jja rfl rfl (by omega) ?_; refine jz ?_; refine jjK rfl ?_; refine jjE ?_; refine jjB ?_; refine jjC ?_; apply jI; exact eS rfl; apply jI; exact eS rfl; apply jJ; exact eS rfl; apply jJ; exact eS rfl; refine jz ?_; refine jjF ?_; refine jC rfl rfl rfl ⟨inferInstance, ?_⟩)
    exact ⟨_, _, rfl, hOw.mono hE7.size, hOa.mono hE7.size⟩
  have hsn := hsk.2 _ (List.getElem_mem hnl)
  have hgn := chW_get hnl
  have hTV : TextI V cs := hT.ext hE
  have i2 := hTV.line hk
  (refine jjB ?_; refine jjB ?_; refine jjC ?_; apply jI; exact eI rfl; apply jI; exact eS rfl; refine jh rfl ?_; refine jjZ rfl rfl (by omega) ?_; refine jz ?_; refine jjJ rfl ?_; refine jjG ?_; refine jjB ?_; refine jjD ?_; refine jjB ?_; refine jjC ?_; apply jJ; exact eI rfl; refine jz ?_; refine jjD ?_)
  refine W.keep [(1, .int .i64 ((k : Nat) : Int)), (6, .slice wa wl wc), (7, .slice aa al ac), (8, .slice cs[k].2.1 cs[k].2.2.2.length cs[k].2.2.1), (9, .int .i64 ((n : Nat) : Int)), (10, .int .i64 ((0 : Nat) : Int))] (D := (17 :: 18 :: 19 :: 20 :: 10 :: 23 :: 24 :: 25 :: 26 :: 27 :: 28 :: 29 :: 32 :: 33 :: 34 :: 35 :: 36 :: 37 :: 38 :: 39 :: 40 :: 41 :: 42 :: 43 :: 44 :: 45 :: 46 :: 47 :: 48 :: 6 :: 7 :: 30 :: 31 :: 21 :: 22 :: 9 :: [])) (sO := upds s0 _) (by ((refine Same.upd rfl ?_; refine Same.upd rfl ?_; refine Same.upd rfl ?_; refine Same.upd rfl ?_; refine Same.upd rfl ?_; refine Same.upd rfl ?_; refine Same.upd rfl ?_; refine Same.upd rfl ?_; exact Same.ovN))) ⟨eI rfl, eS rfl, eS rfl, eS rfl, eI rfl, eI rfl, trivial⟩ fun s1 hs1' => ?_
  refine W.loopG (23 :: 24 :: 25 :: 26 :: 27 :: 28 :: 29 :: 32 :: 33 :: 34 :: 35 :: 36 :: 37 :: 38 :: 39 :: 40 :: 41 :: 42 :: 43 :: 44 :: 45 :: 46 :: 47 :: 48 :: 6 :: 7 :: 30 :: 31 :: 10 :: []) (fun g s' V => ∃ (q : Nat) (wv av : Value), s' 10 = .int .i64 ((q : Nat) : Int) ∧ s' 6 = wv ∧ s' 7 = av ∧ g = cs[k].2.2.2[n].2.2.length - q ∧ q ≤ cs[k].2.2.2[n].2.2.length ∧ Ext w V ∧ w_b2.heap.size ≤ V.heap.size ∧ OwnL V w_b2.heap.size 9 false 1 wv ((((chW cs[k]).take n).flatten ++ cs[k].2.2.2[n].2.2.take q).map strV) ∧ OwnL V w_b2.heap.size 28 true 3 av ((runAn k (chW cs[k]) n ++ lnP k n q).map encPl)) cs[k].2.2.2[n].2.2.length ⟨0, _, _, rfl, rfl, rfl, rfl, Nat.zero_le _, hE, hz, by rw [List.take_zero, List.append_nil]; exact hOw, by rw [show lnP k n 0 = [] from rfl, List.append_nil]; exact hOa⟩ ?_
  rintro _ sd2 V2 ⟨q, wv, av, h10, h6, h7, rfl, hq, hE, hz, hOw, hOa⟩
  obtain ⟨wa, wl, wc, rfl⟩ := hOw.slice3
  obtain ⟨aa, al, ac, rfl⟩ := hOa.slice3
  refine W.fix h10 (W.fix (d := 6) h6 (W.fix (d := 7) h7 ?_))
  clear h10 h6 h7
  have hTV2 : TextI V2 cs := hT.ext hE
  have i3 := hTV2.line hk
  have i4 := hTV2.word hk hnl
  by_cases hql : q < cs[k].2.2.2[n].2.2.length
  rotate_left
  · obtain rfl : q = cs[k].2.2.2[n].2.2.length := by omega
    rw [List.take_length, flat_next hgn] at hOw
    rw [← runAn_succ k hgn] at hOa
    (refine jjB ?_; refine jjB ?_; refine jjC ?_; apply jI; exact eI rfl; apply jI; exact eS rfl; apply jI; exact eI rfl; refine jF rfl rfl rfl (map_get (by omega)) ?_; intro _ _ _; refine jQ rfl rfl ?_; refine jh rfl ?_; refine jja rfl rfl (by omega) ?_; refine jz ?_; refine jjK rfl ?_; refine jjE ?_; refine jjC ?_; apply jI; exact eI rfl; refine jY rfl rfl (by omega) ?_; apply jJ; exact eI rfl; refine jz ?_)
    exact ⟨rfl, by ((refine Same.upd rfl ?_; refine Same.upd rfl ?_; refine Same.upd rfl ?_; refine Same.upd rfl ?_; refine Same.upd rfl ?_; refine Same.upd rfl ?_; refine Same.upd rfl ?_; refine Same.upd rfl ?_; refine Same.upd rfl ?_; refine Same.upd rfl ?_; refine Same.upd rfl ?_; refine Same.upd rfl ?_; refine Same.upd rfl ?_; refine Same.ovN' rfl ?_; assumption)), cs[k].2.2.2.length - (n + 1), by omega, n + 1, _, _, congrArg (Value.int .i64) (by omega), rfl, rfl, rfl, by omega, hE, hz, hOw, hOa⟩
  have hl1 : (((chW cs[k]).take n).flatten ++ cs[k].2.2.2[n].2.2.take q).length ≤ 1001000 := by
    have := flat_take hsm (n := n) (by omega)
    rw [List.length_append, List.length_take]; omega
  have hl2 : (runAn k (chW cs[k]) n ++ lnP k n q).length ≤ 1001000 := by
    have := flat_take hsm (n := n) (by omega)
    rw [List.length_append, lnP_len, runAn_len k (by omega)]; omega
  (refine jjB ?_; refine jjB ?_; refine jjC ?_; apply jI; exact eI rfl; apply jI; exact eS rfl; apply jI; exact eI rfl; refine jF rfl rfl rfl (map_get (by omega)) ?_; intro _ _ _; refine jQ rfl rfl ?_; refine jh rfl ?_; refine jjZ rfl rfl (by omega) ?_; refine jz ?_; refine jjJ rfl ?_; refine jjG ?_; refine jjB ?_; refine jjD ?_; refine jjC ?_; apply jI; exact eS rfl; apply jI; exact eS rfl; apply jI; exact eI rfl; refine jF rfl rfl rfl (map_get (by omega)) ?_; intro _ _ _; refine jQ rfl rfl ?_; apply jI; exact eI rfl; refine jF rfl rfl rfl (map_get (by omega)) ?_; intro _ _ _; refine jQ rfl rfl ?_)
  (refine jjP (v := .string _) rfl (by exact rfl) (by exact rfl) (by exact rfl) (by exact rfl) ?_; intro b40 w_b40 hb_b40 hs_b40 hS_b40 hk_b40; have hR_b40 := RowV.one (agg := false) (k := 1) rfl hk_b40)
  have z40 := hS_b40.size
  refine Ops.appendL (hOw.ext hS_b40.ext) (by omega) hR_b40 rfl rfl rfl rfl (one_str _) ?_ ?_ ?_
  · rw [List.length_map]; simp only [List.length_cons, List.length_nil]; omega
  · rw [List.length_map]; simp only [List.length_cons, List.length_nil]; omega
  intro wv2 w41 hA41 hO41 _ hown41
  have z41 := hA41.g.size
  have hE41 : Ext w w41 := hA41.ext (hE.trans hS_b40.ext) (by omega)
  rw [← List.map_singleton, ← List.map_append, flat_step (List.getElem?_eq_getElem hql)] at hO41
  have hOa41 := (hOa.ext hS_b40.ext).app hA41 (OwnL.ne (hOa.ext hS_b40.ext) (hOw.ext hS_b40.ext) (by decide))
  (apply jI; exact eS rfl; apply jI; exact eI rfl; apply jI; exact eI rfl; apply jI; exact eI rfl)
  (refine jjS (cells := [.int .i64 (k : Int), .int .i64 (n : Int), .int .i64 (q : Int)]) ?_ ?_; exact rfl)
  (refine jjP (v := .agg _) rfl (by exact rfl) (by exact rfl) (by exact rfl) (by exact rfl) ?_; intro b47 w_b47 hb_b47 hs_b47 hS_b47 hk_b47; have hR_b47 := RowV.one (agg := true) (k := 3) rfl hk_b47)
  have z47 := hS_b47.size
  refine Ops.appendL (hOa41.ext hS_b47.ext) (by omega) hR_b47 rfl rfl rfl rfl (one_pl ((k : Int), (n : Int), (q : Int))) ?_ ?_ ?_
  · rw [List.length_map]; simp only [List.length_cons, List.length_nil]; omega
  · rw [List.length_map]; simp only [List.length_cons, List.length_nil]; omega
  intro av2 w48 hA48 hO48 _ hown48
  have z48 := hA48.g.size
  have hE48 : Ext w w48 := hA48.ext (hE41.trans hS_b47.ext) (by omega)
  have e48 : (runAn k (chW cs[k]) n ++ lnP k n q).map encPl ++ [encPl ((k : Int), (n : Int), (q : Int))] = (runAn k (chW cs[k]) n ++ lnP k n (q + 1)).map encPl := by rw [lnP_succ]; simp
  rw [e48] at hO48
  have hO49 := (hO41.ext hS_b47.ext).app hA48 (OwnL.ne (hO41.ext hS_b47.ext) (hOa41.ext hS_b47.ext) (by decide))
  obtain ⟨wa2, wl2, wc2, rfl⟩ := hO49.slice3
  obtain ⟨aa2, al2, ac2, rfl⟩ := hO48.slice3
  (apply jJ; exact eS rfl; apply jJ; exact eS rfl; refine jz ?_; refine jjC ?_; apply jI; exact eI rfl; refine jY rfl rfl (by omega) ?_; apply jJ; exact eI rfl; refine jz ?_)
  exact ⟨rfl, by ((refine Same.upd rfl ?_; refine Same.upd rfl ?_; refine Same.upd rfl ?_; refine Same.upd rfl ?_; refine Same.upd rfl ?_; refine Same.upd rfl ?_; refine Same.upd rfl ?_; refine Same.upd rfl ?_; refine Same.upd rfl ?_; refine Same.upd rfl ?_; refine Same.upd rfl ?_; refine Same.upd rfl ?_; refine Same.upd rfl ?_; refine Same.upd rfl ?_; refine Same.upd rfl ?_; refine Same.upd rfl ?_; refine Same.upd rfl ?_; refine Same.upd rfl ?_; refine Same.upd rfl ?_; refine Same.upd rfl ?_; refine Same.upd rfl ?_; refine Same.upd rfl ?_; refine Same.upd rfl ?_; refine Same.upd rfl ?_; refine Same.upd rfl ?_; refine Same.upd rfl ?_; refine Same.upd rfl ?_; refine Same.upd rfl ?_; refine Same.upd rfl ?_; refine Same.upd rfl ?_; refine Same.upd rfl ?_; refine Same.upd rfl ?_; exact Same.ovN)), cs[k].2.2.2[n].2.2.length - (q + 1), by omega, q + 1, _, _, congrArg (Value.int .i64) (by omega), rfl, rfl, rfl, by omega, hE48, by omega, hO49, hO48⟩
end
end Go.Proofs.YtgmgiepdehlinaaDoor

/- The reference: index, joined, Length. -/
namespace Go.Proofs.YtgmgiepdehlinaaDoor
open Go.RowKit

set_option maxHeartbeats 1000000 in
theorem index_ref3 (a : Option Addr) (c n : Nat) (l : List Pl) (p : Pl) (j : Nat) (w : World) (hn : l.length = n) (hrow : RowV w true 3 (.slice a n c) (l.map encPl)) (hj : l[j]? = some p) (hpre : ∀ (m : Nat) (hm : m < l.length), m < j → l[m] ≠ p) : Ct Tryd.prog 53 [.slice a n c, encPl p] w fun v _ => v = .int .i64 (j : Int) := by
  subst hn
  have hlen := hrow.len
  rw [List.length_map] at hlen
  have hjl := (List.getElem?_eq_some_iff.1 hj).1
  have hje := (List.getElem?_eq_some_iff.1 hj).2
  obtain ⟨b, o, rfl, _⟩ := hrow.place' (map_get hjl)
  refine Ct.ofW (by simp) ?_
  (refine jjB ?_; refine jjC ?_)
  (refine jy rfl ?_; intro b3 w_b3 hb_b3 hs_b3 hS_b3 hk_b3; have hA_b3 := At.ofBlock hk_b3)
  (apply jJ; exact eI rfl; refine jz ?_; refine jjB ?_; refine jjC ?_; apply jJ; exact eI rfl; refine jz ?_; refine jjB ?_; refine jjD ?_)
  refine W.keep0 [(0, .slice (some ⟨b, o, none⟩) l.length c), (3, .pointer (some ⟨b3, 0, none⟩)), (5, .int .i64 ((0 : Nat) : Int))] ⟨eS rfl, eP rfl, eI rfl, trivial⟩ fun s0 => ?_
  refine W.loop (6 :: 7 :: 8 :: 9 :: 10 :: 11 :: 12 :: 13 :: 5 :: []) (fun g s' V => ∃ k : Nat, s' 5 = .int .i64 ((k : Nat) : Int) ∧ g = j - k ∧ k ≤ j) j ⟨0, rfl, rfl, Nat.zero_le _⟩ ?_
  rintro _ sd w1 hS1 ⟨k, h5, rfl, hk⟩
  refine W.fix h5 ?_
  clear h5
  have hkl : k < l.length := by omega
  obtain ⟨b', o', e', hA⟩ := hrow.place' (map_get hkl)
  cases e'
  (refine jjB ?_; refine jjB ?_)
  refine W.draw (fun w' => Ext w_b3 w') ?_
  intro w2 hS2
  have hE2 : Ext w_b3 w2 := hS1.ext.trans hS2.ext
  (refine jjV [0, 1, 2, 3, 4] ?_ ?_ ?_; (decide +kernel); (exact hE2); (((apply jjT; exact rfl; rintro w' hq; have := hq.toStep; apply jI; exact eS rfl; refine jz ?_; exact ⟨rfl, rfl⟩; apply jjT; exact rfl; rintro w' hq; have := hq.toStep; apply jI; exact eI rfl; refine jz ?_; exact ⟨rfl, rfl⟩; apply jjT; exact rfl; rintro w' hq; have := hq.toStep; refine jH _ rfl rfl rfl (by omega) ?_; refine jz ?_; exact ⟨rfl, rfl⟩; apply jjT; exact rfl; rintro w' hq; have := hq.toStep; refine jQ rfl rfl ?_; refine jz ?_; exact ⟨rfl, rfl⟩; apply jjT; exact rfl; rintro w' hq; have := hq.toStep; refine jO rfl rfl rfl rfl ?_; refine jz ?_; exact ⟨rfl, rfl⟩; refine jjU ?_))))
  by_cases hkj : l[k] = p
  · have e : k = j := by
      by_cases h : k < j
      · exact absurd hkj (hpre k hkl h)
      · omega
    subst e
    refine jjV [5] (by decide +kernel) hE2 (jjT (v := .bool false) rfl (fun w' q1 => ?_) (jjU ?_))
    · refine Ops.neqT (enc := encPl) l[k] p rfl rfl ?_
      rw [decide_eq_false (by simp [hkj])]
      refine jz ?_
      exact ⟨rfl, rfl⟩
    refine jjX (by decide +kernel) hE2 ?_
    (refine jjK rfl ?_; refine jjE ?_; refine jjB ?_; refine jjC ?_; apply jI; exact eI rfl; apply jJ; exact eI rfl; refine jz ?_; refine jjF ?_; refine jB rfl rfl ⟨inferInstance, ?_⟩)
    exact rfl
  · refine jjV [5] (by decide +kernel) hE2 (jjT (v := .bool true) rfl (fun w' q1 => ?_) (jjU ?_))
    · refine Ops.neqT (enc := encPl) l[k] p rfl rfl ?_
      rw [decide_eq_true hkj]
      refine jz ?_
      exact ⟨rfl, rfl⟩
    refine jjX (by decide +kernel) hE2 ?_
    have hkj' : k < j := by
      rcases Nat.lt_or_ge k j with h | h
      · exact h
      · have e : k = j := by omega
        subst e; exact absurd hje hkj
    (refine jjJ rfl ?_; refine jjG ?_; refine jjD ?_; refine jjC ?_; apply jI; exact eI rfl; refine jY rfl rfl (by omega) ?_; apply jJ; exact eI rfl; refine jz ?_)
    exact ⟨rfl, by ((refine Same.upd rfl ?_; refine Same.upd rfl ?_; refine Same.upd rfl ?_; refine Same.upd rfl ?_; refine Same.upd rfl ?_; refine Same.upd rfl ?_; refine Same.upd rfl ?_; refine Same.upd rfl ?_; refine Same.upd rfl ?_; refine Same.upd rfl ?_; exact Same.ovN)), j - (k + 1), by omega, inferInstance, k + 1, congrArg (Value.int .i64) (by omega), rfl, by omega⟩

theorem sum_le {m : Nat} : ∀ {ws : List ByteArray} , (∀ s ∈ ws, s.size ≤ m) → (ws.map (·.size)).sum ≤ ws.length * m
  | [], _ => by simp
  | x :: ws, h => by
    rw [List.map_cons, List.sum_cons, List.length_cons, Nat.add_mul]
    have := sum_le (ws := ws) fun s hs => h s (by simp [hs])
    have := h x (by simp)
    omega
theorem Length_ref3 (a : Option Addr) (c n : Nat) (ws : List ByteArray) (w : World) (hn : ws.length = n) (hrow : RowV w false 1 (.slice a n c) (ws.map strV)) (hs : ∀ s ∈ ws, s.size ≤ 1000) (hl : ws.length ≤ 1001000) : Ct Tryd.prog 54 [.slice a n c] w fun v _ => v = .int .i64 ((ws.length : Int) - 1 + ((ws.map (·.size)).sum : Nat)) := by
  subst hn
  have hI : RowI w (.slice a ws.length c) false 1 (ws.map strV) := ⟨hrow⟩
  refine Ct.ofW (by simp) ?_
  (refine jjB ?_; refine jjC ?_; apply jJ; exact eI rfl; refine jz ?_; refine jjB ?_; refine jjC ?_; apply jI; exact eS rfl; refine jh rfl ?_; refine jZ rfl rfl (by omega) ?_; apply jJ; exact eI rfl; refine jz ?_; refine jjB ?_; refine jjB ?_; refine jjC ?_; apply jJ; exact eI rfl; refine jz ?_; refine jjD ?_)
  refine W.keep0 [(0, .slice a ws.length c), (3, .int .i64 ((ws.length : Int) - 1)), (4, .int .i64 ((0 : Nat) : Int))] ⟨eS rfl, eI rfl, eI rfl, trivial⟩ fun s0 => ?_
  refine W.loop (8 :: 9 :: 10 :: 11 :: 14 :: 15 :: 16 :: 17 :: 18 :: 19 :: 20 :: 3 :: 12 :: 13 :: 4 :: []) (fun g s' V => ∃ k : Nat, s' 4 = .int .i64 ((k : Nat) : Int) ∧ s' 3 = .int .i64 ((ws.length : Int) - 1 + (((ws.take k).map (·.size)).sum : Nat)) ∧ g = ws.length - k ∧ k ≤ ws.length) ws.length ⟨0, rfl, by show Value.int _ _ = _; simp, rfl, Nat.zero_le _⟩ ?_
  rintro _ sd w1 hS1 ⟨k, h4, h3, rfl, hk⟩
  refine W.fix h4 (W.fix (d := 3) h3 ?_)
  clear h4 h3
  have hb := sum_le (ws := ws.take k) (m := 1000) fun s h => hs s (List.mem_of_mem_take h)
  have hb2 : (ws.take k).length * 1000 ≤ 1001000 * 1000 := Nat.mul_le_mul_right _ (by rw [List.length_take]; omega)
  by_cases hkl : k < ws.length
  · have hsz := hs _ (List.getElem_mem hkl)
    (refine jjB ?_; refine jjB ?_; refine jjC ?_; apply jI; exact eI rfl; apply jI; exact eS rfl; refine jh rfl ?_; refine jjZ rfl rfl (by omega) ?_; refine jz ?_; refine jjJ rfl ?_; refine jjG ?_; refine jjB ?_; refine jjD ?_; refine jjC ?_; apply jI; exact eI rfl; apply jI; exact eS rfl; apply jI; exact eI rfl; refine jF rfl rfl rfl (map_get (by omega)) ?_; intro _ _ _; refine jQ rfl rfl ?_; refine ji rfl ?_; refine jY rfl rfl (by omega) ?_; apply jJ; exact eI rfl; refine jz ?_; refine jjC ?_; apply jI; exact eI rfl; refine jY rfl rfl (by omega) ?_; apply jJ; exact eI rfl; refine jz ?_)
    refine ⟨rfl, by ((refine Same.upd rfl ?_; refine Same.upd rfl ?_; refine Same.upd rfl ?_; refine Same.upd rfl ?_; refine Same.upd rfl ?_; refine Same.upd rfl ?_; refine Same.upd rfl ?_; refine Same.upd rfl ?_; refine Same.upd rfl ?_; refine Same.upd rfl ?_; refine Same.upd rfl ?_; refine Same.upd rfl ?_; refine Same.upd rfl ?_; refine Same.upd rfl ?_; refine Same.upd rfl ?_; refine Same.upd rfl ?_; refine Same.upd rfl ?_; exact Same.ovN)), ws.length - (k + 1), by omega, inferInstance, k + 1, congrArg (Value.int .i64) (by omega), ?_, rfl, by omega⟩
    refine congrArg (Value.int .i64) ?_
    rw [take_snoc_get (List.getElem?_eq_getElem hkl), List.map_append, List.sum_append]
    simp only [List.map_cons, List.map_nil, List.sum_cons, List.sum_nil]
    omega
  · (refine jjB ?_; refine jjB ?_; refine jjC ?_; apply jI; exact eI rfl; apply jI; exact eS rfl; refine jh rfl ?_; refine jja rfl rfl (by omega) ?_; refine jz ?_; refine jjK rfl ?_; refine jjE ?_; refine jjB ?_; refine jjC ?_; apply jI; exact eI rfl; apply jJ; exact eI rfl; refine jz ?_; refine jjF ?_; refine jB rfl rfl ⟨inferInstance, ?_⟩)
    have : k = ws.length := by omega
    subst this
    rw [List.take_length]; exact rfl
end Go.Proofs.YtgmgiepdehlinaaDoor

/- The reference: joined. -/
namespace Go.Proofs.YtgmgiepdehlinaaDoor
open Go.RowKit

theorem joined_ref3 (a : Option Addr) (c n : Nat) (ws : List ByteArray) (w : World) (hn : ws.length = n) (hrow : RowV w false 1 (.slice a n c) (ws.map strV)) (hs : ∀ s ∈ ws, s.size ≤ 1000) (hl : ws.length ≤ 1001000) : Ct Tryd.prog 55 [.slice a n c] w fun v _ => v = .string (joinB ws) := by
  subst hn
  have hI : RowI w (.slice a ws.length c) false 1 (ws.map strV) := ⟨hrow⟩
  refine Ct.ofW (by simp) ?_
  (refine jjB ?_; refine jjC ?_; apply jJ; exact eT rfl; refine jz ?_; refine jjB ?_; refine jjC ?_; apply jJ; exact eT rfl; refine jz ?_; refine jjB ?_; refine jjB ?_; refine jjC ?_; apply jJ; exact eI rfl; refine jz ?_; refine jjD ?_)
  refine W.keep0 [(0, .slice a ws.length c), (3, .string (joinB (ws.take 0))), (4, .int .i64 ((0 : Nat) : Int))] ⟨eS rfl, eT rfl, eI rfl, trivial⟩ fun s0 => ?_
  refine W.loop (5 :: 6 :: 7 :: 8 :: 11 :: 12 :: 13 :: 14 :: 3 :: 15 :: 16 :: 17 :: 18 :: 19 :: 20 :: 9 :: 10 :: 4 :: []) (fun g s' V => ∃ k : Nat, s' 4 = .int .i64 ((k : Nat) : Int) ∧ s' 3 = .string (joinB (ws.take k)) ∧ g = ws.length - k ∧ k ≤ ws.length) ws.length ⟨0, rfl, rfl, rfl, Nat.zero_le _⟩ ?_
  rintro _ sd w1 hS1 ⟨k, h4, h3, rfl, hk⟩
  refine W.fix h4 (W.fix (d := 3) h3 ?_)
  clear h4 h3
  have hb := joinB_size (ws.take k) (m := 1000) fun s h => hs s (List.mem_of_mem_take h)
  have hb2 : (ws.take k).length * (1000 + 1) ≤ 1001000 * (1000 + 1) := Nat.mul_le_mul_right _ (by rw [List.length_take]; omega)
  by_cases hkl : k < ws.length
  rotate_left
  · (refine jjB ?_; refine jjB ?_; refine jjC ?_; apply jI; exact eI rfl; apply jI; exact eS rfl; refine jh rfl ?_; refine jja rfl rfl (by omega) ?_; refine jz ?_; refine jjK rfl ?_; refine jjE ?_; refine jjB ?_; refine jjC ?_; apply jI; exact eT rfl; apply jJ; exact eT rfl; refine jz ?_; refine jjF ?_; refine jB rfl rfl ⟨inferInstance, ?_⟩)
    have : k = ws.length := by omega
    subst this
    rw [List.take_length]; exact rfl
  have hsz := hs _ (List.getElem_mem hkl)
  have hg := List.getElem?_eq_getElem hkl
  by_cases h0 : 0 < k
  · (refine jjB ?_; refine jjB ?_; refine jjC ?_; apply jI; exact eI rfl; apply jI; exact eS rfl; refine jh rfl ?_; refine jjZ rfl rfl (by omega) ?_; refine jz ?_; refine jjJ rfl ?_; refine jjG ?_; refine jjB ?_; refine jjD ?_; refine jjB ?_; refine jjB ?_; refine jjC ?_; apply jI; exact eI rfl; refine jjd rfl rfl (by omega) ?_; refine jz ?_; refine jjJ rfl ?_; refine jjC ?_; apply jI; exact eT rfl)
    refine Ops.cat (a := joinB (ws.take k)) (b := ⟨#[32]⟩) rfl rfl (by show _ + 1 ≤ _; omega) ?_
    (apply jJ; exact eT rfl; refine jz ?_; refine jjC ?_; apply jI; exact eT rfl; apply jI; exact eS rfl; apply jI; exact eI rfl; refine jF rfl rfl rfl (map_get (by omega)) ?_; intro _ _ _; refine jQ rfl rfl ?_)
    refine Ops.cat (a := joinB (ws.take k) ++ ⟨#[32]⟩) (b := ws[k]) rfl rfl (by rw [ByteArray.size_append]; show _ + 1 + _ ≤ _; omega) ?_
    (apply jJ; exact eT rfl; refine jz ?_; refine jjC ?_; apply jI; exact eI rfl; refine jY rfl rfl (by omega) ?_; apply jJ; exact eI rfl; refine jz ?_)
    exact ⟨rfl, by ((refine Same.upd rfl ?_; refine Same.upd rfl ?_; refine Same.upd rfl ?_; refine Same.upd rfl ?_; refine Same.upd rfl ?_; refine Same.upd rfl ?_; refine Same.upd rfl ?_; refine Same.upd rfl ?_; refine Same.upd rfl ?_; refine Same.upd rfl ?_; refine Same.upd rfl ?_; refine Same.upd rfl ?_; refine Same.upd rfl ?_; refine Same.upd rfl ?_; refine Same.upd rfl ?_; refine Same.upd rfl ?_; refine Same.upd rfl ?_; refine Same.upd rfl ?_; refine Same.upd rfl ?_; refine Same.upd rfl ?_; refine Same.upd rfl ?_; exact Same.ovN)), ws.length - (k + 1), by omega, inferInstance, k + 1, congrArg (Value.int .i64) (by omega), congrArg Value.string (joinB_step hg h0).symm, rfl, by omega⟩
  · obtain rfl : k = 0 := by omega
    (refine jjB ?_; refine jjB ?_; refine jjC ?_; apply jI; exact eI rfl; apply jI; exact eS rfl; refine jh rfl ?_; refine jjZ rfl rfl (by omega) ?_; refine jz ?_; refine jjJ rfl ?_; refine jjG ?_; refine jjB ?_; refine jjD ?_; refine jjB ?_; refine jjB ?_; refine jjC ?_; apply jI; exact eI rfl; refine jje rfl rfl (by omega) ?_; refine jz ?_; refine jjK rfl ?_; refine jjG ?_; refine jjC ?_; apply jI; exact eT rfl; apply jI; exact eS rfl; apply jI; exact eI rfl; refine jF rfl rfl rfl (map_get (by omega)) ?_; intro _ _ _; refine jQ rfl rfl ?_)
    refine Ops.cat (a := joinB (ws.take 0)) (b := ws[0]) rfl rfl (by show 0 + _ ≤ _; omega) ?_
    (apply jJ; exact eT rfl; refine jz ?_; refine jjC ?_; apply jI; exact eI rfl; refine jY rfl rfl (by omega) ?_; apply jJ; exact eI rfl; refine jz ?_)
    refine ⟨rfl, by ((refine Same.upd rfl ?_; refine Same.upd rfl ?_; refine Same.upd rfl ?_; refine Same.upd rfl ?_; refine Same.upd rfl ?_; refine Same.upd rfl ?_; refine Same.upd rfl ?_; refine Same.upd rfl ?_; refine Same.upd rfl ?_; refine Same.upd rfl ?_; refine Same.upd rfl ?_; refine Same.upd rfl ?_; refine Same.upd rfl ?_; refine Same.upd rfl ?_; refine Same.upd rfl ?_; refine Same.upd rfl ?_; refine Same.upd rfl ?_; refine Same.upd rfl ?_; exact Same.ovN)), ws.length - (0 + 1), by omega, inferInstance, 0 + 1, congrArg (Value.int .i64) (by omega), congrArg Value.string ?_, rfl, by omega⟩
    rw [take_snoc_get hg]
    show joinB [] ++ _ = joinB [_]
    rw [joinB_one]
    apply ByteArray.ext
    simp [joinB_nil, ByteArray.data_append]
end Go.Proofs.YtgmgiepdehlinaaDoor

/- The reference: slip. -/
namespace Go.Proofs.YtgmgiepdehlinaaDoor
open Go.RowKit

theorem OwnL.nth {w : World} {B e : Nat} {agg : Bool} {k : Nat} {v : Value} {xs : List Value} (h : OwnL w B e agg k v xs) : ∃ a c, v = .slice a xs.length c := h.slice
section
variable (a : Option Addr) (c : Nat) (cs : List Ch) (w : World) [hrow : RowI w (.slice a cs.length c) true 2 (cs.map encCh)] [hT : TextI w cs]
set_option maxHeartbeats 4000000 in
theorem slip_ref3 (hs : SmallT cs) (wd side : Int) (k i : Nat) (m : Int × Int) (hk : k < cs.length) (hi : (runA k (chW cs[k]))[i]? = some ((k : Int), m)) : Ct Tryd.prog 29 [.agg #[.slice a cs.length c], encCut wd side, encPl ((k : Int), m)] w fun v _ => v = encSl (slipX (rnW cs[k]) side wd i ((k : Int), m)) := by
  obtain ⟨hn, hsz⟩ := rnW_small hs hk
  have hal := runA_len k (chW cs[k])
  have hil := (List.getElem?_eq_some_iff.1 hi).1
  refine Ct.ofW (by simp) ?_
  repeat' (first |((first|apply jI|apply jJ|apply jK rfl|apply jL rfl); first|exact eI rfl|exact eB rfl|exact eP rfl|exact eS rfl|exact eT rfl|exact eA rfl|exact eU rfl|exact eF rfl|exact eM rfl|exact eN rfl|exact rfl)|(refine jM ?_; first|refine jN rfl rfl rfl ?_|refine jO rfl rfl rfl rfl ?_|refine jP rfl rfl rfl ?_|refine jQ rfl rfl ?_|refine jR (by assumption) rfl rfl ?_)|(refine jS ?_; first|refine jT rfl rfl rfl ?_|refine jU rfl rfl rfl rfl ?_|refine jV rfl rfl ?_)|(refine jW ?_; first|refine jX rfl rfl ?_|refine jY rfl rfl (by omega) ?_|refine jZ rfl rfl (by omega) ?_|refine ja rfl rfl ?_|refine jb rfl rfl ?_|refine jc rfl rfl ?_|refine jd rfl rfl ?_|refine je rfl rfl ?_|refine jf rfl rfl ?_)|(refine jg ?_; first|refine jh rfl ?_|refine ji rfl ?_|refine jj rfl rfl ?_|refine jk rfl rfl ?_|refine jl rfl ?_)|(refine jm ?_; refine jn rfl ?_)|(refine jo ?_; first|refine jp rfl ?_|refine jq rfl ?_|refine jr rfl ?_|refine js rfl ?_) |(refine jE ?_; first|(refine jF rfl rfl rfl (map_get (by omega)) ?_; intro _ _ _)|refine jG rfl rfl rfl (by omega) ?_)|refine jt rfl rfl rfl (by omega) ?_|refine ju rfl rfl ?_|refine jv ?_|refine jw rfl ?_ |refine jz ?_|(refine jjA ?_; first|refine jjB ?_|refine jjC ?_|refine jjD ?_|refine jjE ?_|refine jjF ?_|refine jjG ?_|refine jjH ?_|refine jjI ?_|refine jjJ rfl ?_|refine jjK rfl ?_) |refine jA rfl ⟨⟨_, rfl⟩, ?_⟩|refine jB rfl rfl ⟨inferInstance, ?_⟩|refine jC rfl rfl rfl ⟨inferInstance, ?_⟩|refine jD rfl rfl rfl rfl ⟨inferInstance, ?_⟩|refine jA rfl ⟨inferInstance, ?_⟩)
  (refine jy rfl ?_; intro b3 w_b3 hb_b3 hs_b3 hS_b3 hk_b3; have hA_b3 := At.ofBlock hk_b3)
  repeat' (first |((first|apply jI|apply jJ|apply jK rfl|apply jL rfl); first|exact eI rfl|exact eB rfl|exact eP rfl|exact eS rfl|exact eT rfl|exact eA rfl|exact eU rfl|exact eF rfl|exact eM rfl|exact eN rfl|exact rfl)|(refine jM ?_; first|refine jN rfl rfl rfl ?_|refine jO rfl rfl rfl rfl ?_|refine jP rfl rfl rfl ?_|refine jQ rfl rfl ?_|refine jR (by assumption) rfl rfl ?_)|(refine jS ?_; first|refine jT rfl rfl rfl ?_|refine jU rfl rfl rfl rfl ?_|refine jV rfl rfl ?_)|(refine jW ?_; first|refine jX rfl rfl ?_|refine jY rfl rfl (by omega) ?_|refine jZ rfl rfl (by omega) ?_|refine ja rfl rfl ?_|refine jb rfl rfl ?_|refine jc rfl rfl ?_|refine jd rfl rfl ?_|refine je rfl rfl ?_|refine jf rfl rfl ?_)|(refine jg ?_; first|refine jh rfl ?_|refine ji rfl ?_|refine jj rfl rfl ?_|refine jk rfl rfl ?_|refine jl rfl ?_)|(refine jm ?_; refine jn rfl ?_)|(refine jo ?_; first|refine jp rfl ?_|refine jq rfl ?_|refine jr rfl ?_|refine js rfl ?_) |(refine jE ?_; first|(refine jF rfl rfl rfl (map_get (by omega)) ?_; intro _ _ _)|refine jG rfl rfl rfl (by omega) ?_)|refine jt rfl rfl rfl (by omega) ?_|refine ju rfl rfl ?_|refine jv ?_|refine jw rfl ?_ |refine jz ?_|(refine jjA ?_; first|refine jjB ?_|refine jjC ?_|refine jjD ?_|refine jjE ?_|refine jjF ?_|refine jjG ?_|refine jjH ?_|refine jjI ?_|refine jjJ rfl ?_|refine jjK rfl ?_) |refine jA rfl ⟨⟨_, rfl⟩, ?_⟩|refine jB rfl rfl ⟨inferInstance, ?_⟩|refine jC rfl rfl rfl ⟨inferInstance, ?_⟩|refine jD rfl rfl rfl rfl ⟨inferInstance, ?_⟩|refine jA rfl ⟨inferInstance, ?_⟩)
  (refine jy rfl ?_; intro b4 w_b4 hb_b4 hs_b4 hS_b4 hk_b4; have hA_b4 := At.ofBlock hk_b4)
  repeat' (first |((first|apply jI|apply jJ|apply jK rfl|apply jL rfl); first|exact eI rfl|exact eB rfl|exact eP rfl|exact eS rfl|exact eT rfl|exact eA rfl|exact eU rfl|exact eF rfl|exact eM rfl|exact eN rfl|exact rfl)|(refine jM ?_; first|refine jN rfl rfl rfl ?_|refine jO rfl rfl rfl rfl ?_|refine jP rfl rfl rfl ?_|refine jQ rfl rfl ?_|refine jR (by assumption) rfl rfl ?_)|(refine jS ?_; first|refine jT rfl rfl rfl ?_|refine jU rfl rfl rfl rfl ?_|refine jV rfl rfl ?_)|(refine jW ?_; first|refine jX rfl rfl ?_|refine jY rfl rfl (by omega) ?_|refine jZ rfl rfl (by omega) ?_|refine ja rfl rfl ?_|refine jb rfl rfl ?_|refine jc rfl rfl ?_|refine jd rfl rfl ?_|refine je rfl rfl ?_|refine jf rfl rfl ?_)|(refine jg ?_; first|refine jh rfl ?_|refine ji rfl ?_|refine jj rfl rfl ?_|refine jk rfl rfl ?_|refine jl rfl ?_)|(refine jm ?_; refine jn rfl ?_)|(refine jo ?_; first|refine jp rfl ?_|refine jq rfl ?_|refine jr rfl ?_|refine js rfl ?_) |(refine jE ?_; first|(refine jF rfl rfl rfl (map_get (by omega)) ?_; intro _ _ _)|refine jG rfl rfl rfl (by omega) ?_)|refine jt rfl rfl rfl (by omega) ?_|refine ju rfl rfl ?_|refine jv ?_|refine jw rfl ?_ |refine jz ?_|(refine jjA ?_; first|refine jjB ?_|refine jjC ?_|refine jjD ?_|refine jjE ?_|refine jjF ?_|refine jjG ?_|refine jjH ?_|refine jjI ?_|refine jjJ rfl ?_|refine jjK rfl ?_) |refine jA rfl ⟨⟨_, rfl⟩, ?_⟩|refine jB rfl rfl ⟨inferInstance, ?_⟩|refine jC rfl rfl rfl ⟨inferInstance, ?_⟩|refine jD rfl rfl rfl rfl ⟨inferInstance, ?_⟩|refine jA rfl ⟨inferInstance, ?_⟩)
  (refine jy rfl ?_; intro b5 w_b5 hb_b5 hs_b5 hS_b5 hk_b5; have hA_b5 := At.ofBlock hk_b5)
  ((repeat' (first |((first|apply jI|apply jJ|apply jK rfl|apply jL rfl); first|exact eI rfl|exact eB rfl|exact eP rfl|exact eS rfl|exact eT rfl|exact eA rfl|exact eU rfl|exact eF rfl|exact eM rfl|exact eN rfl|exact rfl)|(refine jM ?_; first|refine jN rfl rfl rfl ?_|refine jO rfl rfl rfl rfl ?_|refine jP rfl rfl rfl ?_|refine jQ rfl rfl ?_|refine jR (by assumption) rfl rfl ?_)|(refine jS ?_; first|refine jT rfl rfl rfl ?_|refine jU rfl rfl rfl rfl ?_|refine jV rfl rfl ?_)|(refine jW ?_; first|refine jX rfl rfl ?_|refine jY rfl rfl (by omega) ?_|refine jZ rfl rfl (by omega) ?_|refine ja rfl rfl ?_|refine jb rfl rfl ?_|refine jc rfl rfl ?_|refine jd rfl rfl ?_|refine je rfl rfl ?_|refine jf rfl rfl ?_)|(refine jg ?_; first|refine jh rfl ?_|refine ji rfl ?_|refine jj rfl rfl ?_|refine jk rfl rfl ?_|refine jl rfl ?_)|(refine jm ?_; refine jn rfl ?_)|(refine jo ?_; first|refine jp rfl ?_|refine jq rfl ?_|refine jr rfl ?_|refine js rfl ?_) |(refine jE ?_; first|(refine jF rfl rfl rfl (map_get (by omega)) ?_; intro _ _ _)|refine jG rfl rfl rfl (by omega) ?_)|refine jt rfl rfl rfl (by omega) ?_|refine ju rfl rfl ?_|refine jv ?_|refine jw rfl ?_ |refine jz ?_|(refine jjA ?_; first|refine jjB ?_|refine jjC ?_|refine jjD ?_|refine jjE ?_|refine jjF ?_|refine jjG ?_|refine jjH ?_|refine jjI ?_|refine jjJ rfl ?_|refine jjK rfl ?_) |refine jA rfl ⟨⟨_, rfl⟩, ?_⟩|refine jB rfl rfl ⟨inferInstance, ?_⟩|refine jC rfl rfl rfl ⟨inferInstance, ?_⟩|refine jD rfl rfl rfl rfl ⟨inferInstance, ?_⟩|refine jA rfl ⟨inferInstance, ?_⟩)); refine jjY ?_; intro b6 w_b6 hb_b6 hs_b6 hS_b6 hk_b6; have hA_b6 := Bk.of hk_b6)
  repeat' (first |((first|apply jI|apply jJ|apply jK rfl|apply jL rfl); first|exact eI rfl|exact eB rfl|exact eP rfl|exact eS rfl|exact eT rfl|exact eA rfl|exact eU rfl|exact eF rfl|exact eM rfl|exact eN rfl|exact rfl)|(refine jM ?_; first|refine jN rfl rfl rfl ?_|refine jO rfl rfl rfl rfl ?_|refine jP rfl rfl rfl ?_|refine jQ rfl rfl ?_|refine jR (by assumption) rfl rfl ?_)|(refine jS ?_; first|refine jT rfl rfl rfl ?_|refine jU rfl rfl rfl rfl ?_|refine jV rfl rfl ?_)|(refine jW ?_; first|refine jX rfl rfl ?_|refine jY rfl rfl (by omega) ?_|refine jZ rfl rfl (by omega) ?_|refine ja rfl rfl ?_|refine jb rfl rfl ?_|refine jc rfl rfl ?_|refine jd rfl rfl ?_|refine je rfl rfl ?_|refine jf rfl rfl ?_)|(refine jg ?_; first|refine jh rfl ?_|refine ji rfl ?_|refine jj rfl rfl ?_|refine jk rfl rfl ?_|refine jl rfl ?_)|(refine jm ?_; refine jn rfl ?_)|(refine jo ?_; first|refine jp rfl ?_|refine jq rfl ?_|refine jr rfl ?_|refine js rfl ?_) |(refine jE ?_; first|(refine jF rfl rfl rfl (map_get (by omega)) ?_; intro _ _ _)|refine jG rfl rfl rfl (by omega) ?_)|refine jt rfl rfl rfl (by omega) ?_|refine ju rfl rfl ?_|refine jv ?_|refine jw rfl ?_ |refine jz ?_|(refine jjA ?_; first|refine jjB ?_|refine jjC ?_|refine jjD ?_|refine jjE ?_|refine jjF ?_|refine jjG ?_|refine jjH ?_|refine jjI ?_|refine jjJ rfl ?_|refine jjK rfl ?_) |refine jA rfl ⟨⟨_, rfl⟩, ?_⟩|refine jB rfl rfl ⟨inferInstance, ?_⟩|refine jC rfl rfl rfl ⟨inferInstance, ?_⟩|refine jD rfl rfl rfl rfl ⟨inferInstance, ?_⟩|refine jA rfl ⟨inferInstance, ?_⟩)
  refine jjQ (Run_ref3 a c cs _ hs k hk) rfl rfl ?_
  rintro _ w7 hS7 ⟨_, _, rfl, hOw, hOa⟩
  have hinj := runA_nodup k (chW cs[k])
  generalize hws : rnW cs[k] = ws at hn hsz hOw
  have hlen : (runA k (chW cs[k])).length = ws.length := by rw [hal, ← hws]
  generalize runA k (chW cs[k]) = ps at *
  obtain ⟨wa, wc, rfl⟩ := hOw.slice
  obtain ⟨aa, ac, rfl⟩ := hOa.slice
  have hR := hOw.row
  have hRa := hOa.row
  rw [List.length_map] at hR hRa
  have hi' : i < ws.length := by omega
  have h32 : TextI w7 cs := inferInstance
  have z7 := hS7.size
  have hb6 : Bk w7 b6 [.int .i64 0, .int .i64 0, .int .i64 0, .string ⟨#[]⟩, .string ⟨#[]⟩, .string ⟨#[]⟩] 32 := hA_b6.ext hS7.ext
  have hb4 : At w7 b4 0 [.int .i64 wd, .int .u8 side] := inferInstance
  have hb5 : At w7 b5 0 [.int .i64 (k : Int), .int .i64 m.1, .int .i64 m.2] := inferInstance
  have hE7 : Ext w w7 := inferInstance
  repeat' (first |((first|apply jI|apply jJ|apply jK rfl|apply jL rfl); first|exact eI rfl|exact eB rfl|exact eP rfl|exact eS rfl|exact eT rfl|exact eA rfl|exact eU rfl|exact eF rfl|exact eM rfl|exact eN rfl|exact rfl)|(refine jM ?_; first|refine jN rfl rfl rfl ?_|refine jO rfl rfl rfl rfl ?_|refine jP rfl rfl rfl ?_|refine jQ rfl rfl ?_|refine jR (by assumption) rfl rfl ?_)|(refine jS ?_; first|refine jT rfl rfl rfl ?_|refine jU rfl rfl rfl rfl ?_|refine jV rfl rfl ?_)|(refine jW ?_; first|refine jX rfl rfl ?_|refine jY rfl rfl (by omega) ?_|refine jZ rfl rfl (by omega) ?_|refine ja rfl rfl ?_|refine jb rfl rfl ?_|refine jc rfl rfl ?_|refine jd rfl rfl ?_|refine je rfl rfl ?_|refine jf rfl rfl ?_)|(refine jg ?_; first|refine jh rfl ?_|refine ji rfl ?_|refine jj rfl rfl ?_|refine jk rfl rfl ?_|refine jl rfl ?_)|(refine jm ?_; refine jn rfl ?_)|(refine jo ?_; first|refine jp rfl ?_|refine jq rfl ?_|refine jr rfl ?_|refine js rfl ?_) |(refine jE ?_; first|(refine jF rfl rfl rfl (map_get (by omega)) ?_; intro _ _ _)|refine jG rfl rfl rfl (by omega) ?_)|refine jt rfl rfl rfl (by omega) ?_|refine ju rfl rfl ?_|refine jv ?_|refine jw rfl ?_ |refine jz ?_|(refine jjA ?_; first|refine jjB ?_|refine jjC ?_|refine jjD ?_|refine jjE ?_|refine jjF ?_|refine jjG ?_|refine jjH ?_|refine jjI ?_|refine jjJ rfl ?_|refine jjK rfl ?_) |refine jA rfl ⟨⟨_, rfl⟩, ?_⟩|refine jB rfl rfl ⟨inferInstance, ?_⟩|refine jC rfl rfl rfl ⟨inferInstance, ?_⟩|refine jD rfl rfl rfl rfl ⟨inferInstance, ?_⟩|refine jA rfl ⟨inferInstance, ?_⟩)
  refine jjQ (index_ref3 aa _ _ ps ((k : Int), m) i _ (by rw [List.length_map]) hOa.row hi (fun q hq hqi => fun e => by
    have := nodup_inj hinj (List.getElem?_eq_getElem hq) (hi.trans (by rw [e]))
    omega)) rfl rfl ?_
  rintro _ w8 hS8 rfl
  have hlm : (ws.map strV).length = ws.length := List.length_map _
  rw [hlm] at hOw
  obtain ⟨bw, ow, rfl, _⟩ := hOw.row.place' (map_get hi')
  have hcw := hOw.row.cap.2
  rw [hlm] at hcw
  rw [hlm]
  repeat' (first |((first|apply jI|apply jJ|apply jK rfl|apply jL rfl); first|exact eI rfl|exact eB rfl|exact eP rfl|exact eS rfl|exact eT rfl|exact eA rfl|exact eU rfl|exact eF rfl|exact eM rfl|exact eN rfl|exact rfl)|(refine jM ?_; first|refine jN rfl rfl rfl ?_|refine jO rfl rfl rfl rfl ?_|refine jP rfl rfl rfl ?_|refine jQ rfl rfl ?_|refine jR (by assumption) rfl rfl ?_)|(refine jS ?_; first|refine jT rfl rfl rfl ?_|refine jU rfl rfl rfl rfl ?_|refine jV rfl rfl ?_)|(refine jW ?_; first|refine jX rfl rfl ?_|refine jY rfl rfl (by omega) ?_|refine jZ rfl rfl (by omega) ?_|refine ja rfl rfl ?_|refine jb rfl rfl ?_|refine jc rfl rfl ?_|refine jd rfl rfl ?_|refine je rfl rfl ?_|refine jf rfl rfl ?_)|(refine jg ?_; first|refine jh rfl ?_|refine ji rfl ?_|refine jj rfl rfl ?_|refine jk rfl rfl ?_|refine jl rfl ?_)|(refine jm ?_; refine jn rfl ?_)|(refine jo ?_; first|refine jp rfl ?_|refine jq rfl ?_|refine jr rfl ?_|refine js rfl ?_) |(refine jE ?_; first|(refine jF rfl rfl rfl (map_get (by omega)) ?_; intro _ _ _)|refine jG rfl rfl rfl (by omega) ?_)|refine jt rfl rfl rfl (by omega) ?_|refine ju rfl rfl ?_|refine jv ?_|refine jw rfl ?_ |refine jz ?_|(refine jjA ?_; first|refine jjB ?_|refine jjC ?_|refine jjD ?_|refine jjE ?_|refine jjF ?_|refine jjG ?_|refine jjH ?_|refine jjI ?_|refine jjJ rfl ?_|refine jjK rfl ?_) |refine jA rfl ⟨⟨_, rfl⟩, ?_⟩|refine jB rfl rfl ⟨inferInstance, ?_⟩|refine jC rfl rfl rfl ⟨inferInstance, ?_⟩|refine jD rfl rfl rfl rfl ⟨inferInstance, ?_⟩|refine jA rfl ⟨inferInstance, ?_⟩)
  have hE8 : Ext w w8 := inferInstance
  refine W.draw (fun w' => Ext w8 w') ?_
  intro w9 hS9
  have hA9 : At w8 bw (ow + i) (strV ws[i]).cells.toList := by
    obtain ⟨b', o', e', hA⟩ := hOw.row.place' (map_get hi')
    cases e'
    rw [Nat.mul_one] at hA
    exact hA.ext hS8.ext
  (refine jjV [0, 1, 2, 3, 4, 5, 6, 7, 8, 9] ?_ ?_ ?_; (decide +kernel); (exact hS9.ext); ((repeat' (first|(apply jjT; exact rfl)|rintro w' hq; have := hq.toStep; |((first|apply jI|apply jJ|apply jK rfl|apply jL rfl); first|exact eI rfl|exact eB rfl|exact eP rfl|exact eS rfl|exact eT rfl|exact eA rfl|exact eU rfl|exact eF rfl|exact eM rfl|exact eN rfl|exact rfl)|(refine jM ?_; first|refine jN rfl rfl rfl ?_|refine jO rfl rfl rfl rfl ?_|refine jP rfl rfl rfl ?_|refine jQ rfl rfl ?_|refine jR (by assumption) rfl rfl ?_)|(refine jS ?_; first|refine jT rfl rfl rfl ?_|refine jU rfl rfl rfl rfl ?_|refine jV rfl rfl ?_)|(refine jW ?_; first|refine jX rfl rfl ?_|refine jY rfl rfl (by omega) ?_|refine jZ rfl rfl (by omega) ?_|refine ja rfl rfl ?_|refine jb rfl rfl ?_|refine jc rfl rfl ?_|refine jd rfl rfl ?_|refine je rfl rfl ?_|refine jf rfl rfl ?_)|(refine jg ?_; first|refine jh rfl ?_|refine ji rfl ?_|refine jj rfl rfl ?_|refine jk rfl rfl ?_|refine jl rfl ?_)|(refine jm ?_; refine jn rfl ?_)|(refine jo ?_; first|refine jp rfl ?_|refine jq rfl ?_|refine jr rfl ?_|refine js rfl ?_) |(refine jE ?_; first|refine jG rfl rfl rfl (by omega) ?_|refine jG rfl rfl (by assumption) (by omega) ?_|refine jH _ rfl rfl rfl (by omega) ?_)|refine jt rfl rfl rfl (by omega) ?_|refine ju rfl rfl ?_|refine jv ?_|refine jw rfl ?_|refine jz ?_|exact ⟨rfl, rfl⟩|refine jjU ?_))))
  refine jjX (by decide +kernel) hS9.ext ?_
  have hsi := hsz _ (List.getElem_mem hi')
  have hE9 : Ext w7 w9 := hS8.ext.trans hS9.ext
  have hw9 : Ext w w9 := hE8.trans hS9.ext
  have hb49 : At w9 b4 0 [.int .i64 wd, .int .u8 side] := hb4.ext hE9
  repeat' (first |((first|apply jI|apply jJ|apply jK rfl|apply jL rfl); first|exact eI rfl|exact eB rfl|exact eP rfl|exact eS rfl|exact eT rfl|exact eA rfl|exact eU rfl|exact eF rfl|exact eM rfl|exact eN rfl|exact rfl)|(refine jM ?_; first|refine jN rfl rfl rfl ?_|refine jO rfl rfl rfl rfl ?_|refine jP rfl rfl rfl ?_|refine jQ rfl rfl ?_|refine jR (by assumption) rfl rfl ?_)|(refine jS ?_; first|refine jT rfl rfl rfl ?_|refine jU rfl rfl rfl rfl ?_|refine jV rfl rfl ?_)|(refine jW ?_; first|refine jX rfl rfl ?_|refine jY rfl rfl (by omega) ?_|refine jZ rfl rfl (by omega) ?_|refine ja rfl rfl ?_|refine jb rfl rfl ?_|refine jc rfl rfl ?_|refine jd rfl rfl ?_|refine je rfl rfl ?_|refine jf rfl rfl ?_)|(refine jg ?_; first|refine jh rfl ?_|refine ji rfl ?_|refine jj rfl rfl ?_|refine jk rfl rfl ?_|refine jl rfl ?_)|(refine jm ?_; refine jn rfl ?_)|(refine jo ?_; first|refine jp rfl ?_|refine jq rfl ?_|refine jr rfl ?_|refine js rfl ?_) |(refine jE ?_; first|(refine jF rfl rfl rfl (map_get (by omega)) ?_; intro _ _ _)|refine jG rfl rfl rfl (by omega) ?_)|refine jt rfl rfl rfl (by omega) ?_|refine ju rfl rfl ?_|refine jv ?_|refine jw rfl ?_ |refine jz ?_|(refine jjA ?_; first|refine jjB ?_|refine jjC ?_|refine jjD ?_|refine jjE ?_|refine jjF ?_|refine jjG ?_|refine jjH ?_|refine jjI ?_|refine jjJ rfl ?_|refine jjK rfl ?_) |refine jA rfl ⟨⟨_, rfl⟩, ?_⟩|refine jB rfl rfl ⟨inferInstance, ?_⟩|refine jC rfl rfl rfl ⟨inferInstance, ?_⟩|refine jD rfl rfl rfl rfl ⟨inferInstance, ?_⟩|refine jA rfl ⟨inferInstance, ?_⟩)
  refine W.keep0 [(4, .pointer (some ⟨b4, 0, none⟩)), (5, .pointer (some ⟨b5, 0, none⟩)), (6, .pointer (some ⟨b6, 0, none⟩)), (7, .slice (some ⟨bw, ow, none⟩) ws.length wc), (9, .int .i64 ((i : Nat) : Int)), (10, .int .i64 (((stA ws side wd i 0).1 : Nat) : Int)), (11, .int .i64 (((stA ws side wd i 0).2 : Nat) : Int)), (12, .int .i64 (lenX ws (stA ws side wd i 0))), (13, .int .i64 ((0 : Nat) : Int))] ⟨eP rfl, eP rfl, eP rfl, eS rfl, eI rfl, eI rfl, eI rfl, congrArg (Value.int .i64) (lenX_self hi').symm, eI rfl, trivial⟩ fun s0 => ?_
  refine W.loop (36 :: 37 :: 38 :: 41 :: 14 :: 42 :: 43 :: 44 :: 45 :: 48 :: 49 :: 50 :: 51 :: 52 :: 53 :: 15 :: 54 :: 55 :: 56 :: 57 :: 58 :: 59 :: 60 :: 61 :: 62 :: 63 :: 64 :: 65 :: 66 :: 67 :: 68 :: 69 :: 70 :: 71 :: 72 :: 73 :: 74 :: 75 :: 76 :: 16 :: 17 :: 77 :: 78 :: 79 :: 18 :: 106 :: 105 :: 108 :: 109 :: 110 :: 107 :: 111 :: 112 :: 113 :: 115 :: 116 :: 117 :: 114 :: 118 :: 119 :: 120 :: 80 :: 81 :: 82 :: 83 :: 84 :: 85 :: 86 :: 87 :: 88 :: 89 :: 90 :: 91 :: 92 :: 93 :: 94 :: 95 :: 96 :: 97 :: 98 :: 99 :: 100 :: 101 :: 102 :: 103 :: 104 :: 121 :: 122 :: 123 :: 124 :: 10 :: 11 :: 12 :: 46 :: 47 :: 39 :: 40 :: 13 :: []) (fun g s' V => ∃ q : Nat, s' 13 = .int .i64 ((q : Nat) : Int) ∧ s' 10 = .int .i64 (((stA ws side wd i q).1 : Nat) : Int) ∧ s' 11 = .int .i64 (((stA ws side wd i q).2 : Nat) : Int) ∧ s' 12 = .int .i64 (lenX ws (stA ws side wd i q)) ∧ g = i + 1 - q ∧ q ≤ i + 1) (i + 1) ⟨0, rfl, rfl, rfl, rfl, rfl, Nat.zero_le _⟩ ?_
  rintro _ sd wA hSA ⟨q, h13, h10, h11, h12, rfl, hq⟩
  refine W.fix h13 (W.fix (d := 10) h10 (W.fix (d := 11) h11 (W.fix (d := 12) h12 ?_)))
  clear h13 h10 h11 h12
  by_cases hqi : q ≤ i
  · repeat' (first |(refine jW ?_; first|refine jjZ rfl rfl (by omega) ?_|refine jja rfl rfl (by omega) ?_|refine jjb rfl rfl (by omega) ?_|refine jjc rfl rfl (by omega) ?_|refine jjd rfl rfl (by omega) ?_|refine jje rfl rfl (by omega) ?_|refine jjf rfl rfl (by omega) ?_|refine jjg rfl rfl (by omega) ?_|refine jjh rfl rfl (by omega) ?_|refine jji rfl rfl (by omega) ?_|refine jjj rfl rfl (by omega) ?_|refine jjk rfl rfl (by omega) ?_) |((first|apply jI|apply jJ|apply jK rfl|apply jL rfl); first|exact eI rfl|exact eB rfl|exact eP rfl|exact eS rfl|exact eT rfl|exact eA rfl|exact eU rfl|exact eF rfl|exact eM rfl|exact eN rfl|exact rfl)|(refine jM ?_; first|refine jN rfl rfl rfl ?_|refine jO rfl rfl rfl rfl ?_|refine jP rfl rfl rfl ?_|refine jQ rfl rfl ?_|refine jR (by assumption) rfl rfl ?_)|(refine jS ?_; first|refine jT rfl rfl rfl ?_|refine jU rfl rfl rfl rfl ?_|refine jV rfl rfl ?_)|(refine jW ?_; first|refine jX rfl rfl ?_|refine jY rfl rfl (by omega) ?_|refine jZ rfl rfl (by omega) ?_|refine ja rfl rfl ?_|refine jb rfl rfl ?_|refine jc rfl rfl ?_|refine jd rfl rfl ?_|refine je rfl rfl ?_|refine jf rfl rfl ?_)|(refine jg ?_; first|refine jh rfl ?_|refine ji rfl ?_|refine jj rfl rfl ?_|refine jk rfl rfl ?_|refine jl rfl ?_)|(refine jm ?_; refine jn rfl ?_)|(refine jo ?_; first|refine jp rfl ?_|refine jq rfl ?_|refine jr rfl ?_|refine js rfl ?_) |(refine jE ?_; first|(refine jF rfl rfl rfl (map_get (by omega)) ?_; intro _ _ _)|refine jG rfl rfl rfl (by omega) ?_)|refine jt rfl rfl rfl (by omega) ?_|refine ju rfl rfl ?_|refine jv ?_|refine jw rfl ?_ |(refine jx ?_; refine jy rfl ?_; intro _ _ _ _ _ hblk; have := At.ofBlock hblk; clear hblk) |refine jz ?_|(refine jjA ?_; first|refine jjB ?_|refine jjC ?_|refine jjD ?_|refine jjE ?_|refine jjF ?_|refine jjG ?_|refine jjH ?_|refine jjI ?_|refine jjJ rfl ?_|refine jjK rfl ?_) |refine jA rfl ⟨⟨_, rfl⟩, ?_⟩|refine jB rfl rfl ⟨inferInstance, ?_⟩|refine jC rfl rfl rfl ⟨inferInstance, ?_⟩|refine jD rfl rfl rfl rfl ⟨inferInstance, ?_⟩|refine jA rfl ⟨inferInstance, ?_⟩)
    refine W.keep [(4, .pointer (some ⟨b4, 0, none⟩)), (5, .pointer (some ⟨b5, 0, none⟩)), (6, .pointer (some ⟨b6, 0, none⟩)), (7, .slice (some ⟨bw, ow, none⟩) ws.length wc), (9, .int .i64 ((i : Nat) : Int)), (10, .int .i64 (((stB ws side wd i q 0).1 : Nat) : Int)), (11, .int .i64 (((stB ws side wd i q 0).2 : Nat) : Int)), (12, .int .i64 (lenX ws (stB ws side wd i q 0))), (13, .int .i64 ((q : Nat) : Int)), (14, .int .i64 ((i + 0 : Nat) : Int))] (D := (36 :: 37 :: 38 :: 41 :: 14 :: 42 :: 43 :: 44 :: 45 :: 48 :: 49 :: 50 :: 51 :: 52 :: 53 :: 15 :: 54 :: 55 :: 56 :: 57 :: 58 :: 59 :: 60 :: 61 :: 62 :: 63 :: 64 :: 65 :: 66 :: 67 :: 68 :: 69 :: 70 :: 71 :: 72 :: 73 :: 74 :: 75 :: 76 :: 16 :: 17 :: 77 :: 78 :: 79 :: 18 :: 106 :: 105 :: 108 :: 109 :: 110 :: 107 :: 111 :: 112 :: 113 :: 115 :: 116 :: 117 :: 114 :: 118 :: 119 :: 120 :: 80 :: 81 :: 82 :: 83 :: 84 :: 85 :: 86 :: 87 :: 88 :: 89 :: 90 :: 91 :: 92 :: 93 :: 94 :: 95 :: 96 :: 97 :: 98 :: 99 :: 100 :: 101 :: 102 :: 103 :: 104 :: 121 :: 122 :: 123 :: 124 :: 10 :: 11 :: 12 :: 46 :: 47 :: 39 :: 40 :: 13 :: [])) (sO := upds s0 _) (by (repeat' (first|assumption|exact Same.ovN|refine Same.upd rfl ?_|refine Same.putS rfl ?_|refine Same.ovN' rfl ?_|exact Same.refl _ _|exact Same.putN ?_))) ⟨eP rfl, eP rfl, eP rfl, eS rfl, eI rfl, eI rfl, eI rfl, eI rfl, eI rfl, eI rfl, trivial⟩ fun s1 hs1 => ?_
    refine W.loop (42 :: 43 :: 44 :: 45 :: 48 :: 49 :: 50 :: 51 :: 52 :: 53 :: 15 :: 54 :: 55 :: 56 :: 57 :: 58 :: 59 :: 60 :: 61 :: 62 :: 63 :: 64 :: 65 :: 66 :: 67 :: 68 :: 69 :: 70 :: 71 :: 72 :: 73 :: 74 :: 75 :: 76 :: 16 :: 17 :: 77 :: 78 :: 79 :: 18 :: 106 :: 105 :: 108 :: 109 :: 110 :: 107 :: 111 :: 112 :: 113 :: 115 :: 116 :: 117 :: 114 :: 118 :: 119 :: 120 :: 80 :: 81 :: 82 :: 83 :: 84 :: 85 :: 86 :: 87 :: 88 :: 89 :: 90 :: 91 :: 92 :: 93 :: 94 :: 95 :: 96 :: 97 :: 98 :: 99 :: 100 :: 101 :: 102 :: 103 :: 104 :: 121 :: 122 :: 123 :: 124 :: 10 :: 11 :: 12 :: 46 :: 47 :: 14 :: []) (fun g s' V => ∃ m : Nat, s' 14 = .int .i64 ((i + m : Nat) : Int) ∧ s' 10 = .int .i64 (((stB ws side wd i q m).1 : Nat) : Int) ∧ s' 11 = .int .i64 (((stB ws side wd i q m).2 : Nat) : Int) ∧ s' 12 = .int .i64 (lenX ws (stB ws side wd i q m)) ∧ g = ws.length - (i + m) ∧ i + m ≤ ws.length) (ws.length - i) ⟨0, rfl, rfl, rfl, rfl, rfl, by omega⟩ ?_
    rintro _ sd2 wB hSB ⟨m, h14, h10, h11, h12, rfl, hm⟩
    have hin := stB_in (side := side) (W := wd) (m := m) hi' (show q ≤ i + 1 by omega) hm (.inl hqi)
    have hsucc := stB_succ ws side wd i q m
    have hend := stB_end ws side wd i q
    generalize hst : stB ws side wd i q m = st at h10 h11 h12 hin hsucc
    obtain ⟨hin1, hin2, hin3⟩ := hin
    have hbd := lenX_bound (ws := ws) (a := st.1) (b := st.2) hsz hn (by omega) hin3
    refine W.fix h14 (W.fix (d := 10) h10 (W.fix (d := 11) h11 (W.fix (d := 12) h12 ?_)))
    clear h14 h10 h11 h12
    by_cases hml : i + m < ws.length
    rotate_left
    · have hme : m = ws.length - i := by omega
      subst hme
      rw [hend] at hst
      subst hst
      repeat' (first |(refine jW ?_; first|refine jjZ rfl rfl (by omega) ?_|refine jja rfl rfl (by omega) ?_|refine jjb rfl rfl (by omega) ?_|refine jjc rfl rfl (by omega) ?_|refine jjd rfl rfl (by omega) ?_|refine jje rfl rfl (by omega) ?_|refine jjf rfl rfl (by omega) ?_|refine jjg rfl rfl (by omega) ?_|refine jjh rfl rfl (by omega) ?_|refine jji rfl rfl (by omega) ?_|refine jjj rfl rfl (by omega) ?_|refine jjk rfl rfl (by omega) ?_) |((first|apply jI|apply jJ|apply jK rfl|apply jL rfl); first|exact eI rfl|exact eB rfl|exact eP rfl|exact eS rfl|exact eT rfl|exact eA rfl|exact eU rfl|exact eF rfl|exact eM rfl|exact eN rfl|exact rfl)|(refine jM ?_; first|refine jN rfl rfl rfl ?_|refine jO rfl rfl rfl rfl ?_|refine jP rfl rfl rfl ?_|refine jQ rfl rfl ?_|refine jR (by assumption) rfl rfl ?_)|(refine jS ?_; first|refine jT rfl rfl rfl ?_|refine jU rfl rfl rfl rfl ?_|refine jV rfl rfl ?_)|(refine jW ?_; first|refine jX rfl rfl ?_|refine jY rfl rfl (by omega) ?_|refine jZ rfl rfl (by omega) ?_|refine ja rfl rfl ?_|refine jb rfl rfl ?_|refine jc rfl rfl ?_|refine jd rfl rfl ?_|refine je rfl rfl ?_|refine jf rfl rfl ?_)|(refine jg ?_; first|refine jh rfl ?_|refine ji rfl ?_|refine jj rfl rfl ?_|refine jk rfl rfl ?_|refine jl rfl ?_)|(refine jm ?_; refine jn rfl ?_)|(refine jo ?_; first|refine jp rfl ?_|refine jq rfl ?_|refine jr rfl ?_|refine js rfl ?_) |(refine jE ?_; first|(refine jF rfl rfl rfl (map_get (by omega)) ?_; intro _ _ _)|refine jG rfl rfl rfl (by omega) ?_)|refine jt rfl rfl rfl (by omega) ?_|refine ju rfl rfl ?_|refine jv ?_|refine jw rfl ?_ |(refine jx ?_; refine jy rfl ?_; intro _ _ _ _ _ hblk; have := At.ofBlock hblk; clear hblk) |refine jz ?_|(refine jjA ?_; first|refine jjB ?_|refine jjC ?_|refine jjD ?_|refine jjE ?_|refine jjF ?_|refine jjG ?_|refine jjH ?_|refine jjI ?_|refine jjJ rfl ?_|refine jjK rfl ?_) |refine jA rfl ⟨⟨_, rfl⟩, ?_⟩|refine jB rfl rfl ⟨inferInstance, ?_⟩|refine jC rfl rfl rfl ⟨inferInstance, ?_⟩|refine jD rfl rfl rfl rfl ⟨inferInstance, ?_⟩|refine jA rfl ⟨inferInstance, ?_⟩)
      exact ⟨rfl, by (repeat' (first|assumption|exact Same.ovN|refine Same.upd rfl ?_|refine Same.putS rfl ?_|refine Same.ovN' rfl ?_|exact Same.refl _ _|exact Same.putN ?_)), i + 1 - (q + 1), by omega, inferInstance, q + 1, congrArg (Value.int .i64) (by omega), rfl, rfl, rfl, rfl, by omega⟩
    have hSeg := seg_len (ws := ws) (a := q) (b := i + m) (by omega)
    have hbn := lenX_bound (ws := ws) (a := q) (b := i + m) hsz hn (by omega) hml
    have hEB : Ext w8 wB := hS9.ext.trans (hSA.ext.trans hSB.ext)
    have hb4B : At wB b4 0 [.int .i64 wd, .int .u8 side] := hb49.ext (hSA.ext.trans hSB.ext)
    have hRB : RowV wB false 1 (.slice (some ⟨bw, ow, none⟩) ws.length wc) (ws.map strV) := by
      have := hOw.row.ext (hS8.ext.trans hEB)
      exact this
    repeat' (first |(refine jW ?_; first|refine jjZ rfl rfl (by omega) ?_|refine jja rfl rfl (by omega) ?_|refine jjb rfl rfl (by omega) ?_|refine jjc rfl rfl (by omega) ?_|refine jjd rfl rfl (by omega) ?_|refine jje rfl rfl (by omega) ?_|refine jjf rfl rfl (by omega) ?_|refine jjg rfl rfl (by omega) ?_|refine jjh rfl rfl (by omega) ?_|refine jji rfl rfl (by omega) ?_|refine jjj rfl rfl (by omega) ?_|refine jjk rfl rfl (by omega) ?_) |((first|apply jI|apply jJ|apply jK rfl|apply jL rfl); first|exact eI rfl|exact eB rfl|exact eP rfl|exact eS rfl|exact eT rfl|exact eA rfl|exact eU rfl|exact eF rfl|exact eM rfl|exact eN rfl|exact rfl)|(refine jM ?_; first|refine jN rfl rfl rfl ?_|refine jO rfl rfl rfl rfl ?_|refine jP rfl rfl rfl ?_|refine jQ rfl rfl ?_|refine jR (by assumption) rfl rfl ?_)|(refine jS ?_; first|refine jT rfl rfl rfl ?_|refine jU rfl rfl rfl rfl ?_|refine jV rfl rfl ?_)|(refine jW ?_; first|refine jX rfl rfl ?_|refine jY rfl rfl (by omega) ?_|refine jZ rfl rfl (by omega) ?_|refine ja rfl rfl ?_|refine jb rfl rfl ?_|refine jc rfl rfl ?_|refine jd rfl rfl ?_|refine je rfl rfl ?_|refine jf rfl rfl ?_)|(refine jg ?_; first|refine jh rfl ?_|refine ji rfl ?_|refine jj rfl rfl ?_|refine jk rfl rfl ?_|refine jl rfl ?_)|(refine jm ?_; refine jn rfl ?_)|(refine jo ?_; first|refine jp rfl ?_|refine jq rfl ?_|refine jr rfl ?_|refine js rfl ?_) |(refine jE ?_; first|(refine jF rfl rfl rfl (map_get (by omega)) ?_; intro _ _ _)|refine jG rfl rfl rfl (by omega) ?_)|refine jt rfl rfl rfl (by omega) ?_|refine ju rfl rfl ?_|refine jv ?_|refine jw rfl ?_ |(refine jx ?_; refine jy rfl ?_; intro _ _ _ _ _ hblk; have := At.ofBlock hblk; clear hblk) |refine jz ?_|(refine jjA ?_; first|refine jjB ?_|refine jjC ?_|refine jjD ?_|refine jjE ?_|refine jjF ?_|refine jjG ?_|refine jjH ?_|refine jjI ?_|refine jjJ rfl ?_|refine jjK rfl ?_) |refine jA rfl ⟨⟨_, rfl⟩, ?_⟩|refine jB rfl rfl ⟨inferInstance, ?_⟩|refine jC rfl rfl rfl ⟨inferInstance, ?_⟩|refine jD rfl rfl rfl rfl ⟨inferInstance, ?_⟩|refine jA rfl ⟨inferInstance, ?_⟩)
    refine Ops.sliceLHv (lo := q) (hi := i + m + 1) rfl rfl rfl rfl (by omega) (by omega) (by omega) ?_
    have hcut := hRB.cut (lo := q) (hi := i + m + 1) (by omega) (by rw [hlm]; omega)
    rw [← List.map_take, ← List.map_drop] at hcut
    refine jjQ ((Length_ref3 _ _ _ ((ws.take (i + m + 1)).drop q) _ (by rw [List.length_drop, List.length_take]; omega) hcut (fun s h => hsz s (List.mem_of_mem_take (List.mem_of_mem_drop h))) (by rw [List.length_drop, List.length_take]; omega)).mono fun v _ _ e => e.trans (by rw [hSeg])) rfl rfl ?_
    rintro _ w14 hS14 rfl
    have hb414 : At w14 b4 0 [.int .i64 wd, .int .u8 side] := hb4B.ext hS14.ext
    clear hSeg hcut hRB
    generalize hnl : lenX ws (q, i + m) = nl at *
    repeat' (first | refine jjm rfl (by omega) ?_ |((first|apply jI|apply jJ|apply jK rfl|apply jL rfl); first|exact eI rfl|exact eB rfl|exact eP rfl|exact eS rfl|exact eT rfl|exact eA rfl|exact eU rfl|exact eF rfl|exact eM rfl|exact eN rfl|exact rfl)|(refine jM ?_; first|refine jN rfl rfl rfl ?_|refine jO rfl rfl rfl rfl ?_|refine jP rfl rfl rfl ?_|refine jQ rfl rfl ?_|refine jR (by assumption) rfl rfl ?_)|(refine jS ?_; first|refine jT rfl rfl rfl ?_|refine jU rfl rfl rfl rfl ?_|refine jV rfl rfl ?_)|(refine jW ?_; first|refine jX rfl rfl ?_|refine jY rfl rfl (by omega) ?_|refine jZ rfl rfl (by omega) ?_|refine ja rfl rfl ?_|refine jb rfl rfl ?_|refine jc rfl rfl ?_|refine jd rfl rfl ?_|refine je rfl rfl ?_|refine jf rfl rfl ?_)|(refine jg ?_; first|refine jh rfl ?_|refine ji rfl ?_|refine jj rfl rfl ?_|refine jk rfl rfl ?_|refine jl rfl ?_)|(refine jm ?_; refine jn rfl ?_)|(refine jo ?_; first|refine jp rfl ?_|refine jq rfl ?_|refine jr rfl ?_|refine js rfl ?_) |(refine jE ?_; first|(refine jF rfl rfl rfl (map_get (by omega)) ?_; intro _ _ _)|refine jG rfl rfl rfl (by omega) ?_)|refine jt rfl rfl rfl (by omega) ?_|refine ju rfl rfl ?_|refine jv ?_|refine jw rfl ?_ |(refine jx ?_; refine jy rfl ?_; intro _ _ _ _ _ hblk; have := At.ofBlock hblk; clear hblk) |refine jz ?_|(refine jjA ?_; first|refine jjB ?_|refine jjC ?_|refine jjD ?_|refine jjE ?_|refine jjF ?_|refine jjG ?_|refine jjH ?_|refine jjI ?_|refine jjJ rfl ?_|refine jjK rfl ?_) |(refine jS ?_; first|(refine jjL rfl rfl ?_ ?_ <;> intro _)|(refine jjM rfl rfl ?_ ?_ <;> intro _))|(refine jjA ?_; first|(refine jjN rfl ?_ ?_ <;> intro _)|(refine jjO rfl ?_ ?_ <;> intro _)) |refine jA rfl ⟨⟨_, rfl⟩, ?_⟩|refine jB rfl rfl ⟨inferInstance, ?_⟩|refine jC rfl rfl rfl ⟨inferInstance, ?_⟩|refine jD rfl rfl rfl rfl ⟨inferInstance, ?_⟩|refine jA rfl ⟨inferInstance, ?_⟩)
    all_goals first
      | (have e : stB ws side wd i q (m + 1) = (q, i + m) := by rw [hsucc, if_pos ⟨by omega, by rw [ordI_lt, sdI_lt]; simp only [unE, hnl]; omega⟩]
         exact ⟨rfl, by (repeat' (first|assumption|exact Same.ovN|refine Same.upd rfl ?_|refine Same.putS rfl ?_|refine Same.ovN' rfl ?_|exact Same.refl _ _|exact Same.putN ?_)), ws.length - (i + (m + 1)), by omega, inferInstance, m + 1, congrArg (Value.int .i64) (by omega), by rw [e]; exact rfl, by rw [e]; exact rfl, by rw [e, hnl]; exact rfl, rfl, by omega⟩)
      | (have e : stB ws side wd i q (m + 1) = st := by rw [hsucc, if_neg (fun h => by rw [ordI_lt, sdI_lt] at h; simp only [unE, hnl] at h; omega)]
         exact ⟨rfl, by (repeat' (first|assumption|exact Same.ovN|refine Same.upd rfl ?_|refine Same.putS rfl ?_|refine Same.ovN' rfl ?_|exact Same.refl _ _|exact Same.putN ?_)), ws.length - (i + (m + 1)), by omega, inferInstance, m + 1, congrArg (Value.int .i64) (by omega), by rw [e]; exact rfl, by rw [e]; exact rfl, by rw [e]; exact rfl, rfl, by omega⟩)
  have hqe : q = i + 1 := by omega
  subst hqe
  have hin := stB_in (side := side) (W := wd) (a := i + 1) (m := 0) hi' (Nat.le_refl _) (by omega) (.inr rfl)
  rw [stB_zero, stA_end] at hin
  rw [stA_end, slipX]
  generalize bestA ws side wd i = st at hin
  obtain ⟨hin1, hin2, hin3⟩ := hin
  have hEA : Ext w8 wA := hS9.ext.trans hSA.ext
  have hwA : Ext w wA := hE8.trans hEA
  have hRB : RowV w8 false 1 (.slice (some ⟨bw, ow, none⟩) ws.length wc) (ws.map strV) := hOw.row.ext hS8.ext
  have hb58 : At w8 b5 0 [.int .i64 (k : Int), .int .i64 m.1, .int .i64 m.2] := hb5.ext hS8.ext
  have hc1 := hRB.cut (lo := st.1) (hi := i) hin1 (by rw [hlm]; omega)
  have hc2 := hRB.cut (lo := i + 1) (hi := st.2 + 1) (by omega) (by rw [hlm]; omega)
  rw [← List.map_take, ← List.map_drop] at hc1 hc2
  have hd : ws.getD i ⟨#[]⟩ = ws[i] := by rw [List.getD_eq_getElem?_getD, List.getElem?_eq_getElem hi', Option.getD_some]
  rw [hd]
  repeat' (first |(refine jW ?_; first|refine jjZ rfl rfl (by omega) ?_|refine jja rfl rfl (by omega) ?_|refine jjb rfl rfl (by omega) ?_|refine jjc rfl rfl (by omega) ?_|refine jjd rfl rfl (by omega) ?_|refine jje rfl rfl (by omega) ?_|refine jjf rfl rfl (by omega) ?_|refine jjg rfl rfl (by omega) ?_|refine jjh rfl rfl (by omega) ?_|refine jji rfl rfl (by omega) ?_|refine jjj rfl rfl (by omega) ?_|refine jjk rfl rfl (by omega) ?_) |((first|apply jI|apply jJ|apply jK rfl|apply jL rfl); first|exact eI rfl|exact eB rfl|exact eP rfl|exact eS rfl|exact eT rfl|exact eA rfl|exact eU rfl|exact eF rfl|exact eM rfl|exact eN rfl|exact rfl)|(refine jM ?_; first|refine jN rfl rfl rfl ?_|refine jO rfl rfl rfl rfl ?_|refine jP rfl rfl rfl ?_|refine jQ rfl rfl ?_|refine jR (by assumption) rfl rfl ?_)|(refine jS ?_; first|refine jT rfl rfl rfl ?_|refine jU rfl rfl rfl rfl ?_|refine jV rfl rfl ?_)|(refine jW ?_; first|refine jX rfl rfl ?_|refine jY rfl rfl (by omega) ?_|refine jZ rfl rfl (by omega) ?_|refine ja rfl rfl ?_|refine jb rfl rfl ?_|refine jc rfl rfl ?_|refine jd rfl rfl ?_|refine je rfl rfl ?_|refine jf rfl rfl ?_)|(refine jg ?_; first|refine jh rfl ?_|refine ji rfl ?_|refine jj rfl rfl ?_|refine jk rfl rfl ?_|refine jl rfl ?_)|(refine jm ?_; refine jn rfl ?_)|(refine jo ?_; first|refine jp rfl ?_|refine jq rfl ?_|refine jr rfl ?_|refine js rfl ?_) |(refine jE ?_; first|(refine jF rfl rfl rfl (map_get (by omega)) ?_; intro _ _ _)|refine jG rfl rfl rfl (by omega) ?_)|refine jt rfl rfl rfl (by omega) ?_|refine ju rfl rfl ?_|refine jv ?_|refine jw rfl ?_ |(refine jx ?_; refine jy rfl ?_; intro _ _ _ _ _ hblk; have := At.ofBlock hblk; clear hblk) |refine jz ?_|(refine jjA ?_; first|refine jjB ?_|refine jjC ?_|refine jjD ?_|refine jjE ?_|refine jjF ?_|refine jjG ?_|refine jjH ?_|refine jjI ?_|refine jjJ rfl ?_|refine jjK rfl ?_) |refine jA rfl ⟨⟨_, rfl⟩, ?_⟩|refine jB rfl rfl ⟨inferInstance, ?_⟩|refine jC rfl rfl rfl ⟨inferInstance, ?_⟩|refine jD rfl rfl rfl rfl ⟨inferInstance, ?_⟩|refine jA rfl ⟨inferInstance, ?_⟩)
  have n5 : b5 ≠ b6 := by omega
  have n4 : bw ≠ b6 := by have : w_b6.heap.size ≤ bw := (hOw.block _ rfl).1; omega
  refine W.draw (fun w' => Only b6 w8 w') ?_
  intro wC hSC
  have hSC' : Ext w8 wC := hEA.trans hSC.ext
  (refine jjV [0, 1, 2, 3, 4, 5, 6, 7] ?_ ?_ ?_; (decide +kernel); (exact .ofExt hSC'); ((repeat' (first|(apply jjT; exact rfl)|rintro w' hq; have := hq.at_ hb58 n5; have := hq.at_ hA9 n4; |((first|apply jI|apply jJ|apply jK rfl|apply jL rfl); first|exact eI rfl|exact eB rfl|exact eP rfl|exact eS rfl|exact eT rfl|exact eA rfl|exact eU rfl|exact eF rfl|exact eM rfl|exact eN rfl|exact rfl)|(refine jM ?_; first|refine jN rfl rfl rfl ?_|refine jO rfl rfl rfl rfl ?_|refine jP rfl rfl rfl ?_|refine jQ rfl rfl ?_|refine jR (by assumption) rfl rfl ?_)|(refine jS ?_; first|refine jT rfl rfl rfl ?_|refine jU rfl rfl rfl rfl ?_|refine jV rfl rfl ?_)|(refine jW ?_; first|refine jX rfl rfl ?_|refine jY rfl rfl (by omega) ?_|refine jZ rfl rfl (by omega) ?_|refine ja rfl rfl ?_|refine jb rfl rfl ?_|refine jc rfl rfl ?_|refine jd rfl rfl ?_|refine je rfl rfl ?_|refine jf rfl rfl ?_)|(refine jg ?_; first|refine jh rfl ?_|refine ji rfl ?_|refine jj rfl rfl ?_|refine jk rfl rfl ?_|refine jl rfl ?_)|(refine jm ?_; refine jn rfl ?_)|(refine jo ?_; first|refine jp rfl ?_|refine jq rfl ?_|refine jr rfl ?_|refine js rfl ?_) |(refine jE ?_; first|refine jG rfl rfl rfl (by omega) ?_|refine jG rfl rfl (by assumption) (by omega) ?_|refine jH _ rfl rfl rfl (by omega) ?_)|refine jt rfl rfl rfl (by omega) ?_|refine ju rfl rfl ?_|refine jv ?_|refine jw rfl ?_|refine jz ?_|exact ⟨rfl, rfl⟩|refine jjU ?_))))
  refine jjV [8] (by decide +kernel) (.ofExt hSC') (jjT (v := cutV (some ⟨bw, ow, none⟩) wc 1 st.1 i) rfl (fun w' q1 => ?_) (jjU ?_)); (refine Ops.sliceLHv (lo := st.1) (hi := i) rfl rfl rfl rfl rfl (by omega) (by omega) ?_; refine jz ?_; exact ⟨rfl, rfl⟩)
  (refine jjV [10, 11, 12, 13, 14] ?_ ?_ ?_; (decide +kernel); (exact .ofExt hSC'); ((repeat' (first|(apply jjT; exact rfl)|rintro w' hq; have := hq.at_ hb58 n5; have := hq.at_ hA9 n4; |((first|apply jI|apply jJ|apply jK rfl|apply jL rfl); first|exact eI rfl|exact eB rfl|exact eP rfl|exact eS rfl|exact eT rfl|exact eA rfl|exact eU rfl|exact eF rfl|exact eM rfl|exact eN rfl|exact rfl)|(refine jM ?_; first|refine jN rfl rfl rfl ?_|refine jO rfl rfl rfl rfl ?_|refine jP rfl rfl rfl ?_|refine jQ rfl rfl ?_|refine jR (by assumption) rfl rfl ?_)|(refine jS ?_; first|refine jT rfl rfl rfl ?_|refine jU rfl rfl rfl rfl ?_|refine jV rfl rfl ?_)|(refine jW ?_; first|refine jX rfl rfl ?_|refine jY rfl rfl (by omega) ?_|refine jZ rfl rfl (by omega) ?_|refine ja rfl rfl ?_|refine jb rfl rfl ?_|refine jc rfl rfl ?_|refine jd rfl rfl ?_|refine je rfl rfl ?_|refine jf rfl rfl ?_)|(refine jg ?_; first|refine jh rfl ?_|refine ji rfl ?_|refine jj rfl rfl ?_|refine jk rfl rfl ?_|refine jl rfl ?_)|(refine jm ?_; refine jn rfl ?_)|(refine jo ?_; first|refine jp rfl ?_|refine jq rfl ?_|refine jr rfl ?_|refine js rfl ?_) |(refine jE ?_; first|refine jG rfl rfl rfl (by omega) ?_|refine jG rfl rfl (by assumption) (by omega) ?_|refine jH _ rfl rfl rfl (by omega) ?_)|refine jt rfl rfl rfl (by omega) ?_|refine ju rfl rfl ?_|refine jv ?_|refine jw rfl ?_|refine jz ?_|exact ⟨rfl, rfl⟩|refine jjU ?_))))
  refine jjV [15] (by decide +kernel) (.ofExt hSC') (jjT (v := cutV (some ⟨bw, ow, none⟩) wc 1 (i + 1) (st.2 + 1)) rfl (fun w' q1 => ?_) (jjU ?_)); (refine Ops.sliceLHv (lo := i + 1) (hi := st.2 + 1) rfl rfl rfl rfl rfl (by omega) (by omega) ?_; refine jz ?_; exact ⟨rfl, rfl⟩)
  (apply jjW 9; (decide +kernel); exact rfl; (exact .ofExt hSC'))
  refine jjQ (joined_ref3 _ _ _ ((ws.take i).drop st.1) _ (by rw [List.length_drop, List.length_take]; omega) (hc1.ext hSC') (fun s h => hsz s (List.mem_of_mem_take (List.mem_of_mem_drop h))) (by rw [List.length_drop, List.length_take]; omega)) rfl rfl ?_
  rintro _ wC2 hSC2 rfl
  refine jz ?_
  have hSC2' := hSC'.trans hSC2.ext
  (apply jjW 16; (decide +kernel); exact rfl; (exact .ofExt hSC2'))
  refine jjQ (joined_ref3 _ _ _ ((ws.take (st.2 + 1)).drop (i + 1)) _ (by rw [List.length_drop, List.length_take]; omega) (hc2.ext hSC2') (fun s h => hsz s (List.mem_of_mem_take (List.mem_of_mem_drop h))) (by rw [List.length_drop, List.length_take]; omega)) rfl rfl ?_
  rintro _ wD hSD' rfl
  refine jz ?_
  have hSD := hSC2'.trans hSD'.ext
  (apply jjW 17; (decide +kernel); exact rfl; (exact .ofExt hSD))
  (refine jjS (cells := [.int .i64 (k : Int), .int .i64 m.1, .int .i64 m.2, .string ws[i], .string (joinB ((ws.take i).drop st.1)), .string (joinB ((ws.take (st.2 + 1)).drop (i + 1)))]) ?_ ?_; exact rfl)
  refine jz ?_
  (apply jjW 18; (decide +kernel); exact rfl; (exact .ofExt hSD))
  have h6D : Bk wD b6 [.int .i64 0, .int .i64 0, .int .i64 0, .string ⟨#[]⟩, .string ⟨#[]⟩, .string ⟨#[]⟩] 32 := hb6.ext (hS8.ext.trans hSD)
  refine Ops.store rfl rfl rfl rfl rfl ?_
  intro wE hpE
  refine jz ?_
  refine jjX (by decide +kernel) ((Only.ofExt hSD).trans (.ofPut hpE)) ?_
  have h6E : At wE b6 0 [.int .i64 (k : Int), .int .i64 m.1, .int .i64 m.2, .string ws[i], .string (joinB ((ws.take i).drop st.1)), .string (joinB ((ws.take (st.2 + 1)).drop (i + 1)))] := Bk.toAt (h := ⟨hpE.new⟩)
  repeat' (first |(refine jW ?_; first|refine jjZ rfl rfl (by omega) ?_|refine jja rfl rfl (by omega) ?_|refine jjb rfl rfl (by omega) ?_|refine jjc rfl rfl (by omega) ?_|refine jjd rfl rfl (by omega) ?_|refine jje rfl rfl (by omega) ?_|refine jjf rfl rfl (by omega) ?_|refine jjg rfl rfl (by omega) ?_|refine jjh rfl rfl (by omega) ?_|refine jji rfl rfl (by omega) ?_|refine jjj rfl rfl (by omega) ?_|refine jjk rfl rfl (by omega) ?_) |((first|apply jI|apply jJ|apply jK rfl|apply jL rfl); first|exact eI rfl|exact eB rfl|exact eP rfl|exact eS rfl|exact eT rfl|exact eA rfl|exact eU rfl|exact eF rfl|exact eM rfl|exact eN rfl|exact rfl)|(refine jM ?_; first|refine jN rfl rfl rfl ?_|refine jO rfl rfl rfl rfl ?_|refine jP rfl rfl rfl ?_|refine jQ rfl rfl ?_|refine jR (by assumption) rfl rfl ?_)|(refine jS ?_; first|refine jT rfl rfl rfl ?_|refine jU rfl rfl rfl rfl ?_|refine jV rfl rfl ?_)|(refine jW ?_; first|refine jX rfl rfl ?_|refine jY rfl rfl (by omega) ?_|refine jZ rfl rfl (by omega) ?_|refine ja rfl rfl ?_|refine jb rfl rfl ?_|refine jc rfl rfl ?_|refine jd rfl rfl ?_|refine je rfl rfl ?_|refine jf rfl rfl ?_)|(refine jg ?_; first|refine jh rfl ?_|refine ji rfl ?_|refine jj rfl rfl ?_|refine jk rfl rfl ?_|refine jl rfl ?_)|(refine jm ?_; refine jn rfl ?_)|(refine jo ?_; first|refine jp rfl ?_|refine jq rfl ?_|refine jr rfl ?_|refine js rfl ?_) |(refine jE ?_; first|(refine jF rfl rfl rfl (map_get (by omega)) ?_; intro _ _ _)|refine jG rfl rfl rfl (by omega) ?_)|refine jt rfl rfl rfl (by omega) ?_|refine ju rfl rfl ?_|refine jv ?_|refine jw rfl ?_ |(refine jx ?_; refine jy rfl ?_; intro _ _ _ _ _ hblk; have := At.ofBlock hblk; clear hblk) |refine jz ?_|(refine jjA ?_; first|refine jjB ?_|refine jjC ?_|refine jjD ?_|refine jjE ?_|refine jjF ?_|refine jjG ?_|refine jjH ?_|refine jjI ?_|refine jjJ rfl ?_|refine jjK rfl ?_) |refine jA rfl ⟨⟨_, rfl⟩, ?_⟩|refine jB rfl rfl ⟨inferInstance, ?_⟩|refine jC rfl rfl rfl ⟨inferInstance, ?_⟩|refine jD rfl rfl rfl rfl ⟨inferInstance, ?_⟩|refine jA rfl ⟨inferInstance, ?_⟩)
  refine fin1C rfl rfl rfl rfl rfl ⟨hpE.ext (hE8.trans hSD) (by omega), rfl⟩
end
end Go.Proofs.YtgmgiepdehlinaaDoor

/- The reference: All places. -/
namespace Go.Proofs.YtgmgiepdehlinaaDoor
open Go.RowKit

theorem allP_small {cs : List Ch} (hs : SmallT cs) : ∀ {n : Nat}, n ≤ cs.length → (allP (txF cs) n).length ≤ n * 1000000
  | 0, _ => by simp [allP]
  | n + 1, hn => by
    rw [allP_succ, List.length_append, runA_len, wsT_get (by omega)]
    have h1 := allP_small hs (n := n) (by omega)
    have h2 : (chW cs[n]).flatten.length ≤ 1000000 := (rnW_small hs (k := n) (by omega)).1
    omega
section
variable (a : Option Addr) (c : Nat) (cs : List Ch) (w : World) [hrow : RowI w (.slice a cs.length c) true 2 (cs.map encCh)] [hT : TextI w cs]
set_option maxHeartbeats 4000000 in
theorem All_ref1 (hs : SmallT cs) : Ct Tryd.prog 32 [.agg #[.slice a cs.length c]] w fun v w' => OwnL w' w.heap.size 28 true 3 v ((allP (txF cs) (txF cs).length).map encPl) := by
  have hs1 := hs.1
  rw [txF_len]
  refine Ct.ofW (by simp) ?_
  (refine jjB ?_; refine jjC ?_)
  (refine jy rfl ?_; intro b1 w_b1 hb_b1 hs_b1 hS_b1 hk_b1; have hA_b1 := At.ofBlock hk_b1)
  (apply jJ; exact eS rfl; refine jz ?_; refine jjB ?_; refine jjC ?_; apply jJ; exact eS rfl; refine jz ?_; refine jjB ?_; refine jjB ?_; refine jjC ?_; apply jJ; exact eI rfl; refine jz ?_; refine jjD ?_)
  have hE1 : Ext w w_b1 := inferInstance
  refine W.keep0 [(1, .pointer (some ⟨b1, 0, none⟩)), (3, .slice none 0 0), (4, .int .i64 ((0 : Nat) : Int))] ⟨eP rfl, eS rfl, eI rfl, trivial⟩ fun s0 => ?_
  refine W.loopG (7 :: 8 :: 9 :: 10 :: 11 :: 5 :: 14 :: 15 :: 16 :: 17 :: 18 :: 19 :: 20 :: 21 :: 22 :: 6 :: 25 :: 26 :: 27 :: 28 :: 29 :: 30 :: 31 :: 32 :: 33 :: 34 :: 35 :: 36 :: 39 :: 40 :: 41 :: 42 :: 43 :: 44 :: 45 :: 3 :: 37 :: 38 :: 23 :: 24 :: 12 :: 13 :: 4 :: []) (fun g s' V => ∃ (k : Nat) (av : Value), s' 4 = .int .i64 ((k : Nat) : Int) ∧ s' 3 = av ∧ g = cs.length - k ∧ k ≤ cs.length ∧ Ext w V ∧ w_b1.heap.size ≤ V.heap.size ∧ At V b1 0 [.slice a cs.length c] ∧ OwnL V w_b1.heap.size 28 true 3 av ((allP (txF cs) k).map encPl)) cs.length ⟨0, _, rfl, rfl, rfl, Nat.zero_le _, hE1, Nat.le_refl _, inferInstance, OwnL.nil _ _ _ _ _⟩ ?_
  rintro _ sd V ⟨k, av, h4, h3, rfl, hk, hE, hz, hb1, hOa⟩
  obtain ⟨aa, al, ac, rfl⟩ := hOa.slice3
  refine W.fix h4 (W.fix (d := 3) h3 ?_)
  clear h4 h3
  by_cases hkc : k < cs.length
  rotate_left
  · obtain rfl : k = cs.length := by omega
    (refine jjB ?_; refine jjB ?_; refine jjC ?_; apply jI; exact eI rfl; refine jm ?_; refine jn rfl ?_; refine jN rfl rfl rfl ?_; refine jh rfl ?_; refine jja rfl rfl (by omega) ?_; refine jz ?_; refine jjK rfl ?_; refine jjE ?_; refine jjB ?_; refine jjC ?_; apply jI; exact eS rfl; apply jJ; exact eS rfl; refine jz ?_; refine jjF ?_; refine jB rfl rfl ⟨inferInstance, ?_⟩)
    exact hOa.mono hE1.size
  have hgk := List.getElem?_eq_getElem hkc
  have hsk := hs.2 _ (List.getElem_mem hkc)
  have hsm := chW_small fun y hy => (hsk.2 y hy).1
  have hcl : (chW cs[k]).length = cs[k].2.2.2.length := by simp [chW]
  have hapl := allP_small hs (n := k) (by omega)
  have hap1 : k * 1000000 ≤ 1000 * 1000000 := Nat.mul_le_mul_right _ (by omega)
  have hnext : allP (txF cs) (k + 1) = allP (txF cs) k ++ runAn k (chW cs[k]) (chW cs[k]).length := by rw [allP_succ, wsT_get hkc, runA]
  (refine jjB ?_; refine jjB ?_; refine jjC ?_; apply jI; exact eI rfl; refine jm ?_; refine jn rfl ?_; refine jN rfl rfl rfl ?_; refine jh rfl ?_; refine jjZ rfl rfl (by omega) ?_; refine jz ?_; refine jjJ rfl ?_; refine jjG ?_; refine jjB ?_; refine jjD ?_; refine jjB ?_; refine jjC ?_; apply jJ; exact eI rfl; refine jz ?_; refine jjD ?_)
  refine W.keep [(1, .pointer (some ⟨b1, 0, none⟩)), (3, .slice aa al ac), (4, .int .i64 ((k : Nat) : Int)), (5, .int .i64 ((0 : Nat) : Int))] (D := (7 :: 8 :: 9 :: 10 :: 11 :: 5 :: 14 :: 15 :: 16 :: 17 :: 18 :: 19 :: 20 :: 21 :: 22 :: 6 :: 25 :: 26 :: 27 :: 28 :: 29 :: 30 :: 31 :: 32 :: 33 :: 34 :: 35 :: 36 :: 39 :: 40 :: 41 :: 42 :: 43 :: 44 :: 45 :: 3 :: 37 :: 38 :: 23 :: 24 :: 12 :: 13 :: 4 :: [])) (sO := upds s0 _) (by ((refine Same.upd rfl ?_; refine Same.upd rfl ?_; refine Same.upd rfl ?_; refine Same.upd rfl ?_; refine Same.upd rfl ?_; refine Same.upd rfl ?_; refine Same.upd rfl ?_; refine Same.upd rfl ?_; exact Same.ovN))) ⟨eP rfl, eS rfl, eI rfl, eI rfl, trivial⟩ fun s1 hs1' => ?_
  refine W.loopG (14 :: 15 :: 16 :: 17 :: 18 :: 19 :: 20 :: 21 :: 22 :: 6 :: 25 :: 26 :: 27 :: 28 :: 29 :: 30 :: 31 :: 32 :: 33 :: 34 :: 35 :: 36 :: 39 :: 40 :: 41 :: 42 :: 43 :: 44 :: 45 :: 3 :: 37 :: 38 :: 23 :: 24 :: 5 :: []) (fun g s' V => ∃ (n : Nat) (av : Value), s' 5 = .int .i64 ((n : Nat) : Int) ∧ s' 3 = av ∧ g = cs[k].2.2.2.length - n ∧ n ≤ cs[k].2.2.2.length ∧ Ext w V ∧ w_b1.heap.size ≤ V.heap.size ∧ At V b1 0 [.slice a cs.length c] ∧ OwnL V w_b1.heap.size 28 true 3 av ((allP (txF cs) k ++ runAn k (chW cs[k]) n).map encPl)) cs[k].2.2.2.length ⟨0, _, rfl, rfl, rfl, Nat.zero_le _, hE, hz, hb1, by rw [runAn_zero, List.append_nil]; exact hOa⟩ ?_
  rintro _ sd1 V1 ⟨n, av, h5, h3, rfl, hn, hE, hz, hb1, hOa⟩
  obtain ⟨aa, al, ac, rfl⟩ := hOa.slice3
  refine W.fix h5 (W.fix (d := 3) h3 ?_)
  clear h5 h3
  have i0 : RowI V1 (.slice a cs.length c) true 2 (cs.map encCh) := ⟨hrow.h.ext hE⟩
  have hTV : TextI V1 cs := hT.ext hE
  have i2 := hTV.line hkc
  by_cases hnl : n < cs[k].2.2.2.length
  rotate_left
  · have hne : n = (chW cs[k]).length := by omega
    rw [hne, ← hnext] at hOa
    (refine jjB ?_; refine jjB ?_; refine jjC ?_; apply jI; exact eI rfl; refine jm ?_; refine jn rfl ?_; refine jN rfl rfl rfl ?_; apply jI; exact eI rfl; refine jF rfl rfl rfl (map_get (by omega)) ?_; intro _ _ _; refine jm ?_; refine jn rfl ?_; refine jP rfl rfl rfl ?_; refine jh rfl ?_; refine jja rfl rfl (by omega) ?_; refine jz ?_; refine jjK rfl ?_; refine jjE ?_; refine jjC ?_; apply jI; exact eI rfl; refine jY rfl rfl (by omega) ?_; apply jJ; exact eI rfl; refine jz ?_)
    exact ⟨rfl, by ((refine Same.upd rfl ?_; refine Same.upd rfl ?_; refine Same.upd rfl ?_; refine Same.upd rfl ?_; refine Same.upd rfl ?_; refine Same.upd rfl ?_; refine Same.upd rfl ?_; refine Same.upd rfl ?_; refine Same.upd rfl ?_; refine Same.upd rfl ?_; refine Same.upd rfl ?_; refine Same.upd rfl ?_; refine Same.upd rfl ?_; refine Same.upd rfl ?_; refine Same.ovN' rfl ?_; assumption)), cs.length - (k + 1), by omega, k + 1, _, congrArg (Value.int .i64) (by omega), rfl, rfl, by omega, hE, hz, hb1, hOa⟩
  have hgn := chW_get hnl
  have hsn := hsk.2 _ (List.getElem_mem hnl)
  (refine jjB ?_; refine jjB ?_; refine jjC ?_; apply jI; exact eI rfl; refine jm ?_; refine jn rfl ?_; refine jN rfl rfl rfl ?_; apply jI; exact eI rfl; refine jF rfl rfl rfl (map_get (by omega)) ?_; intro _ _ _; refine jm ?_; refine jn rfl ?_; refine jP rfl rfl rfl ?_; refine jh rfl ?_; refine jjZ rfl rfl (by omega) ?_; refine jz ?_; refine jjJ rfl ?_; refine jjG ?_; refine jjB ?_; refine jjD ?_; refine jjB ?_; refine jjC ?_; apply jJ; exact eI rfl; refine jz ?_; refine jjD ?_)
  refine W.keep [(1, .pointer (some ⟨b1, 0, none⟩)), (3, .slice aa al ac), (4, .int .i64 ((k : Nat) : Int)), (5, .int .i64 ((n : Nat) : Int)), (6, .int .i64 ((0 : Nat) : Int))] (D := (14 :: 15 :: 16 :: 17 :: 18 :: 19 :: 20 :: 21 :: 22 :: 6 :: 25 :: 26 :: 27 :: 28 :: 29 :: 30 :: 31 :: 32 :: 33 :: 34 :: 35 :: 36 :: 39 :: 40 :: 41 :: 42 :: 43 :: 44 :: 45 :: 3 :: 37 :: 38 :: 23 :: 24 :: 5 :: [])) (sO := upds s1 _) (by ((refine Same.upd rfl ?_; refine Same.upd rfl ?_; refine Same.upd rfl ?_; refine Same.upd rfl ?_; refine Same.upd rfl ?_; refine Same.upd rfl ?_; refine Same.upd rfl ?_; refine Same.upd rfl ?_; refine Same.upd rfl ?_; refine Same.upd rfl ?_; refine Same.upd rfl ?_; refine Same.upd rfl ?_; exact Same.ovN))) ⟨eP rfl, eS rfl, eI rfl, eI rfl, eI rfl, trivial⟩ fun s2 hs2' => ?_
  refine W.loopG (25 :: 26 :: 27 :: 28 :: 29 :: 30 :: 31 :: 32 :: 33 :: 34 :: 35 :: 36 :: 39 :: 40 :: 41 :: 42 :: 43 :: 44 :: 45 :: 3 :: 37 :: 38 :: 6 :: []) (fun g s' V => ∃ (q : Nat) (av : Value), s' 6 = .int .i64 ((q : Nat) : Int) ∧ s' 3 = av ∧ g = cs[k].2.2.2[n].2.2.length - q ∧ q ≤ cs[k].2.2.2[n].2.2.length ∧ Ext w V ∧ w_b1.heap.size ≤ V.heap.size ∧ At V b1 0 [.slice a cs.length c] ∧ OwnL V w_b1.heap.size 28 true 3 av ((allP (txF cs) k ++ (runAn k (chW cs[k]) n ++ lnP k n q)).map encPl)) cs[k].2.2.2[n].2.2.length ⟨0, _, rfl, rfl, rfl, Nat.zero_le _, hE, hz, hb1, by rw [show lnP k n 0 = [] from rfl, List.append_nil]; exact hOa⟩ ?_
  rintro _ sd2 V2 ⟨q, av, h6, h3, rfl, hq, hE, hz, hb1, hOa⟩
  obtain ⟨aa, al, ac, rfl⟩ := hOa.slice3
  refine W.fix h6 (W.fix (d := 3) h3 ?_)
  clear h6 h3
  have i0 : RowI V2 (.slice a cs.length c) true 2 (cs.map encCh) := ⟨hrow.h.ext hE⟩
  have hTV2 : TextI V2 cs := hT.ext hE
  have i3 := hTV2.line hkc
  have i4 := hTV2.word hkc hnl
  by_cases hql : q < cs[k].2.2.2[n].2.2.length
  rotate_left
  · obtain rfl : q = cs[k].2.2.2[n].2.2.length := by omega
    rw [← runAn_succ k hgn] at hOa
    (refine jjB ?_; refine jjB ?_; refine jjC ?_; apply jI; exact eI rfl; refine jm ?_; refine jn rfl ?_; refine jN rfl rfl rfl ?_; apply jI; exact eI rfl; refine jF rfl rfl rfl (map_get (by omega)) ?_; intro _ _ _; refine jm ?_; refine jn rfl ?_; refine jP rfl rfl rfl ?_; apply jI; exact eI rfl; refine jF rfl rfl rfl (map_get (by omega)) ?_; intro _ _ _; refine jQ rfl rfl ?_; refine jh rfl ?_; refine jja rfl rfl (by omega) ?_; refine jz ?_; refine jjK rfl ?_; refine jjE ?_; refine jjC ?_; apply jI; exact eI rfl; refine jY rfl rfl (by omega) ?_; apply jJ; exact eI rfl; refine jz ?_)
    exact ⟨rfl, by ((refine Same.upd rfl ?_; refine Same.upd rfl ?_; refine Same.upd rfl ?_; refine Same.upd rfl ?_; refine Same.upd rfl ?_; refine Same.upd rfl ?_; refine Same.upd rfl ?_; refine Same.upd rfl ?_; refine Same.upd rfl ?_; refine Same.upd rfl ?_; refine Same.upd rfl ?_; refine Same.upd rfl ?_; refine Same.upd rfl ?_; refine Same.upd rfl ?_; refine Same.upd rfl ?_; refine Same.upd rfl ?_; refine Same.upd rfl ?_; refine Same.ovN' rfl ?_; assumption)), cs[k].2.2.2.length - (n + 1), by omega, n + 1, _, congrArg (Value.int .i64) (by omega), rfl, rfl, by omega, hE, hz, hb1, hOa⟩
  have hl2 : (allP (txF cs) k ++ (runAn k (chW cs[k]) n ++ lnP k n q)).length ≤ 1002000000 := by
    have := flat_take hsm (n := n) (by omega)
    rw [List.length_append, List.length_append, lnP_len, runAn_len k (by omega)]; omega
  (refine jjB ?_; refine jjB ?_; refine jjC ?_; apply jI; exact eI rfl; refine jm ?_; refine jn rfl ?_; refine jN rfl rfl rfl ?_; apply jI; exact eI rfl; refine jF rfl rfl rfl (map_get (by omega)) ?_; intro _ _ _; refine jm ?_; refine jn rfl ?_; refine jP rfl rfl rfl ?_; apply jI; exact eI rfl; refine jF rfl rfl rfl (map_get (by omega)) ?_; intro _ _ _; refine jQ rfl rfl ?_; refine jh rfl ?_; refine jjZ rfl rfl (by omega) ?_; refine jz ?_; refine jjJ rfl ?_; refine jjG ?_; refine jjB ?_; refine jjD ?_; refine jjC ?_; apply jI; exact eS rfl; apply jI; exact eI rfl; apply jI; exact eI rfl; apply jI; exact eI rfl)
  (refine jjS (cells := [.int .i64 (k : Int), .int .i64 (n : Int), .int .i64 (q : Int)]) ?_ ?_; exact rfl)
  (refine jjP (v := .agg _) rfl (by exact rfl) (by exact rfl) (by exact rfl) (by exact rfl) ?_; intro b47 w_b47 hb_b47 hs_b47 hS_b47 hk_b47; have hR_b47 := RowV.one (agg := true) (k := 3) rfl hk_b47)
  have z47 := hS_b47.size
  refine Ops.appendL (hOa.ext hS_b47.ext) (by omega) hR_b47 rfl rfl rfl rfl (one_pl ((k : Int), (n : Int), (q : Int))) ?_ ?_ ?_
  · rw [List.length_map]; simp only [List.length_cons, List.length_nil]; omega
  · rw [List.length_map]; simp only [List.length_cons, List.length_nil]; omega
  intro av2 w48 hA48 hO48 _ hown48
  have z48 := hA48.g.size
  have hE48 : Ext w w48 := hA48.ext (hE.trans hS_b47.ext) (by omega)
  have e48 : (allP (txF cs) k ++ (runAn k (chW cs[k]) n ++ lnP k n q)).map encPl ++ [encPl ((k : Int), (n : Int), (q : Int))] = (allP (txF cs) k ++ (runAn k (chW cs[k]) n ++ lnP k n (q + 1))).map encPl := by rw [lnP_succ]; simp
  rw [e48] at hO48
  have hb148 := hA48.at_ (hb1.ext hS_b47.ext) (fun e => by have := (hOa.block _ e).1; omega)
  obtain ⟨aa2, al2, ac2, rfl⟩ := hO48.slice3
  (apply jJ; exact eS rfl; refine jz ?_; refine jjC ?_; apply jI; exact eI rfl; refine jY rfl rfl (by omega) ?_; apply jJ; exact eI rfl; refine jz ?_)
  exact ⟨rfl, by ((refine Same.upd rfl ?_; refine Same.upd rfl ?_; refine Same.upd rfl ?_; refine Same.upd rfl ?_; refine Same.upd rfl ?_; refine Same.upd rfl ?_; refine Same.upd rfl ?_; refine Same.upd rfl ?_; refine Same.upd rfl ?_; refine Same.upd rfl ?_; refine Same.upd rfl ?_; refine Same.upd rfl ?_; refine Same.upd rfl ?_; refine Same.upd rfl ?_; refine Same.upd rfl ?_; refine Same.upd rfl ?_; refine Same.upd rfl ?_; refine Same.upd rfl ?_; refine Same.upd rfl ?_; refine Same.upd rfl ?_; refine Same.upd rfl ?_; refine Same.upd rfl ?_; refine Same.upd rfl ?_; refine Same.upd rfl ?_; refine Same.upd rfl ?_; exact Same.ovN)), cs[k].2.2.2[n].2.2.length - (q + 1), by omega, q + 1, _, congrArg (Value.int .i64) (by omega), rfl, rfl, by omega, hE48, by omega, hb148, hO48⟩
end
end Go.Proofs.YtgmgiepdehlinaaDoor

/- The reference: Make, All, Part. -/
namespace Go.Proofs.YtgmgiepdehlinaaDoor
open Go.RowKit

theorem makeF_mem {t : Tx} {side wd : Int} {p : Pl} {n : Nat} (h : p ∈ allP t n) (hn : n ≤ t.length) : makeF t side wd p = some (slP t side wd p) := by
  obtain ⟨k, hk, hm⟩ := mem_allP.1 h
  obtain ⟨i, hi, e⟩ := List.mem_iff_getElem.1 hm
  have hg : (runA k (wsT t k))[i]? = some p := by rw [List.getElem?_eq_getElem hi, e]
  rw [makeF_yes (by omega) hg, slP_eq (by omega) hg]
section
variable (a : Option Addr) (c : Nat) (cs : List Ch) (wd side : Int) (w : World) [hrow : RowI w (.slice a cs.length c) true 2 (cs.map encCh)] [hT : TextI w cs]
theorem slipM_ref3 (hs : SmallT cs) (p : Pl) (s : Slp) (h : makeF (txF cs) side wd p = some s) : Ct Tryd.prog 29 [.agg #[.slice a cs.length c], encCut wd side, encPl p] w fun v _ => v = encSl s := by
  obtain ⟨k, i, hk, hi, rfl⟩ := makeF_some h
  rw [txF_len] at hk
  rw [wsT_get hk] at hi ⊢
  obtain ⟨p1, m⟩ := p
  obtain rfl : p1 = (k : Int) := runA_fst (List.mem_of_getElem? hi)
  exact slip_ref3 a c cs w hs wd side k i m hk hi
set_option maxHeartbeats 2000000 in
theorem Make_ref3 (p : Pl) (hs : SmallT cs) (hd : 0 ≤ side ∧ side ≤ 255) : Ct Tryd.prog 8 [.agg #[.slice a cs.length c], encCut wd side, encPl p] w fun v _ => v = .tuple #[encSl (makeR (txF cs) wd side p).1, .int .i64 (makeR (txF cs) wd side p).2] := by
  refine Ct.ofW (by simp) ?_
  (refine jjB ?_; refine jjC ?_)
  (refine jy rfl ?_; intro b3 w_b3 hb_b3 hs_b3 hS_b3 hk_b3; have hA_b3 := At.ofBlock hk_b3)
  skip
  (refine jy rfl ?_; intro b4 w_b4 hb_b4 hs_b4 hS_b4 hk_b4; have hA_b4 := At.ofBlock hk_b4)
  skip
  (refine jy rfl ?_; intro b5 w_b5 hb_b5 hs_b5 hS_b5 hk_b5; have hA_b5 := At.ofBlock hk_b5)
  ((skip); refine jjY ?_; intro b6 w_b6 hb_b6 hs_b6 hS_b6 hk_b6; have hA_b6 := Bk.of hk_b6)
  (apply jJ; exact eI rfl; refine jz ?_; refine jjB ?_; refine jjB ?_; refine jjC ?_; refine jO rfl rfl rfl rfl ?_; refine jO rfl rfl rfl rfl ?_)
  obtain ⟨e, he⟩ : ∃ e, askE (txF cs) wd side = e := ⟨_, rfl⟩
  have h3 := askE_in (txF cs) wd side
  rw [he] at h3
  refine jjQ ((asked_ref3 a c cs wd side _ hs hd).mono fun v _ _ h => h.trans (by rw [he])) rfl rfl ?_
  rintro _ w8 hS8 rfl
  have hb6 : Bk w8 b6 [.int .i64 0, .int .i64 0, .int .i64 0, .string ⟨#[]⟩, .string ⟨#[]⟩, .string ⟨#[]⟩] 32 := inferInstance
  have hE8 : Ext w w8 := inferInstance
  by_cases h0 : e = 0
  rotate_left
  · (apply jJ; exact eI rfl; refine jz ?_; refine jjB ?_; refine jjC ?_; apply jI; exact eI rfl; refine jjj rfl rfl (by omega) ?_; refine jz ?_; refine jjJ rfl ?_; refine jjB ?_; refine jjC ?_)
    (refine jjS (cells := [.int .i64 0, .int .i64 0, .int .i64 0, .string ⟨#[]⟩, .string ⟨#[]⟩, .string ⟨#[]⟩]) ?_ ?_; exact rfl)
    (apply jI; exact eI rfl)
    refine Ops.store rfl rfl rfl rfl rfl ?_
    intro V2 hp2
    have := Bk.toAt (h := Bk.of hp2.new)
    (apply jJ; exact eI rfl; refine jz ?_; refine jjF ?_)
    refine fin2C rfl rfl rfl rfl rfl rfl ⟨hp2.ext hE8 (by omega), ?_⟩
    rw [makeR_no (by rw [he]; exact h0), he]; exact rfl
  subst h0
  obtain ⟨o, ho⟩ : ∃ o, makeF (txF cs) side wd p = o := ⟨_, rfl⟩
  (apply jJ; exact eI rfl; refine jz ?_; refine jjB ?_; refine jjC ?_; apply jI; exact eI rfl; refine jjk rfl rfl (by omega) ?_; refine jz ?_; refine jjK rfl ?_; refine jjG ?_; refine jjB ?_; refine jjB ?_; refine jjC ?_; refine jO rfl rfl rfl rfl ?_; refine jO rfl rfl rfl rfl ?_)
  refine jjQ ((Place_ref1 a c cs _ p hs).mono fun v _ _ h => h.trans (by rw [placeC_iff side wd, ho])) rfl rfl ?_
  rintro _ w9 hS9 rfl
  have hb69 := hb6.ext hS9.ext
  cases o with
  | none =>
    (refine jq rfl ?_; refine jz ?_; refine jjJ rfl ?_; refine jjB ?_; refine jjC ?_)
    (refine jjS (cells := [.int .i64 0, .int .i64 0, .int .i64 0, .string ⟨#[]⟩, .string ⟨#[]⟩, .string ⟨#[]⟩]) ?_ ?_; exact rfl)
    skip
    refine Ops.store rfl rfl rfl rfl rfl ?_
    intro V2 hp2
    have := Bk.toAt (h := Bk.of hp2.new)
    (apply jJ; exact eI rfl; refine jz ?_; refine jjF ?_)
    refine fin2C rfl rfl rfl rfl rfl rfl ⟨hp2.ext (hE8.trans hS9.ext) (by omega), ?_⟩
    rw [makeR_none he ho]; exact rfl
  | some s =>
    (refine jp rfl ?_; refine jz ?_; refine jjK rfl ?_; refine jjG ?_; refine jjB ?_; refine jjC ?_; refine jO rfl rfl rfl rfl ?_; refine jO rfl rfl rfl rfl ?_; refine jO rfl rfl rfl rfl ?_)
    refine jjQ (slipM_ref3 a c cs wd side _ hs p s ho) rfl rfl ?_
    rintro _ w10 hS10 rfl
    have hb610 := hb69.ext hS10.ext
    skip
    refine Ops.store rfl rfl rfl rfl rfl ?_
    intro V2 hp2
    have := Bk.toAt (h := Bk.of hp2.new)
    (apply jJ; exact eI rfl; refine jz ?_; refine jjF ?_)
    refine fin2C rfl rfl rfl rfl rfl rfl ⟨hp2.ext ((hE8.trans hS9.ext).trans hS10.ext) (by omega), ?_⟩
    rw [makeR_some he ho]; exact rfl
set_option maxHeartbeats 4000000 in
theorem All_ref3 (hs : SmallT cs) (hd : 0 ≤ side ∧ side ≤ 255) : Ct Tryd.prog 10 [.agg #[.slice a cs.length c], encCut wd side] w fun v w' => ∃ sv, v = .tuple #[sv, .int .i64 (askE (txF cs) wd side)] ∧ OwnL w' w.heap.size 32 true 6 sv ((allR (txF cs) wd side).map encSl) := by
  refine Ct.ofW (by simp) ?_
  (refine jjB ?_; refine jjC ?_)
  (refine jy rfl ?_; intro b2 w_b2 hb_b2 hs_b2 hS_b2 hk_b2; have hA_b2 := At.ofBlock hk_b2)
  skip
  (refine jy rfl ?_; intro b3 w_b3 hb_b3 hs_b3 hS_b3 hk_b3; have hA_b3 := At.ofBlock hk_b3)
  (apply jJ; exact eS rfl; apply jJ; exact eI rfl; refine jz ?_; refine jjB ?_; refine jjB ?_; refine jjC ?_; refine jO rfl rfl rfl rfl ?_; refine jO rfl rfl rfl rfl ?_)
  obtain ⟨e, he⟩ : ∃ e, askE (txF cs) wd side = e := ⟨_, rfl⟩
  have h3 := askE_in (txF cs) wd side
  rw [he] at h3
  refine jjQ ((asked_ref3 a c cs wd side _ hs hd).mono fun v _ _ h => h.trans (by rw [he])) rfl rfl ?_
  rintro _ w8 hS8 rfl
  by_cases h0 : e = 0
  rotate_left
  · (apply jJ; exact eI rfl; refine jz ?_; refine jjB ?_; refine jjC ?_; apply jI; exact eI rfl; refine jjj rfl rfl (by omega) ?_; refine jz ?_; refine jjJ rfl ?_; refine jjB ?_; refine jjC ?_; apply jI; exact eI rfl; apply jJ; exact eS rfl; apply jJ; exact eI rfl; refine jz ?_; refine jjF ?_; refine jC rfl rfl rfl ⟨inferInstance, ?_⟩)
    rw [he, allR, if_neg (by rw [he]; exact h0)]
    exact ⟨_, rfl, OwnL.nil _ _ _ _ _⟩
  subst h0
  obtain ⟨ht, hc⟩ := askE_zero he
  rw [he, allR, if_pos he, allS]
  have hal := allS_len (side := side) (wd := wd) ht
  rw [allS, List.length_map] at hal
  (apply jJ; exact eI rfl; refine jz ?_; refine jjB ?_; refine jjC ?_; apply jI; exact eI rfl; refine jjk rfl rfl (by omega) ?_; refine jz ?_; refine jjK rfl ?_; refine jjG ?_; refine jjB ?_; refine jjC ?_; apply jJ; exact eS rfl; refine jz ?_; refine jjB ?_; refine jjC ?_; refine jO rfl rfl rfl rfl ?_)
  refine jjQ (All_ref1 a c cs _ hs) rfl rfl ?_
  rintro av w9 hS9 hOa
  have hmf : ∀ i (hi : i < (allP (txF cs) (txF cs).length).length), makeF (txF cs) side wd (allP (txF cs) (txF cs).length)[i] = some (slP (txF cs) side wd (allP (txF cs) (txF cs).length)[i]) := fun i hi => makeF_mem (List.getElem_mem hi) (Nat.le_refl _)
  generalize allP (txF cs) (txF cs).length = ps at *
  obtain ⟨aa, ac, rfl⟩ := hOa.slice
  rw [List.length_map] at hOa ⊢
  have hE9 : Ext w w9 := inferInstance
  (apply jJ; exact eS rfl; refine jz ?_; refine jjB ?_; refine jjB ?_; refine jjC ?_; apply jJ; exact eI rfl; refine jz ?_; refine jjD ?_)
  refine W.keep0 [(2, .pointer (some ⟨b2, 0, none⟩)), (3, .pointer (some ⟨b3, 0, none⟩)), (7, .slice none 0 0), (8, .slice aa ps.length ac), (9, .int .i64 ((0 : Nat) : Int))] ⟨eP rfl, eP rfl, eS rfl, eS rfl, eI rfl, trivial⟩ fun s0 => ?_
  refine W.loopG (18 :: 19 :: 20 :: 21 :: 24 :: 25 :: 26 :: 27 :: 28 :: 29 :: 30 :: 31 :: 32 :: 33 :: 7 :: 22 :: 23 :: 9 :: []) (fun g s' V => ∃ (i : Nat) (sv : Value), s' 9 = .int .i64 ((i : Nat) : Int) ∧ s' 7 = sv ∧ g = ps.length - i ∧ i ≤ ps.length ∧ Ext w V ∧ w9.heap.size ≤ V.heap.size ∧ At V b2 0 [.slice a cs.length c] ∧ At V b3 0 [.int .i64 wd, .int .u8 side] ∧ OwnL V w8.heap.size 28 true 3 (.slice aa ps.length ac) (ps.map encPl) ∧ OwnL V w9.heap.size 32 true 6 sv (((ps.take i).map (slP (txF cs) side wd)).map encSl)) ps.length ⟨0, _, rfl, rfl, rfl, Nat.zero_le _, hE9, Nat.le_refl _, inferInstance, inferInstance, hOa, OwnL.nil _ _ _ _ _⟩ ?_
  rintro _ sd V ⟨i, sv, h9, h7, rfl, hi, hE, hz, hb2, hb3, hOaV, hO⟩
  obtain ⟨va, vl, vc, rfl⟩ := hO.slice3
  refine W.fix h9 (W.fix (d := 7) h7 ?_)
  clear h9 h7
  by_cases hil : i < ps.length
  rotate_left
  · obtain rfl : i = ps.length := by omega
    rw [List.take_length] at hO
    (refine jjB ?_; refine jjB ?_; refine jjC ?_; apply jI; exact eI rfl; apply jI; exact eS rfl; refine jh rfl ?_; refine jja rfl rfl (by omega) ?_; refine jz ?_; refine jjK rfl ?_; refine jjE ?_; refine jjB ?_; refine jjC ?_; apply jI; exact eS rfl; apply jJ; exact eS rfl; apply jJ; exact eI rfl; refine jz ?_; refine jjF ?_; refine jC rfl rfl rfl ⟨inferInstance, ?_⟩)
    exact ⟨_, rfl, hO.mono hE9.size⟩
  have hb2l := hb2.lt
  obtain ⟨ba, oa, rfl, hAp⟩ := hOaV.row.place' (by rw [List.getElem?_map, List.getElem?_eq_getElem hil]; rfl)
  have i0 : RowI V (.slice a cs.length c) true 2 (cs.map encCh) := ⟨hrow.h.ext hE⟩
  have hTV : TextI V cs := hT.ext hE
  (refine jjB ?_; refine jjB ?_; refine jjC ?_; apply jI; exact eI rfl; apply jI; exact eS rfl; refine jh rfl ?_; refine jjZ rfl rfl (by omega) ?_; refine jz ?_; refine jjJ rfl ?_; refine jjG ?_; refine jjB ?_; refine jjD ?_)
  have z8 := hS8.size
  have z9 := hS9.size
  have hba : ba < w9.heap.size := (hOa.block ba rfl).2
  refine W.draw (fun w' => Ext w w' ∧ At w' b2 0 [.slice a cs.length c] ∧ At w' b3 0 [.int .i64 wd, .int .u8 side] ∧ At w' ba (oa + i * 3) (encPl ps[i]).cells.toList) ?_
  intro w1 hS1
  have s1 := And.intro (hE.trans hS1.ext) (And.intro (hb2.ext hS1.ext) (And.intro (hb3.ext hS1.ext) (hAp.ext hS1.ext)))
  (refine jjV [0, 1, 2, 3, 4, 5, 6] ?_ ?_ ?_; (decide +kernel); (exact s1); (((apply jjT; exact rfl; rintro w' ⟨q0, q1, q2, q3⟩; apply jI; exact eS rfl; refine jz ?_; exact ⟨rfl, rfl⟩; apply jjT; exact rfl; rintro w' ⟨q0, q1, q2, q3⟩; refine jO rfl rfl rfl rfl ?_; refine jz ?_; exact ⟨rfl, rfl⟩; apply jjT; exact rfl; rintro w' ⟨q0, q1, q2, q3⟩; refine jO rfl rfl rfl rfl ?_; refine jz ?_; exact ⟨rfl, rfl⟩; apply jjT; exact rfl; rintro w' ⟨q0, q1, q2, q3⟩; apply jI; exact eS rfl; refine jz ?_; exact ⟨rfl, rfl⟩; apply jjT; exact rfl; rintro w' ⟨q0, q1, q2, q3⟩; apply jI; exact eI rfl; refine jz ?_; exact ⟨rfl, rfl⟩; apply jjT; exact rfl; rintro w' ⟨q0, q1, q2, q3⟩; refine jH _ rfl rfl rfl (by omega) ?_; refine jz ?_; exact ⟨rfl, rfl⟩; apply jjT; exact rfl; rintro w' ⟨q0, q1, q2, q3⟩; refine jQ rfl rfl ?_; refine jz ?_; exact ⟨rfl, rfl⟩; refine jjU ?_))))
  (apply jjW 7; (decide +kernel); exact rfl; (exact s1))
  have j0 : RowI w1 (.slice a cs.length c) true 2 (cs.map encCh) := ⟨hrow.h.ext (hE.trans hS1.ext)⟩
  have j1 : TextI w1 cs := hTV.ext hS1.ext
  refine jjQ (slipM_ref3 a c cs wd side _ hs ps[i] _ (hmf i hil)) rfl rfl ?_
  rintro _ w2 hS2 rfl
  have e2 := hS1.ext.trans hS2.ext
  have s2 := And.intro (hE.trans e2) (And.intro (hb2.ext e2) (And.intro (hb3.ext e2) (hAp.ext e2)))
  refine jz ?_
  (apply jjW 8; (decide +kernel); exact rfl; (exact s2))
  (refine jjP (v := .agg _) rfl (by exact rfl) (by exact rfl) (by exact rfl) (by exact rfl) ?_; intro b10 w_b10 hb_b10 hs_b10 hS_b10 hk_b10; have hR_b10 := RowV.one (agg := true) (k := 6) rfl hk_b10)
  refine jz ?_
  have e10 := e2.trans hS_b10.ext
  have z10 := e10.size
  have s10 := And.intro (hE.trans e10) (And.intro (hb2.ext e10) (And.intro (hb3.ext e10) (hAp.ext e10)))
  have hR1 : RowV w_b10 true 6 (.slice (some ⟨b10, 0, none⟩) 1 1) [encSl (slP (txF cs) side wd ps[i])] := hR_b10
  (apply jjW 9; (decide +kernel); exact rfl; (exact s10))
  refine Ops.appendL (hO.ext e10) (by omega) hR1 rfl rfl rfl rfl (one_sl _) ?_ ?_ ?_
  · rw [List.length_map, List.length_map, List.length_take]; simp only [List.length_cons, List.length_nil]; omega
  · rw [List.length_map, List.length_map, List.length_take]; simp only [List.length_cons, List.length_nil]; omega
  intro sv2 w3 hA hO3 _ hown
  refine jz ?_
  have hE3 : Ext w w3 := hA.ext (hE.trans e10) hE9.size
  have hnb : ∀ b, b < w9.heap.size → (Value.slice va vl vc).ownBlock ≠ some b := fun b h e => by have := (hO.block _ e).1; omega
  have k2 := hA.at_ (hb2.ext e10) (hnb _ (by omega))
  have k3 := hA.at_ (hb3.ext e10) (hnb _ (by omega))
  have s3 := And.intro hE3 (And.intro k2 (And.intro k3 (hA.at_ (hAp.ext e10) (hnb _ hba))))
  obtain ⟨va3, vl3, vc3, rfl⟩ := hO3.slice3
  (apply jjW 10; (decide +kernel); exact rfl; (exact s3))
  (apply jJ; exact eS rfl; refine jz ?_)
  refine jjX (by decide +kernel) s3 ?_
  have zA := hA.g.size
  have hnx : (ps.take i).map (slP (txF cs) side wd) ++ [slP (txF cs) side wd ps[i]] = (ps.take (i + 1)).map (slP (txF cs) side wd) := by rw [take_snoc_get (List.getElem?_eq_getElem hil), List.map_append]; rfl
  rw [← List.map_singleton, ← List.map_append, hnx] at hO3
  have hOa3 := (hOaV.ext e10).app hA (OwnL.ne (hOaV.ext e10) (hO.ext e10) (by decide))
  (refine jjC ?_; apply jI; exact eI rfl; refine jY rfl rfl (by omega) ?_; apply jJ; exact eI rfl; refine jz ?_)
  exact ⟨rfl, by ((refine Same.upd rfl ?_; refine Same.upd rfl ?_; refine Same.upd rfl ?_; refine Same.upd rfl ?_; refine Same.upd rfl ?_; refine Same.upd rfl ?_; refine Same.upd rfl ?_; refine Same.upd rfl ?_; refine Same.upd rfl ?_; refine Same.upd rfl ?_; refine Same.upd rfl ?_; refine Same.upd rfl ?_; refine Same.upd rfl ?_; refine Same.upd rfl ?_; refine Same.upd rfl ?_; refine Same.upd rfl ?_; refine Same.upd rfl ?_; refine Same.upd rfl ?_; refine Same.upd rfl ?_; refine Same.upd rfl ?_; exact Same.ovN)), ps.length - (i + 1), by omega, i + 1, _, congrArg (Value.int .i64) (by omega), rfl, rfl, by omega, hE3, by omega, k2, k3, hOa3, hO3⟩
end
end Go.Proofs.YtgmgiepdehlinaaDoor

/- The reference: Part. -/
namespace Go.Proofs.YtgmgiepdehlinaaDoor
open Go.RowKit

theorem filter_snoc3 {α : Type} {f : α → Bool} {l : List α} {i : Nat} {x : α} (h : l[i]? = some x) : (l.take (i + 1)).filter f = (l.take i).filter f ++ (if f x then [x] else []) := by
  rw [take_snoc_get h, List.filter_append]
  congr 1
  cases hf : f x <;> simp [hf]
section
variable (a : Option Addr) (c : Nat) (cs : List Ch) (wd side : Int) (w : World) [hrow : RowI w (.slice a cs.length c) true 2 (cs.map encCh)] [hT : TextI w cs]
set_option maxHeartbeats 4000000 in
theorem Part_ref3 (p q : Pl) (hs : SmallT cs) (hd : 0 ≤ side ∧ side ≤ 255) : Ct Tryd.prog 12 [.agg #[.slice a cs.length c], encCut wd side, encPl p, encPl q] w fun v w' => ∃ sv, v = .tuple #[sv, .int .i64 (partR (txF cs) wd side p q).2] ∧ OwnL w' w.heap.size 32 true 6 sv ((partR (txF cs) wd side p q).1.map encSl) := by
  refine Ct.ofW (by simp) ?_
  (refine jjB ?_; refine jjC ?_)
  (refine jy rfl ?_; intro b4 w_b4 hb_b4 hs_b4 hS_b4 hk_b4; have hA_b4 := At.ofBlock hk_b4)
  skip
  (refine jy rfl ?_; intro b5 w_b5 hb_b5 hs_b5 hS_b5 hk_b5; have hA_b5 := At.ofBlock hk_b5)
  skip
  (refine jy rfl ?_; intro b6 w_b6 hb_b6 hs_b6 hS_b6 hk_b6; have hA_b6 := At.ofBlock hk_b6)
  skip
  (refine jy rfl ?_; intro b7 w_b7 hb_b7 hs_b7 hS_b7 hk_b7; have hA_b7 := At.ofBlock hk_b7)
  (apply jJ; exact eS rfl; apply jJ; exact eI rfl; refine jz ?_; refine jjB ?_; refine jjB ?_; refine jjC ?_; refine jO rfl rfl rfl rfl ?_; refine jO rfl rfl rfl rfl ?_)
  obtain ⟨e, he⟩ : ∃ e, askE (txF cs) wd side = e := ⟨_, rfl⟩
  have h3 := askE_in (txF cs) wd side
  rw [he] at h3
  refine jjQ ((asked_ref3 a c cs wd side _ hs hd).mono fun v _ _ h => h.trans (by rw [he])) rfl rfl ?_
  rintro _ w8 hS8 rfl
  have hE8 : Ext w w8 := inferInstance
  by_cases h0 : e = 0
  rotate_left
  · (apply jJ; exact eI rfl; refine jz ?_; refine jjB ?_; refine jjC ?_; apply jI; exact eI rfl; refine jjj rfl rfl (by omega) ?_; refine jz ?_; refine jjJ rfl ?_; refine jjB ?_; refine jjC ?_; apply jI; exact eI rfl; apply jJ; exact eS rfl; apply jJ; exact eI rfl; refine jz ?_; refine jjF ?_; refine jC rfl rfl rfl ⟨inferInstance, ?_⟩)
    rw [partR, if_pos (by rw [he]; exact h0), he]
    exact ⟨_, rfl, OwnL.nil _ _ _ _ _⟩
  subst h0
  obtain ⟨ht, hc⟩ := askE_zero he
  obtain ⟨o1, ho1⟩ : ∃ o, makeF (txF cs) side wd p = o := ⟨_, rfl⟩
  obtain ⟨o2, ho2⟩ : ∃ o, makeF (txF cs) side wd q = o := ⟨_, rfl⟩
  have hpr : partR (txF cs) wd side p q = if o1 = none ∨ o2 = none then ([], 12) else if befP q p then ([], 2) else (((allP (txF cs) (txF cs).length).filter (inP p q)).map (slP (txF cs) side wd), 0) := by
    rw [partR, if_neg (by rw [he]; simp), ho1, ho2]
  rw [hpr]
  clear hpr
  (apply jJ; exact eI rfl; refine jz ?_; refine jjB ?_; refine jjC ?_; apply jI; exact eI rfl; refine jjk rfl rfl (by omega) ?_; refine jz ?_; refine jjK rfl ?_; refine jjG ?_; refine jjB ?_; refine jjB ?_; refine jjC ?_; refine jO rfl rfl rfl rfl ?_; refine jO rfl rfl rfl rfl ?_)
  refine jjQ ((Place_ref1 a c cs _ p hs).mono fun v _ _ h => h.trans (by rw [placeC_iff side wd, ho1])) rfl rfl ?_
  rintro _ w9 hS9 rfl
  cases o1 with
  | none =>
    (refine jq rfl ?_; apply jI; exact eB rfl; refine jU rfl rfl rfl rfl ?_; refine jU rfl rfl rfl rfl ?_; refine jU rfl rfl rfl rfl ?_; refine jU rfl rfl rfl rfl ?_; apply jK rfl; exact eB rfl; refine jz ?_; refine jjJ rfl ?_; refine jjB ?_; refine jjC ?_; apply jJ; exact eS rfl; apply jJ; exact eI rfl; refine jz ?_; refine jjF ?_; refine jC rfl rfl rfl ⟨inferInstance, ?_⟩)
    rw [if_pos (.inl rfl)]
    exact ⟨_, rfl, OwnL.nil _ _ _ _ _⟩
  | some s1 =>
  (refine jp rfl ?_; apply jI; exact eB rfl; refine jT rfl rfl rfl ?_; refine jO rfl rfl rfl rfl ?_; refine jT rfl rfl rfl ?_; refine jO rfl rfl rfl rfl ?_; refine jT rfl rfl rfl ?_)
  refine jjQ ((Place_ref1 a c cs _ q hs).mono fun v _ _ h => h.trans (by rw [placeC_iff side wd, ho2])) rfl rfl ?_
  rintro _ w10 hS10 rfl
  cases o2 with
  | none =>
    (refine jT rfl rfl rfl ?_; refine jq rfl ?_; apply jL rfl; exact eB rfl; refine jz ?_; refine jjJ rfl ?_; refine jjB ?_; refine jjC ?_; apply jJ; exact eS rfl; apply jJ; exact eI rfl; refine jz ?_; refine jjF ?_; refine jC rfl rfl rfl ⟨inferInstance, ?_⟩)
    rw [if_pos (.inr rfl)]
    exact ⟨_, rfl, OwnL.nil _ _ _ _ _⟩
  | some s2 =>
  rw [if_neg (by simp)]
  obtain ⟨B, hbf⟩ : ∃ B, befP q p = B := ⟨_, rfl⟩
  rw [hbf]
  (refine jT rfl rfl rfl ?_; refine jp rfl ?_; apply jL rfl; exact eB rfl; refine jz ?_; refine jjK rfl ?_; refine jjG ?_; refine jjB ?_; refine jjB ?_; refine jjC ?_; refine jO rfl rfl rfl rfl ?_; refine jO rfl rfl rfl rfl ?_)
  refine jjQ ((Before_ref1 q p _).mono fun v _ _ h => h.trans (by rw [hbf])) rfl rfl ?_
  rintro _ w14 hS14 rfl
  cases B with
  | true =>
    (refine jz ?_; refine jjJ rfl ?_; refine jjB ?_; refine jjC ?_; apply jJ; exact eS rfl; apply jJ; exact eI rfl; refine jz ?_; refine jjF ?_; refine jC rfl rfl rfl ⟨inferInstance, ?_⟩)
    exact ⟨_, rfl, OwnL.nil _ _ _ _ _⟩
  | false =>
  rw [if_neg (by simp)]
  have hal := allS_len (side := side) (wd := wd) ht
  rw [allS, List.length_map] at hal
  (refine jz ?_; refine jjK rfl ?_; refine jjG ?_; refine jjB ?_; refine jjC ?_; apply jJ; exact eS rfl; refine jz ?_; refine jjB ?_; refine jjC ?_; refine jO rfl rfl rfl rfl ?_)
  refine jjQ (All_ref1 a c cs _ hs) rfl rfl ?_
  rintro av w16 hS16 hOa
  have hmf : ∀ i (hi : i < (allP (txF cs) (txF cs).length).length), makeF (txF cs) side wd (allP (txF cs) (txF cs).length)[i] = some (slP (txF cs) side wd (allP (txF cs) (txF cs).length)[i]) := fun i hi => makeF_mem (List.getElem_mem hi) (Nat.le_refl _)
  generalize allP (txF cs) (txF cs).length = ps at *
  obtain ⟨aa, ac, rfl⟩ := hOa.slice
  rw [List.length_map] at hOa ⊢
  have hE9 : Ext w w16 := inferInstance
  (apply jJ; exact eS rfl; refine jz ?_; refine jjB ?_; refine jjB ?_; refine jjC ?_; apply jJ; exact eI rfl; refine jz ?_; refine jjD ?_)
  refine W.keep0 [(4, .pointer (some ⟨b4, 0, none⟩)), (5, .pointer (some ⟨b5, 0, none⟩)), (6, .pointer (some ⟨b6, 0, none⟩)), (7, .pointer (some ⟨b7, 0, none⟩)), (11, .slice none 0 0), (12, .slice aa ps.length ac), (13, .int .i64 ((0 : Nat) : Int))] ⟨eP rfl, eP rfl, eP rfl, eP rfl, eS rfl, eS rfl, eI rfl, trivial⟩ fun s0 => ?_
  refine W.loopG (35 :: 36 :: 37 :: 38 :: 41 :: 42 :: 43 :: 44 :: 45 :: 46 :: 47 :: 48 :: 49 :: 50 :: 51 :: 52 :: 53 :: 54 :: 55 :: 56 :: 57 :: 58 :: 59 :: 60 :: 61 :: 62 :: 63 :: 64 :: 65 :: 66 :: 11 :: 39 :: 40 :: 13 :: []) (fun g s' V => ∃ (i : Nat) (sv : Value), s' 13 = .int .i64 ((i : Nat) : Int) ∧ s' 11 = sv ∧ g = ps.length - i ∧ i ≤ ps.length ∧ Ext w V ∧ w16.heap.size ≤ V.heap.size ∧ At V b4 0 [.slice a cs.length c] ∧ At V b5 0 [.int .i64 wd, .int .u8 side] ∧ At V b6 0 [.int .i64 p.1, .int .i64 p.2.1, .int .i64 p.2.2] ∧ At V b7 0 [.int .i64 q.1, .int .i64 q.2.1, .int .i64 q.2.2] ∧ OwnL V w14.heap.size 28 true 3 (.slice aa ps.length ac) (ps.map encPl) ∧ OwnL V w16.heap.size 32 true 6 sv ((((ps.take i).filter (inP p q)).map (slP (txF cs) side wd)).map encSl)) ps.length ⟨0, _, rfl, rfl, rfl, Nat.zero_le _, hE9, Nat.le_refl _, inferInstance, inferInstance, inferInstance, inferInstance, hOa, OwnL.nil _ _ _ _ _⟩ ?_
  rintro _ sd V ⟨i, sv, h13, h11, rfl, hi, hE, hz, hb2, hb3, hb6, hb7, hOaV, hO⟩
  obtain ⟨va, vl, vc, rfl⟩ := hO.slice3
  refine W.fix h13 (W.fix (d := 11) h11 ?_)
  clear h13 h11
  by_cases hil : i < ps.length
  rotate_left
  · obtain rfl : i = ps.length := by omega
    rw [List.take_length] at hO
    (refine jjB ?_; refine jjB ?_; refine jjC ?_; apply jI; exact eI rfl; apply jI; exact eS rfl; refine jh rfl ?_; refine jja rfl rfl (by omega) ?_; refine jz ?_; refine jjK rfl ?_; refine jjE ?_; refine jjB ?_; refine jjC ?_; apply jI; exact eS rfl; apply jJ; exact eS rfl; apply jJ; exact eI rfl; refine jz ?_; refine jjF ?_; refine jC rfl rfl rfl ⟨inferInstance, ?_⟩)
    exact ⟨_, rfl, hO.mono hE9.size⟩
  obtain ⟨ba, oa, rfl, hAp⟩ := hOaV.row.place' (by rw [List.getElem?_map, List.getElem?_eq_getElem hil]; rfl)
  have i0 : RowI V (.slice a cs.length c) true 2 (cs.map encCh) := ⟨hrow.h.ext hE⟩
  have hTV : TextI V cs := hT.ext hE
  have hsn := filter_snoc3 (f := inP p q) (List.getElem?_eq_getElem hil)
  have hfl := List.length_filter_le (inP p q) (ps.take i)
  rw [List.length_take] at hfl
  obtain ⟨B1, hb1⟩ : ∃ B, befP ps[i] p = B := ⟨_, rfl⟩
  obtain ⟨B2, hb2'⟩ : ∃ B, befP q ps[i] = B := ⟨_, rfl⟩
  have hin : inP p q ps[i] = (!B1 && !B2) := by rw [inP, hb1, hb2']
  (refine jjB ?_; refine jjB ?_; refine jjC ?_; apply jI; exact eI rfl; apply jI; exact eS rfl; refine jh rfl ?_; refine jjZ rfl rfl (by omega) ?_; refine jz ?_; refine jjJ rfl ?_; refine jjG ?_; refine jjB ?_; refine jjD ?_; refine jjB ?_)
  refine W.draw (fun w' => Ext V w') ?_
  intro w1 hS1
  (refine jjV [0, 1, 2, 3, 4] ?_ ?_ ?_; (decide +kernel); (exact hS1.ext); (((apply jjT; exact rfl; rintro w' hq; have := hq.toStep; apply jI; exact eS rfl; refine jz ?_; exact ⟨rfl, rfl⟩; apply jjT; exact rfl; rintro w' hq; have := hq.toStep; apply jI; exact eI rfl; refine jz ?_; exact ⟨rfl, rfl⟩; apply jjT; exact rfl; rintro w' hq; have := hq.toStep; refine jH _ rfl rfl rfl (by omega) ?_; refine jz ?_; exact ⟨rfl, rfl⟩; apply jjT; exact rfl; rintro w' hq; have := hq.toStep; refine jQ rfl rfl ?_; refine jz ?_; exact ⟨rfl, rfl⟩; apply jjT; exact rfl; rintro w' hq; have := hq.toStep; refine jO rfl rfl rfl rfl ?_; refine jz ?_; exact ⟨rfl, rfl⟩; refine jjU ?_))))
  (apply jjW 5; (decide +kernel); exact rfl; (exact hS1.ext))
  refine jjQ ((Before_ref1 ps[i] p _).mono fun v _ _ h => h.trans (by rw [hb1])) rfl rfl ?_
  rintro _ w2 hS2 rfl
  have e2 := hS1.ext.trans hS2.ext
  refine jz ?_
  cases B1 with
  | true =>
    (refine jjV [6, 7, 8, 9, 10, 11, 12, 13, 14, 15] ?_ ?_ ?_; (decide +kernel); (exact e2); (((apply jjT; exact rfl; rintro w' hq; have := hq.toStep; refine jp rfl ?_; refine jz ?_; exact ⟨rfl, rfl⟩; apply jjT; exact rfl; rintro w' hq; have := hq.toStep; apply jI; exact eB rfl; refine jz ?_; exact ⟨rfl, rfl⟩; apply jjT; exact rfl; rintro w' hq; have := hq.toStep; refine jU rfl rfl rfl rfl ?_; refine jz ?_; exact ⟨rfl, rfl⟩; apply jjT; exact rfl; rintro w' hq; have := hq.toStep; refine jU rfl rfl rfl rfl ?_; refine jz ?_; exact ⟨rfl, rfl⟩; apply jjT; exact rfl; rintro w' hq; have := hq.toStep; refine jU rfl rfl rfl rfl ?_; refine jz ?_; exact ⟨rfl, rfl⟩; apply jjT; exact rfl; rintro w' hq; have := hq.toStep; refine jU rfl rfl rfl rfl ?_; refine jz ?_; exact ⟨rfl, rfl⟩; apply jjT; exact rfl; rintro w' hq; have := hq.toStep; refine jU rfl rfl rfl rfl ?_; refine jz ?_; exact ⟨rfl, rfl⟩; apply jjT; exact rfl; rintro w' hq; have := hq.toStep; refine jU rfl rfl rfl rfl ?_; refine jz ?_; exact ⟨rfl, rfl⟩; apply jjT; exact rfl; rintro w' hq; have := hq.toStep; refine jU rfl rfl rfl rfl ?_; refine jz ?_; exact ⟨rfl, rfl⟩; apply jjT; exact rfl; rintro w' hq; have := hq.toStep; apply jL rfl; exact eB rfl; refine jz ?_; exact ⟨rfl, rfl⟩; refine jjU ?_))))
    refine jjX (by decide +kernel) e2 ?_
    simp only [Bool.not_true, Bool.false_and] at hin
    rw [hin] at hsn
    (refine jjK rfl ?_; refine jjG ?_; refine jjC ?_; apply jI; exact eI rfl; refine jY rfl rfl (by omega) ?_; apply jJ; exact eI rfl; refine jz ?_)
    refine ⟨rfl, by ((refine Same.upd rfl ?_; refine Same.upd rfl ?_; refine Same.upd rfl ?_; refine Same.upd rfl ?_; refine Same.upd rfl ?_; refine Same.upd rfl ?_; refine Same.upd rfl ?_; refine Same.upd rfl ?_; refine Same.upd rfl ?_; refine Same.upd rfl ?_; refine Same.upd rfl ?_; refine Same.upd rfl ?_; refine Same.upd rfl ?_; refine Same.upd rfl ?_; refine Same.upd rfl ?_; refine Same.upd rfl ?_; refine Same.upd rfl ?_; refine Same.upd rfl ?_; refine Same.upd rfl ?_; refine Same.upd rfl ?_; refine Same.upd rfl ?_; refine Same.upd rfl ?_; refine Same.upd rfl ?_; refine Same.upd rfl ?_; refine Same.upd rfl ?_; exact Same.ovN)), ps.length - (i + 1), by omega, i + 1, _, congrArg (Value.int .i64) (by omega), rfl, rfl, by omega, hE.trans e2, by have := e2.size; omega, hb2.ext e2, hb3.ext e2, hb6.ext e2, hb7.ext e2, hOaV.ext e2, ?_⟩
    rw [hsn, if_neg (by simp), List.append_nil]; exact hO.ext e2
  | false =>
  (refine jjV [6, 7, 8, 9, 10, 11, 12] ?_ ?_ ?_; (decide +kernel); (exact e2); (((apply jjT; exact rfl; rintro w' hq; have := hq.toStep; refine jq rfl ?_; refine jz ?_; exact ⟨rfl, rfl⟩; apply jjT; exact rfl; rintro w' hq; have := hq.toStep; apply jI; exact eB rfl; refine jz ?_; exact ⟨rfl, rfl⟩; apply jjT; exact rfl; rintro w' hq; have := hq.toStep; refine jT rfl rfl rfl ?_; refine jO rfl rfl rfl rfl ?_; refine jz ?_; exact ⟨rfl, rfl⟩; apply jjT; exact rfl; rintro w' hq; have := hq.toStep; refine jT rfl rfl rfl ?_; apply jI; exact eS rfl; refine jz ?_; exact ⟨rfl, rfl⟩; apply jjT; exact rfl; rintro w' hq; have := hq.toStep; refine jT rfl rfl rfl ?_; apply jI; exact eI rfl; refine jz ?_; exact ⟨rfl, rfl⟩; apply jjT; exact rfl; rintro w' hq; have := hq.toStep; refine jT rfl rfl rfl ?_; refine jH _ rfl rfl rfl (by omega) ?_; refine jz ?_; exact ⟨rfl, rfl⟩; apply jjT; exact rfl; rintro w' hq; have := hq.toStep; refine jT rfl rfl rfl ?_; refine jQ rfl rfl ?_; refine jz ?_; exact ⟨rfl, rfl⟩; refine jjU ?_))))
  (apply jjW 13; (decide +kernel); exact rfl; (exact e2))
  (refine jT rfl rfl rfl ?_)
  refine jjQ ((Before_ref1 q ps[i] _).mono fun v _ _ h => h.trans (by rw [hb2'])) rfl rfl ?_
  rintro _ w3 hS3 rfl
  have e3 := e2.trans hS3.ext
  refine jz ?_
  cases B2 with
  | true =>
    (refine jjV [14, 15] ?_ ?_ ?_; (decide +kernel); (exact e3); (((apply jjT; exact rfl; rintro w' hq; have := hq.toStep; refine jT rfl rfl rfl ?_; refine jp rfl ?_; refine jz ?_; exact ⟨rfl, rfl⟩; apply jjT; exact rfl; rintro w' hq; have := hq.toStep; apply jK rfl; exact eB rfl; refine jz ?_; exact ⟨rfl, rfl⟩; refine jjU ?_))))
    refine jjX (by decide +kernel) e3 ?_
    simp only [Bool.not_true, Bool.and_false] at hin
    rw [hin] at hsn
    (refine jjK rfl ?_; refine jjG ?_; refine jjC ?_; apply jI; exact eI rfl; refine jY rfl rfl (by omega) ?_; apply jJ; exact eI rfl; refine jz ?_)
    refine ⟨rfl, by ((refine Same.upd rfl ?_; refine Same.upd rfl ?_; refine Same.upd rfl ?_; refine Same.upd rfl ?_; refine Same.upd rfl ?_; refine Same.upd rfl ?_; refine Same.upd rfl ?_; refine Same.upd rfl ?_; refine Same.upd rfl ?_; refine Same.upd rfl ?_; refine Same.upd rfl ?_; refine Same.upd rfl ?_; refine Same.upd rfl ?_; refine Same.upd rfl ?_; refine Same.upd rfl ?_; refine Same.upd rfl ?_; refine Same.upd rfl ?_; refine Same.upd rfl ?_; refine Same.upd rfl ?_; refine Same.upd rfl ?_; refine Same.upd rfl ?_; refine Same.upd rfl ?_; refine Same.upd rfl ?_; refine Same.upd rfl ?_; refine Same.upd rfl ?_; exact Same.ovN)), ps.length - (i + 1), by omega, i + 1, _, congrArg (Value.int .i64) (by omega), rfl, rfl, by omega, hE.trans e3, by have := e3.size; omega, hb2.ext e3, hb3.ext e3, hb6.ext e3, hb7.ext e3, hOaV.ext e3, ?_⟩
    rw [hsn, if_neg (by simp), List.append_nil]; exact hO.ext e3
  | false =>
  (refine jjV [14, 15] ?_ ?_ ?_; (decide +kernel); (exact e3); (((apply jjT; exact rfl; rintro w' hq; have := hq.toStep; refine jT rfl rfl rfl ?_; refine jq rfl ?_; refine jz ?_; exact ⟨rfl, rfl⟩; apply jjT; exact rfl; rintro w' hq; have := hq.toStep; apply jK rfl; exact eB rfl; refine jz ?_; exact ⟨rfl, rfl⟩; refine jjU ?_))))
  refine jjX (by decide +kernel) e3 ?_
  simp only [Bool.not_false, Bool.and_self] at hin
  rw [hin] at hsn
  (refine jjJ rfl ?_)
  replace hE := hE.trans e3
  replace hb2 := hb2.ext e3
  replace hb3 := hb3.ext e3
  replace hb6 := hb6.ext e3
  replace hb7 := hb7.ext e3
  replace hOaV := hOaV.ext e3
  replace hO := hO.ext e3
  replace hAp := hAp.ext e3
  replace hTV := hTV.ext e3
  have ze3 := e3.size
  have z8 := hS8.size
  have z9 := hS9.size
  have z10 := hS10.size
  have z14 := hS14.size
  have z16 := hS16.size
  have hba : ba < w16.heap.size := (hOa.block ba rfl).2
  refine W.draw (fun w' => Ext w w' ∧ At w' b4 0 [.slice a cs.length c] ∧ At w' b5 0 [.int .i64 wd, .int .u8 side] ∧ At w' ba (oa + i * 3) (encPl ps[i]).cells.toList) ?_
  intro u1 k1
  have s1 := And.intro (hE.trans k1.ext) (And.intro (hb2.ext k1.ext) (And.intro (hb3.ext k1.ext) (hAp.ext k1.ext)))
  (refine jjV [0, 1, 2, 3, 4, 5, 6] ?_ ?_ ?_; (decide +kernel); (exact s1); (((apply jjT; exact rfl; rintro w' ⟨q0, q1, q2, q3⟩; apply jI; exact eS rfl; refine jz ?_; exact ⟨rfl, rfl⟩; apply jjT; exact rfl; rintro w' ⟨q0, q1, q2, q3⟩; refine jO rfl rfl rfl rfl ?_; refine jz ?_; exact ⟨rfl, rfl⟩; apply jjT; exact rfl; rintro w' ⟨q0, q1, q2, q3⟩; refine jO rfl rfl rfl rfl ?_; refine jz ?_; exact ⟨rfl, rfl⟩; apply jjT; exact rfl; rintro w' ⟨q0, q1, q2, q3⟩; apply jI; exact eS rfl; refine jz ?_; exact ⟨rfl, rfl⟩; apply jjT; exact rfl; rintro w' ⟨q0, q1, q2, q3⟩; apply jI; exact eI rfl; refine jz ?_; exact ⟨rfl, rfl⟩; apply jjT; exact rfl; rintro w' ⟨q0, q1, q2, q3⟩; refine jH _ rfl rfl rfl (by omega) ?_; refine jz ?_; exact ⟨rfl, rfl⟩; apply jjT; exact rfl; rintro w' ⟨q0, q1, q2, q3⟩; refine jQ rfl rfl ?_; refine jz ?_; exact ⟨rfl, rfl⟩; refine jjU ?_))))
  (apply jjW 7; (decide +kernel); exact rfl; (exact s1))
  have j0 : RowI u1 (.slice a cs.length c) true 2 (cs.map encCh) := ⟨hrow.h.ext (hE.trans k1.ext)⟩
  have j1 : TextI u1 cs := hTV.ext k1.ext
  refine jjQ (slipM_ref3 a c cs wd side _ hs ps[i] _ (hmf i hil)) rfl rfl ?_
  rintro _ u2 k2 rfl
  have f2 := k1.ext.trans k2.ext
  have s2 := And.intro (hE.trans f2) (And.intro (hb2.ext f2) (And.intro (hb3.ext f2) (hAp.ext f2)))
  refine jz ?_
  (apply jjW 8; (decide +kernel); exact rfl; (exact s2))
  (refine jjP (v := .agg _) rfl (by exact rfl) (by exact rfl) (by exact rfl) (by exact rfl) ?_; intro b10 w_b10 hb_b10 hs_b10 hS_b10 hk_b10; have hR_b10 := RowV.one (agg := true) (k := 6) rfl hk_b10)
  refine jz ?_
  have e10 := f2.trans hS_b10.ext
  have y10 := e10.size
  have s10 := And.intro (hE.trans e10) (And.intro (hb2.ext e10) (And.intro (hb3.ext e10) (hAp.ext e10)))
  have hR1 : RowV w_b10 true 6 (.slice (some ⟨b10, 0, none⟩) 1 1) [encSl (slP (txF cs) side wd ps[i])] := hR_b10
  (apply jjW 9; (decide +kernel); exact rfl; (exact s10))
  refine Ops.appendL (hO.ext e10) (by omega) hR1 rfl rfl rfl rfl (one_sl _) ?_ ?_ ?_
  · rw [List.length_map, List.length_map]; simp only [List.length_cons, List.length_nil]; omega
  · rw [List.length_map, List.length_map]; simp only [List.length_cons, List.length_nil]; omega
  intro sv2 u3 hA hO3 _ hown
  refine jz ?_
  have hE3 : Ext w u3 := hA.ext (hE.trans e10) hE9.size
  have hnb : ∀ b, b < w16.heap.size → (Value.slice va vl vc).ownBlock ≠ some b := fun b h e => by have := (hO.block _ e).1; omega
  have g2 := hA.at_ (hb2.ext e10) (hnb _ (by omega))
  have g3 := hA.at_ (hb3.ext e10) (hnb _ (by omega))
  have g6 := hA.at_ (hb6.ext e10) (hnb _ (by omega))
  have g7 := hA.at_ (hb7.ext e10) (hnb _ (by omega))
  have s3 := And.intro hE3 (And.intro g2 (And.intro g3 (hA.at_ (hAp.ext e10) (hnb _ hba))))
  obtain ⟨va3, vl3, vc3, rfl⟩ := hO3.slice3
  (apply jjW 10; (decide +kernel); exact rfl; (exact s3))
  (apply jJ; exact eS rfl; refine jz ?_)
  refine jjX (by decide +kernel) s3 ?_
  have zA := hA.g.size
  have hnx : ((ps.take i).filter (inP p q)).map (slP (txF cs) side wd) ++ [slP (txF cs) side wd ps[i]] = ((ps.take (i + 1)).filter (inP p q)).map (slP (txF cs) side wd) := by rw [hsn, if_pos rfl, List.map_append]; rfl
  rw [← List.map_singleton, ← List.map_append, hnx] at hO3
  have hOa3 := (hOaV.ext e10).app hA (OwnL.ne (hOaV.ext e10) (hO.ext e10) (by decide))
  (refine jjC ?_; apply jI; exact eI rfl; refine jY rfl rfl (by omega) ?_; apply jJ; exact eI rfl; refine jz ?_)
  exact ⟨rfl, by ((refine Same.upd rfl ?_; refine Same.upd rfl ?_; refine Same.upd rfl ?_; refine Same.upd rfl ?_; refine Same.upd rfl ?_; refine Same.upd rfl ?_; refine Same.upd rfl ?_; refine Same.upd rfl ?_; refine Same.upd rfl ?_; refine Same.upd rfl ?_; refine Same.upd rfl ?_; refine Same.upd rfl ?_; refine Same.upd rfl ?_; refine Same.upd rfl ?_; refine Same.upd rfl ?_; refine Same.upd rfl ?_; refine Same.upd rfl ?_; refine Same.upd rfl ?_; refine Same.upd rfl ?_; refine Same.upd rfl ?_; refine Same.upd rfl ?_; refine Same.upd rfl ?_; refine Same.upd rfl ?_; refine Same.upd rfl ?_; refine Same.upd rfl ?_; refine Same.upd rfl ?_; refine Same.upd rfl ?_; refine Same.upd rfl ?_; refine Same.upd rfl ?_; refine Same.upd rfl ?_; refine Same.upd rfl ?_; refine Same.upd rfl ?_; refine Same.upd rfl ?_; refine Same.upd rfl ?_; refine Same.upd rfl ?_; refine Same.upd rfl ?_; exact Same.ovN)), ps.length - (i + 1), by omega, i + 1, _, congrArg (Value.int .i64) (by omega), rfl, rfl, by omega, hE3, by omega, g2, g3, g6, g7, hOa3, hO3⟩
end
end Go.Proofs.YtgmgiepdehlinaaDoor

/- The proof engine, part 23: regions that draw their order and whose last operation stores into what they read. -/
namespace Go.Proofs.YtgmgiepdehlinaaDoor
open Go.RowKit

section
variable {P : Program} {ro : Option Nat} {n : Nat} {all : List Oper} {S : World → Prop} {K : Sl → World → Prop} {x : Nat}
theorem AnyS.mono {K' : Sl → World → Prop} (hk : ∀ s w, K' s w → K s w) : ∀ {fuel : Nat} {listed : Array Bool} {s : Sl} {w : World}, AnyS P ro n all S K' fuel listed s w → AnyS P ro n all S K fuel listed s w := by
  intro fuel
  induction fuel with
  | zero =>
    intro listed s w h
    rw [AnyS.zero] at h ⊢
    exact ⟨h.1, h.2.1, hk _ _ h.2.2⟩
  | succ fuel ih =>
    intro listed s w h
    rw [AnyS.succ] at h ⊢
    exact ⟨h.1, fun e => hk _ _ (h.2.1 e), fun i hi o ho => (h.2.2 i hi o ho).mono fun v w' h => ih h⟩
/-- Each order of the operations that are not yet listed ends, and K; the world stays in S till the operation x. -/
def AnyX (P : Program) (ro : Option Nat) (n : Nat) (all : List Oper) (S : World → Prop) (K : Sl → World → Prop) (x : Nat) : Nat → Array Bool → Sl → World → Prop
  | 0, listed, s, w => (listed.getD x false = false → S w) ∧ Region.ready .any all.toArray listed = [] ∧ K s w
  | fuel + 1, listed, s, w => (listed.getD x false = false → S w) ∧ (Region.ready .any all.toArray listed = [] → K s w) ∧
      ∀ i ∈ Region.ready .any all.toArray listed, ∀ o, all[i]? = some o → Op1 P ro n all o s w (fun v w' => AnyX P ro n all S K x fuel (listed.setIfInBounds i true) (putS s o.dst v) w')
theorem AnyX.succ {fuel : Nat} {listed : Array Bool} {s : Sl} {w : World} : AnyX P ro n all S K x (fuel + 1) listed s w ↔ ((listed.getD x false = false → S w) ∧ (Region.ready .any all.toArray listed = [] → K s w) ∧
      ∀ i ∈ Region.ready .any all.toArray listed, ∀ o, all[i]? = some o → Op1 P ro n all o s w (fun v w' => AnyX P ro n all S K x fuel (listed.setIfInBounds i true) (putS s o.dst v) w')) := Iff.rfl
theorem AnyX.zero {listed : Array Bool} {s : Sl} {w : World} : AnyX P ro n all S K x 0 listed s w ↔ ((listed.getD x false = false → S w) ∧ Region.ready .any all.toArray listed = [] ∧ K s w) := Iff.rfl
theorem AnyX.inS : ∀ {fuel : Nat} {listed : Array Bool} {s : Sl} {w : World}, AnyX P ro n all S K x fuel listed s w → listed.getD x false = false → S w
  | 0, _, _, _, h => h.1
  | _ + 1, _, _, _, h => h.1
theorem AnyX.sound {ds : List Deferred} {Q : Exit → Act → World → Prop} (hQ : ∀ s w, K s w → Q .normal (mkA n s ds) w) : ∀ (fuel : Nat) (listed : Array Bool) (s : Sl) (w : World), AnyX P ro n all S K x fuel listed s w →
    wpAnyIn (Fw ro) 0 P .any all.toArray Q fuel listed (mkA n s ds) w := by
  intro fuel
  induction fuel with
  | zero => intro listed s w h; exact ⟨h.2.1, hQ _ _ h.2.2⟩
  | succ fuel ih =>
    intro listed s w h
    refine ⟨fun h0 => hQ _ _ (h.2.1 h0), fun i hi => ?_⟩
    obtain ⟨_, o, ho, _⟩ := mem_ready.1 hi
    have ho' : all[i]? = some o := by simpa using ho
    exact Op1.sound ho' (h.2.2 i hi o ho') fun v w' hk => ih _ _ _ hk
/-- The operation x stands behind the operation i. -/
def behind (all : List Oper) (x i : Nat) : Bool := (x != i) && (match all[x]? with
  | some o => o.after.toList.any fun e => Region.binds .any e && (e.on == i)
  | none => false)
theorem AnyX.first {i : Nat} {oi : Oper} {v : Value} (hn : niceAll all = true) (hi : all[i]? = some oi) (hbx : behind all x i = true) :
    ∀ (fuel : Nat) (listed : Array Bool) (s : Sl) (w : World),
      (∀ j oj, all[j]? = some oj → j ≠ i → listed.getD j true = false → (∀ e ∈ oj.after, Region.binds .any e = true → e.on ≠ i) → oi.apart all.toArray oj = true) →
      i ∈ Region.ready .any all.toArray listed → Quiet P ro n all S oi v s → S w → listed.getD x false = false →
      AnyX P ro n all S K x fuel (listed.setIfInBounds i true) (putS s oi.dst v) w → AnyX P ro n all S K x (fuel + 1) listed s w := by
  have putv : ∀ (s : Sl) (u : Value), (∀ d, oi.dst = some d → u = v) → putS s oi.dst u = putS s oi.dst v := fun s u h => by
    cases hd : oi.dst with
    | none => rfl
    | some d => rw [h d hd]
  have hxi : i ≠ x := fun e => by subst e; simp [behind] at hbx
  intro fuel
  induction fuel with
  | zero =>
    intro listed s w _ hr hy hS hx H
    refine AnyX.succ.2 ⟨fun _ => hS, fun h => (by rw [h] at hr; cases hr), fun j hj oj hoj => ?_⟩
    by_cases hji : j = i
    · subst hji
      have : oj = oi := by rw [hi] at hoj; exact (Option.some.inj hoj).symm
      subst this
      refine (hy w hS).mono fun u w' ⟨h1, h2⟩ => ?_
      subst h2; rw [putv s u h1]; exact H
    · have := ready_mono hj hji
      rw [(AnyX.zero.1 H).2.1] at this
      cases this
  | succ fuel ih =>
    intro listed s w hfree hr hy hS hx H
    refine AnyX.succ.2 ⟨fun _ => hS, fun h => (by rw [h] at hr; cases hr), fun j hj oj hoj => ?_⟩
    by_cases hji : j = i
    · subst hji
      have : oj = oi := by rw [hi] at hoj; exact (Option.some.inj hoj).symm
      subst this
      refine (hy w hS).mono fun u w' ⟨h1, h2⟩ => ?_
      subst h2; rw [putv s u h1]; exact H
    · obtain ⟨hjun, oj', hoj', hall⟩ := mem_ready.1 hj
      have : oj' = oj := by
        have : all[j]? = some oj' := by simpa using hoj'
        rw [hoj] at this; exact (Option.some.inj this).symm
      subst this
      have hnot : ∀ e ∈ oj'.after, Region.binds .any e = true → e.on ≠ i := fun e he hb heq => by
        have h1 := hall e he hb
        have h0 := (mem_ready.1 hr).1
        rw [heq] at h1
        rcases Nat.lt_or_ge i listed.size with h' | h'
        · simp [h'] at h0 h1; rw [h0] at h1; cases h1
        · simp [Array.getElem?_eq_none h'] at h1
      have hjx : j ≠ x := fun e => by
        subst e
        simp only [behind, hoj, Bool.and_eq_true, List.any_eq_true, beq_iff_eq] at hbx
        obtain ⟨_, e, he, hb, ho⟩ := hbx
        exact hnot e (by simpa using he) hb ho
      obtain ⟨a1, a2, a3⟩ := Oper.apart_spec (hfree j oj' hoj hji hjun hnot)
      have h1 := (Op1.congr (niceAll.get hn hoj) a1).2 ((AnyX.succ.1 H).2.2 j (ready_mono hj hji) oj' hoj)
      have hfree' : ∀ k ok, all[k]? = some ok → k ≠ i → (listed.setIfInBounds j true).getD k true = false →
          (∀ e ∈ ok.after, Region.binds .any e = true → e.on ≠ i) → oi.apart all.toArray ok = true := fun k ok hk hki hun hno => by
        refine hfree k ok hk hki ?_ hno
        by_cases hjk : j = k
        · subst hjk; exact hjun
        · rw [getD_set_ne true hjk] at hun; exact hun
      refine h1.mono fun u w' h3 => ?_
      have hx' : (listed.setIfInBounds j true).getD x false = false := by rw [getD_set_ne false hjx]; exact hx
      refine ih (listed.setIfInBounds j true) (putS s oj'.dst u) w' hfree' (ready_mono hr (Ne.symm hji)) (fun w hw => (Op1.congr (niceAll.get hn hi) a3).1 (hy w hw)) (h3.inS (by rw [getD_set_ne false hjx, getD_set_ne false hxi]; exact hx)) hx' ?_
      rw [Array.setIfInBounds_comm _ _ hji, ← putS_comm s v u a2]
      exact h3
theorem Takes.nilD {K : Sl → Prop} {s : Sl} (h : Takes P ro n all S [] K s) : K s := by
  with_unfolding_all exact h
theorem Takes.consD {i : Nat} {is : List Nat} {K : Sl → Prop} {s : Sl} (h : Takes P ro n all S (i :: is) K s) : ∃ o v, all[i]? = some o ∧ (∀ w, S w → Ops P ro n all [o] (fun s' w' => s' = putS s o.dst v ∧ w' = w) s w) ∧ Takes P ro n all S is K (putS s o.dst v) := by
  with_unfolding_all exact h
theorem AnyX.takes (hn : niceAll all = true) : ∀ (is : List Nat) {fuel : Nat} {listed : Array Bool} {s : Sl} {w : World}, okTake all is listed = true → is.all (behind all x) = true → listed.getD x false = false → S w →
    Takes P ro n all S is (fun s' => AnyX P ro n all S K x fuel (listAll listed is) s' w) s → AnyX P ro n all S K x (fuel + is.length) listed s w := by
  intro is
  induction is with
  | nil => intro fuel listed s w _ _ _ _ h; exact h.nilD
  | cons i is ih =>
    intro fuel listed s w hok hb hx hS h
    simp only [okTake, Bool.and_eq_true] at hok
    simp only [List.all_cons, Bool.and_eq_true] at hb
    obtain ⟨⟨h1, h2⟩, h3⟩ := hok
    obtain ⟨o, v, ho, hq, hr⟩ := h.consD
    have ho' : all.toArray[i]? = some o := by simpa using ho
    have hxi : i ≠ x := fun e => by have := hb.1; subst e; simp [behind] at this
    refine AnyX.first (v := v) hn ho hb.1 (fuel + is.length) listed s w (fun j oj hj => Region.free_spec ho' h2 j oj (by simpa using hj)) (by simpa using h1) ?_ hS hx (ih h3 hb.2 (by rw [getD_set_ne false hxi]; exact hx) hS hr)
    intro w hw
    have := hq w hw
    rw [op1_ops] at this
    refine this.mono fun u w' ⟨e1, e2⟩ => ⟨fun d hd => ?_, e2⟩
    rw [hd] at e1
    have := congrFun e1 d
    simpa [putS, upd] using this
theorem AnyX.take (is : List Nat) {fuel : Nat} {listed : Array Bool} {s : Sl} {w : World} (hok : (niceAll all && Nat.ble is.length fuel && okTake all is listed && is.all (behind all x) && !listed.getD x false) = true) (hS : S w)
    (h : Takes P ro n all S is (fun s' => AnyX P ro n all S K x (fuel - is.length) (listAll listed is) s' w) s) : AnyX P ro n all S K x fuel listed s w := by
  simp only [Bool.and_eq_true, Bool.not_eq_true'] at hok
  have hle : is.length ≤ fuel := by simpa using hok.1.1.1.2
  have := AnyX.takes (K := K) (fuel := fuel - is.length) hok.1.1.1.1 is hok.1.1.2 hok.1.2 hok.2 hS h
  rwa [Nat.sub_add_cancel hle] at this
theorem AnyX.done {fuel : Nat} {listed : Array Bool} {s : Sl} {w : World} (hr : ((Region.ready .any all.toArray listed).isEmpty && listed.getD x false) = true) (h : K s w) : AnyX P ro n all S K x fuel listed s w := by
  simp only [Bool.and_eq_true] at hr
  have hr' : Region.ready .any all.toArray listed = [] := List.isEmpty_iff.1 hr.1
  have hx : listed.getD x false = false → S w := fun h => by rw [hr.2] at h; cases h
  cases fuel with
  | zero => exact ⟨hx, hr', h⟩
  | succ fuel => exact ⟨hx, fun _ => h, fun i hi => by rw [hr'] at hi; cases hi⟩
theorem AnyX.one (i : Nat) {o : Oper} {fuel : Nat} {listed : Array Bool} {s : Sl} {w : World} (hr : (Nat.blt 0 fuel && (Region.ready .any all.toArray listed == [i])) = true) (ho : all[i]? = some o) (hS : S w)
    (h : Ops P ro n all [o] (fun s' w' => AnyX P ro n all S K x (fuel - 1) (listed.setIfInBounds i true) s' w') s w) : AnyX P ro n all S K x fuel listed s w := by
  simp only [Bool.and_eq_true, beq_iff_eq] at hr
  obtain ⟨hf, hr⟩ := hr
  have hf : 0 < fuel := by simpa using hf
  obtain ⟨f, rfl⟩ : ∃ f, fuel = f + 1 := ⟨fuel - 1, by omega⟩
  refine ⟨fun _ => hS, fun h0 => (by rw [hr] at h0; cases h0), fun j hj oj hoj => ?_⟩
  rw [hr] at hj
  obtain rfl : j = i := by simpa using hj
  obtain rfl : o = oj := by rw [ho] at hoj; exact Option.some.inj hoj
  rw [op1_ops] at h; exact h
theorem W.drawX {X : Ctx} {s : Sl} {ds : List Deferred} {w : World} {id : Nat} {ops : List Oper} [hm : Mixed P] (x : Nat) (S : World → Prop)
    (h : ∀ w1, Step w w1 → AnyX P ro n ops S (fun s' w' => X.nx s' ds w') x ops.length (Array.replicate ops.length false) s w1) : W P ro n (.region id ops.toArray true) X s ds w := by
  unfold W
  refine wpIn_region_any hm.h ?_
  have h1 := h { w with drawn := w.drawn + 1 } ⟨(Below.refl _ w).drew⟩
  have := AnyX.sound (ds := ds) (Q := X.post n) (fun s w hk => ⟨s, ds, rfl, hk⟩) _ _ _ _ h1
  simpa using this
end
attribute [irreducible] AnyX
end Go.Proofs.YtgmgiepdehlinaaDoor

/- The reference: Twin. -/
namespace Go.Proofs.YtgmgiepdehlinaaDoor
open Go.RowKit

/-- Lines of the call's own. -/
structure OwnLn (w : World) (B : Nat) (v : Value) (ys : List Ln) : Prop where
  out : OwnL w B 69 false 1 v (ys.map encLn)
  ins : ∀ y ∈ ys, OwnL w B 9 false 1 (encLn y) (y.2.2.map strV)
theorem OwnLn.ext {w w' : World} {B : Nat} {v : Value} {ys : List Ln} (h : OwnLn w B v ys) (hs : Ext w w') : OwnLn w' B v ys := ⟨h.out.ext hs, fun y hy => (h.ins y hy).ext hs⟩
theorem OwnLn.put {w w' : World} {B b : Nat} {o : Obj} {v : Value} {ys : List Ln} (h : OwnLn w B v ys) (p : PutO w w' b o) (hb : b < B) : OwnLn w' B v ys :=
  ⟨h.out.put p fun e => by have := (h.out.block _ e).1; omega, fun y hy => (h.ins y hy).put p fun e => by have := ((h.ins y hy).block _ e).1; omega⟩
theorem OwnLn.mono {w : World} {B B' : Nat} {v : Value} {ys : List Ln} (h : OwnLn w B v ys) (hB : B' ≤ B) : OwnLn w B' v ys := ⟨h.out.mono hB, fun y hy => (h.ins y hy).mono hB⟩
/-- Chapters of the call's own. -/
structure OwnCh (w : World) (B : Nat) (v : Value) (cs : List Ch) : Prop where
  out : OwnL w B 68 true 2 v (cs.map encCh)
  ins : ∀ x ∈ cs, OwnLn w B (.slice x.2.1 x.2.2.2.length x.2.2.1) x.2.2.2
theorem OwnCh.ext {w w' : World} {B : Nat} {v : Value} {cs : List Ch} (h : OwnCh w B v cs) (hs : Ext w w') : OwnCh w' B v cs := ⟨h.out.ext hs, fun y hy => (h.ins y hy).ext hs⟩
theorem OwnCh.put {w w' : World} {B b : Nat} {o : Obj} {v : Value} {cs : List Ch} (h : OwnCh w B v cs) (p : PutO w w' b o) (hb : b < B) : OwnCh w' B v cs :=
  ⟨h.out.put p fun e => by have := (h.out.block _ e).1; omega, fun y hy => (h.ins y hy).put p hb⟩
theorem OwnCh.mono {w : World} {B B' : Nat} {v : Value} {cs : List Ch} (h : OwnCh w B v cs) (hB : B' ≤ B) : OwnCh w B' v cs := ⟨h.out.mono hB, fun y hy => (h.ins y hy).mono hB⟩
theorem OwnCh.text {w : World} {B : Nat} {v : Value} {cs : List Ch} (h : OwnCh w B v cs) : TextI w cs := ⟨fun x hx => (h.ins x hx).out.row, fun x hx y hy => ((h.ins x hx).ins y hy).row⟩
theorem OwnLn.only {kb : Nat} {w w' : World} {B : Nat} {v : Value} {ys : List Ln} (h : OwnLn w B v ys) (o : Only kb w w') (hB : kb < B) : OwnLn w' B v ys := ⟨o.own h.out hB, fun y hy => o.own (h.ins y hy) hB⟩
/-- A row lies in no block of another type. -/
theorem OwnL.neB {w : World} {B e e' k b : Nat} {agg : Bool} {v : Value} {xs : List Value} {cs : List Value} (h : OwnL w B e agg k v xs) (hb : Bk w b cs e') (he : e ≠ e') : v.ownBlock ≠ some b := fun hv => by
  rcases h.own.2 with ⟨rfl, _⟩ | ⟨g, cap, cur, rfl, _, hg, _⟩
  · simp [Value.ownBlock] at hv
  · simp only [Value.ownBlock, Option.some.injEq] at hv
    subst hv
    rw [hb.h] at hg
    cases hg
    exact he rfl
/-- Chapters of the call's own, none of which lies in the block b, nor behind it. -/
theorem OwnCh.only {kb : Nat} {w w' : World} {B : Nat} {v : Value} {cs : List Ch} (h : OwnCh w B v cs) (o : Only kb w w') (hout : v.ownBlock ≠ some kb) (hb : ∃ vs, Bk w kb vs 68) : OwnCh w' B v cs := by
  obtain ⟨vs, hb⟩ := hb
  exact ⟨o.own' h.out hout, fun x hx => ⟨o.own' (h.ins x hx).out ((h.ins x hx).out.neB hb (by decide)), fun y hy => o.own' ((h.ins x hx).ins y hy) (((h.ins x hx).ins y hy).neB hb (by decide))⟩⟩
theorem OwnLn.appC {w w' : World} {B B' B'' : Nat} {v u : Value} {ys : List Ln} {us : List Value} (h : OwnLn w B v ys) (ho : OwnL w B' 68 true 2 u us) (a : App B'' w w' u) : OwnLn w' B v ys :=
  ⟨h.out.app a (OwnL.ne h.out ho (by decide)), fun y hy => (h.ins y hy).app a (OwnL.ne (h.ins y hy) ho (by decide))⟩
theorem one_ln (y : Ln) : [encLn y].all (fun v => v.cells.toList.all (·.oneCell')) = true := rfl
theorem one_ch (y : Ch) : [encCh y].all (fun v => v.cells.toList.all (·.oneCell')) = true := rfl
theorem all_strs (ws : List ByteArray) : (ws.map strV).all (fun v => v.cells.toList.all (·.oneCell')) = true := by
  rw [List.all_eq_true]
  intro x hx
  obtain ⟨s, _, rfl⟩ := List.mem_map.1 hx
  rfl

section
variable (a : Option Addr) (c : Nat) (cs : List Ch) (w : World) [hrow : RowI w (.slice a cs.length c) true 2 (cs.map encCh)] [hT : TextI w cs]
set_option maxHeartbeats 4000000 in
theorem Twin_ref1 (hs : SmallT cs) : Ct Tryd.prog 6 [.agg #[.slice a cs.length c]] w fun v w' => ∃ a' c' ds, v = .agg #[.slice a' (ds.map encCh).length c'] ∧ txF ds = txF cs ∧ OwnCh w' w.heap.size (.slice a' (ds.map encCh).length c') ds := by
  have hs1 := hs.1
  refine Ct.ofW (by simp) ?_
  (refine jjB ?_; refine jjC ?_)
  (refine jy rfl ?_; intro b1 w_b1 hb_b1 hs_b1 hS_b1 hk_b1; have hA_b1 := At.ofBlock hk_b1)
  ((skip); refine jjY ?_; intro b2 w_b2 hb_b2 hs_b2 hS_b2 hk_b2; have hA_b2 := Bk.of hk_b2)
  (((refine jz ?_; refine jjB ?_; refine jjC ?_)); refine jjY ?_; intro b3 w_b3 hb_b3 hs_b3 hS_b3 hk_b3; have hA_b3 := Bk.of hk_b3)
  (refine jz ?_; refine jjB ?_; refine jjB ?_; refine jjC ?_; apply jJ; exact eI rfl; refine jz ?_; refine jjD ?_)
  have hE3 : Ext w w_b3 := inferInstance
  have hz3 := hE3.size
  have hB2 : Bk w_b3 b2 [.slice none 0 0] 24 := inferInstance
  have hB1 : At w_b3 b1 0 [.slice a cs.length c] := inferInstance
  refine W.keep0 [(1, .pointer (some ⟨b1, 0, none⟩)), (2, .pointer (some ⟨b2, 0, none⟩)), (3, .pointer (some ⟨b3, 0, none⟩)), (4, .int .i64 ((0 : Nat) : Int))] ⟨eP rfl, eP rfl, eP rfl, eI rfl, trivial⟩ fun s0 => ?_
  refine W.loopG (7 :: 8 :: 9 :: 10 :: 11 :: 14 :: 15 :: 16 :: 17 :: 18 :: 19 :: 20 :: 5 :: 6 :: 21 :: 22 :: 23 :: 24 :: 25 :: 26 :: 27 :: 28 :: 29 :: 32 :: 33 :: 34 :: 35 :: 36 :: 37 :: 38 :: 39 :: 40 :: 41 :: 42 :: 43 :: 44 :: 45 :: 46 :: 47 :: 30 :: 31 :: 48 :: 49 :: 50 :: 51 :: 52 :: 53 :: 12 :: 13 :: 4 :: []) (fun g s' V => ∃ (k : Nat) (cv : Value) (ds : List Ch), s' 4 = .int .i64 ((k : Nat) : Int) ∧ g = cs.length - k ∧ k ≤ cs.length ∧ Only b3 w_b3 V ∧ Bk V b3 [cv] 24 ∧ OwnCh V w_b3.heap.size cv ds ∧ txF ds = (txF cs).take k) cs.length ⟨0, _, [], rfl, rfl, Nat.zero_le _, .ofExt (.refl _), hA_b3, ⟨OwnL.nil _ _ _ _ _, by simp⟩, rfl⟩ ?_
  rintro _ sd V ⟨k, cv, ds, h4, rfl, hk, hOn, hV3, hOd, htx⟩
  refine W.fix h4 ?_
  clear h4
  have zOn := hOn.size
  have hEV : Ext w V := hOn.ext hE3 (by omega)
  have hb1V : At V b1 0 [.slice a cs.length c] := hOn.at_ hB1 (by omega)
  have hTV : TextI V cs := hT.ext hEV
  have hrV : RowI V (.slice a cs.length c) true 2 (cs.map encCh) := ⟨hrow.h.ext hEV⟩
  have hB2V : Bk V b2 [.slice none 0 0] 24 := hOn.bk hB2 (by omega)
  have hdl : ds.length ≤ 1000 := by have := congrArg List.length htx; rw [txF_len, List.length_take] at this; omega
  by_cases hkc : k < cs.length
  rotate_left
  · have hke : k = cs.length := by omega
    rw [hke, ← txF_len cs, List.take_length] at htx
    obtain ⟨ca, cc, rfl⟩ := hOd.out.slice
    have := Bk.toAt (h := hV3)
    (refine jjB ?_; refine jjB ?_; refine jjC ?_; apply jI; exact eI rfl; refine jm ?_; refine jn rfl ?_; refine jN rfl rfl rfl ?_; refine jh rfl ?_; refine jja rfl rfl (by omega) ?_; refine jz ?_; refine jjK rfl ?_; refine jjE ?_; refine jjB ?_; refine jjC ?_; refine jO rfl rfl rfl rfl ?_)
    refine Ops.store rfl rfl rfl rfl rfl ?_
    intro V2 hp2
    have hA2 : At V2 b2 0 [.slice ca (ds.map encCh).length cc] := Bk.toAt (h := ⟨hp2.new⟩)
    (refine jz ?_; refine jjF ?_)
    exact fin1C rfl rfl rfl rfl rfl ⟨hp2.ext hEV (by omega), ca, cc, ds, rfl, htx, (hOd.put hp2 (by omega)).mono (by omega)⟩
  have hgk := List.getElem?_eq_getElem hkc
  have hsk := hs.2 _ (List.getElem_mem hkc)
  obtain ⟨ba, oa, rfl, hAc⟩ := hrow.h.place' (map_get hkc)
  have hAc1 : At w ba (oa + k * 2) [.int .i64 cs[k].1, .slice cs[k].2.1 cs[k].2.2.2.length cs[k].2.2.1] := hAc
  clear hAc
  (refine jjB ?_; refine jjB ?_; refine jjC ?_; apply jI; exact eI rfl; refine jm ?_; refine jn rfl ?_; refine jN rfl rfl rfl ?_; refine jh rfl ?_; refine jjZ rfl rfl (by omega) ?_; refine jz ?_; refine jjJ rfl ?_; refine jjG ?_; refine jjB ?_; refine jjD ?_; refine jjB ?_; refine jjC ?_; refine jm ?_; refine jn rfl ?_; refine jN rfl rfl rfl ?_; apply jI; exact eI rfl; refine jF rfl rfl rfl (map_get (by omega)) ?_; intro _ _ _; refine jm ?_; refine jn rfl ?_; refine jP rfl rfl rfl ?_)
  (refine jjS (cells := [.int .i64 cs[k].1, .slice none 0 0]) ?_ ?_; exact rfl)
  (apply jjR rfl; (intro _; first|exact eI rfl|exact eB rfl|exact eP rfl|exact eS rfl|exact eT rfl|exact eA rfl|exact eU rfl|exact eF rfl|exact eM rfl|exact eN rfl|exact rfl); exact rfl; exact rfl; exact rfl; exact rfl; intro b5 w_b5 hb_b5 hs_b5 hS_b5 hk_b5; have hA_b5 := Bk.of hk_b5)
  (refine jz ?_; refine jjB ?_; refine jjB ?_; refine jjC ?_; apply jJ; exact eI rfl; refine jz ?_; refine jjD ?_)
  have hE5 := hS_b5.ext
  have z5 := hE5.size
  have hw5 : Ext w w_b5 := hEV.trans hE5
  refine W.keep [(1, .pointer (some ⟨b1, 0, none⟩)), (2, .pointer (some ⟨b2, 0, none⟩)), (3, .pointer (some ⟨b3, 0, none⟩)), (4, .int .i64 ((k : Nat) : Int)), (5, .pointer (some ⟨b5, 0, none⟩)), (6, .int .i64 ((0 : Nat) : Int))] (D := (7 :: 8 :: 9 :: 10 :: 11 :: 14 :: 15 :: 16 :: 17 :: 18 :: 19 :: 20 :: 5 :: 6 :: 21 :: 22 :: 23 :: 24 :: 25 :: 26 :: 27 :: 28 :: 29 :: 32 :: 33 :: 34 :: 35 :: 36 :: 37 :: 38 :: 39 :: 40 :: 41 :: 42 :: 43 :: 44 :: 45 :: 46 :: 47 :: 30 :: 31 :: 48 :: 49 :: 50 :: 51 :: 52 :: 53 :: 12 :: 13 :: 4 :: [])) (sO := upds s0 _) (by ((refine Same.upd rfl ?_; refine Same.upd rfl ?_; refine Same.upd rfl ?_; refine Same.upd rfl ?_; refine Same.upd rfl ?_; refine Same.upd rfl ?_; refine Same.upd rfl ?_; refine Same.upd rfl ?_; refine Same.upd rfl ?_; refine Same.upd rfl ?_; refine Same.upd rfl ?_; refine Same.upd rfl ?_; refine Same.upd rfl ?_; refine Same.upd rfl ?_; refine Same.upd rfl ?_; exact Same.ovN))) ⟨eP rfl, eP rfl, eP rfl, eI rfl, eP rfl, eI rfl, trivial⟩ fun s1 hs1' => ?_
  refine W.loopG (21 :: 22 :: 23 :: 24 :: 25 :: 26 :: 27 :: 28 :: 29 :: 32 :: 33 :: 34 :: 35 :: 36 :: 37 :: 38 :: 39 :: 40 :: 41 :: 42 :: 43 :: 44 :: 45 :: 46 :: 47 :: 30 :: 31 :: 6 :: []) (fun g s' V2 => ∃ (n : Nat) (lv : Value) (ys : List Ln), s' 6 = .int .i64 ((n : Nat) : Int) ∧ g = cs[k].2.2.2.length - n ∧ n ≤ cs[k].2.2.2.length ∧ Only b5 w_b5 V2 ∧ Bk V2 b5 [.int .i64 cs[k].1, lv] 68 ∧ OwnLn V2 w_b5.heap.size lv ys ∧ ys.map (·.2.2) = (cs[k].2.2.2.map (·.2.2)).take n) cs[k].2.2.2.length ⟨0, _, [], rfl, rfl, Nat.zero_le _, .ofExt (.refl _), hA_b5, ⟨OwnL.nil _ _ _ _ _, by simp⟩, rfl⟩ ?_
  rintro _ sd2 V2 ⟨n, lv, ys, h6, rfl, hn, hOn2, hV5, hOy, hyw⟩
  refine W.fix h6 ?_
  clear h6
  have zOn2 := hOn2.size
  have hE2 : Ext w V2 := hOn2.ext hw5 (by omega)
  have hb12 : At V2 b1 0 [.slice (some ⟨ba, oa, none⟩) cs.length c] := hOn2.at_ (hb1V.ext hE5) (by have := hb1V.lt; omega)
  have hT2 : TextI V2 cs := hT.ext hE2
  have hr2 : RowI V2 (.slice (some ⟨ba, oa, none⟩) cs.length c) true 2 (cs.map encCh) := ⟨hrow.h.ext hE2⟩
  have hyl : ys.length ≤ 1000 := by have := congrArg List.length hyw; rw [List.length_map, List.length_take, List.length_map] at this; omega
  obtain ⟨la, lc, hlv⟩ := hOy.out.slice
  rw [List.length_map] at hlv
  subst hlv
  have := Bk.toAt (h := hV5)
  by_cases hnl : n < cs[k].2.2.2.length
  rotate_left
  · have hne : n = (cs[k].2.2.2.map (·.2.2)).length := by rw [List.length_map]; omega
    rw [hne, List.take_length] at hyw
    have hcvb : cv.ownBlock ≠ some b5 := fun e => by have := (hOd.out.block _ e).2; omega
    have hOd2 : OwnCh V2 w_b3.heap.size cv ds := (hOd.ext hE5).only hOn2 hcvb ⟨_, hA_b5⟩
    have hV32 : Bk V2 b3 [cv] 24 := hOn2.bk (hV3.ext hE5) (by have := hV3.lt; omega)
    obtain ⟨ca, cc, hcv⟩ := hOd2.out.slice
    rw [List.length_map] at hcv
    subst hcv
    have := Bk.toAt (h := hV32)
    (refine jjB ?_; refine jjB ?_; refine jjC ?_; apply jI; exact eI rfl; refine jm ?_; refine jn rfl ?_; refine jN rfl rfl rfl ?_; apply jI; exact eI rfl; refine jF rfl rfl rfl (map_get (by omega)) ?_; intro _ _ _; refine jm ?_; refine jn rfl ?_; refine jP rfl rfl rfl ?_; refine jh rfl ?_; refine jja rfl rfl (by omega) ?_; refine jz ?_; refine jjK rfl ?_; refine jjE ?_; refine jjC ?_; refine jm ?_; refine jn rfl ?_; refine jN rfl rfl rfl ?_; refine jO rfl rfl rfl rfl ?_)
    (refine jjP (v := .agg _) rfl (by exact rfl) (by exact rfl) (by exact rfl) (by exact rfl) ?_; intro b51 w_b51 hb_b51 hs_b51 hS_b51 hk_b51; have hR_b51 := RowV.one (agg := true) (k := 2) rfl hk_b51)
    have hR1 : RowV w_b51 true 2 (.slice (some ⟨b51, 0, none⟩) 1 1) [encCh (cs[k].1, la, lc, ys)] := hR_b51
    have e51 := hS_b51.ext
    have z51 := e51.size
    refine Ops.appendL (hOd2.out.ext e51) (by omega) hR1 rfl rfl rfl rfl (one_ch _) ?_ ?_ ?_
    · rw [List.length_map]; simp only [List.length_cons, List.length_nil]; omega
    · rw [List.length_map]; simp only [List.length_cons, List.length_nil]; omega
    intro cv2 V4 hA hO _ hown2
    have zA := hA.g.size
    have hV34 : Bk V4 b3 [.slice ca ds.length cc] 24 := hA.bk (hV32.ext e51) (hOd2.out.neB hV32 (by decide))
    rw [← List.map_singleton, ← List.map_append] at hO
    obtain ⟨ca2, cl2, cc2, rfl⟩ := hO.slice3
    (refine jm ?_; refine jn rfl ?_)
    refine Ops.store rfl rfl rfl rfl rfl ?_
    intro V6 hp6
    (refine jz ?_; refine jjC ?_; apply jI; exact eI rfl; refine jY rfl rfl (by omega) ?_; apply jJ; exact eI rfl; refine jz ?_)
    have hOnF : Only b3 w_b3 V6 := (((hOn.trans (.ofExt (hOn2.ext hE5 (by omega)))).trans (.ofExt e51)).app hA (Nat.le_refl _)).trans (.ofPut hp6)
    have hOdF : OwnCh V4 w_b3.heap.size (.slice ca2 cl2 cc2) (ds ++ [(cs[k].1, la, lc, ys)]) := ⟨hO, fun x hx => by
      rcases List.mem_append.1 hx with hx | hx
      · exact ((hOd2.ins x hx).ext e51).appC (hOd2.out.ext e51) hA
      · obtain rfl := List.mem_singleton.1 hx
        exact ((hOy.ext e51).appC (hOd2.out.ext e51) hA).mono (by omega)⟩
    refine ⟨rfl, by ((refine Same.upd rfl ?_; refine Same.upd rfl ?_; refine Same.upd rfl ?_; refine Same.upd rfl ?_; refine Same.upd rfl ?_; refine Same.upd rfl ?_; refine Same.upd rfl ?_; refine Same.upd rfl ?_; refine Same.upd rfl ?_; refine Same.upd rfl ?_; refine Same.upd rfl ?_; refine Same.upd rfl ?_; refine Same.upd rfl ?_; refine Same.upd rfl ?_; refine Same.upd rfl ?_; refine Same.upd rfl ?_; refine Same.upd rfl ?_; refine Same.upd rfl ?_; refine Same.upd rfl ?_; refine Same.ovN' rfl ?_; assumption)), cs.length - (k + 1), by omega, k + 1, _, ds ++ [(cs[k].1, la, lc, ys)], congrArg (Value.int .i64) (by omega), rfl, by omega, hOnF, ⟨hp6.new⟩, hOdF.put hp6 (by omega), ?_⟩
    have hg : (txF cs)[k]? = some (txC cs[k]) := by simp [txF, hkc]
    rw [take_snoc_get hg, ← htx, txF, List.map_append]
    show _ ++ [(cs[k].1, ys.map (·.2.2))] = _
    rw [hyw]; rfl
  have hsn := hsk.2 _ (List.getElem_mem hnl)
  obtain ⟨bl, ol, el, hAl⟩ := (hT.line hkc).h.place' (map_get hnl)
  rw [Nat.mul_one] at hAl
  have hAc2 := hAc1
  rw [el] at hAc2
  have hW := (hT.word hkc hnl).h
  (refine jjB ?_; refine jjB ?_; refine jjC ?_; apply jI; exact eI rfl; refine jm ?_; refine jn rfl ?_; refine jN rfl rfl rfl ?_; apply jI; exact eI rfl; refine jF rfl rfl rfl (map_get (by omega)) ?_; intro _ _ _; refine jm ?_; refine jn rfl ?_; refine jP rfl rfl rfl ?_; refine jh rfl ?_; refine jjZ rfl rfl (by omega) ?_; refine jz ?_; refine jjJ rfl ?_; refine jjG ?_; refine jjB ?_; refine jjD ?_)
  refine W.drawX 16 (fun w' => At w' b1 0 [.slice (some ⟨ba, oa, none⟩) cs.length c] ∧ At w' ba (oa + k * 2) [.int .i64 cs[k].1, .slice (some ⟨bl, ol, none⟩) cs[k].2.2.2.length cs[k].2.2.1] ∧ At w' bl (ol + n) (encLn cs[k].2.2.2[n]).cells.toList ∧ At w' b5 0 [.int .i64 cs[k].1, .slice la ys.length lc]) ?_
  intro w1 hS1
  have x1 := hS1.ext
  have s1 := And.intro (hb12.ext x1) (And.intro (hAc2.ext (hE2.trans x1)) (And.intro (hAl.ext (hE2.trans x1)) ((Bk.toAt (h := hV5)).ext x1)))
  (refine AnyX.take [0, 1, 3, 4, 5, 6, 7, 8, 9, 10, 11] ?_ ?_ ?_; (decide +kernel); (exact s1); (((apply jjT; exact rfl; rintro w' ⟨q0, q1, q2, q3⟩; refine jm ?_; refine jn rfl ?_; refine jz ?_; exact ⟨rfl, rfl⟩; apply jjT; exact rfl; rintro w' ⟨q0, q1, q2, q3⟩; refine jN rfl rfl rfl ?_; refine jz ?_; exact ⟨rfl, rfl⟩; apply jjT; exact rfl; rintro w' ⟨q0, q1, q2, q3⟩; refine jm ?_; refine jn rfl ?_; refine jz ?_; exact ⟨rfl, rfl⟩; apply jjT; exact rfl; rintro w' ⟨q0, q1, q2, q3⟩; refine jN rfl rfl rfl ?_; refine jz ?_; exact ⟨rfl, rfl⟩; apply jjT; exact rfl; rintro w' ⟨q0, q1, q2, q3⟩; apply jI; exact eI rfl; refine jz ?_; exact ⟨rfl, rfl⟩; apply jjT; exact rfl; rintro w' ⟨q0, q1, q2, q3⟩; refine jH _ rfl rfl rfl (by omega) ?_; refine jz ?_; exact ⟨rfl, rfl⟩; apply jjT; exact rfl; rintro w' ⟨q0, q1, q2, q3⟩; refine jm ?_; refine jn rfl ?_; refine jz ?_; exact ⟨rfl, rfl⟩; apply jjT; exact rfl; rintro w' ⟨q0, q1, q2, q3⟩; refine jP rfl rfl rfl ?_; refine jz ?_; exact ⟨rfl, rfl⟩; apply jjT; exact rfl; rintro w' ⟨q0, q1, q2, q3⟩; apply jI; exact eI rfl; refine jz ?_; exact ⟨rfl, rfl⟩; apply jjT; exact rfl; rintro w' ⟨q0, q1, q2, q3⟩; refine jG rfl rfl rfl (by omega) ?_; refine jz ?_; exact ⟨rfl, rfl⟩; apply jjT; exact rfl; rintro w' ⟨q0, q1, q2, q3⟩; refine jQ rfl rfl ?_; refine jz ?_; exact ⟨rfl, rfl⟩; refine jjU ?_))))
  (apply AnyX.one 2; (decide +kernel); exact rfl; (exact s1))
  refine Ops.buildSlice0 ?_
  intro b34 w3 hb34 hs34 hS34 hk34
  refine jz ?_
  have x3 := x1.trans hS34.ext
  have z1 := x1.size
  have hO34 : OwnL w3 w1.heap.size 9 false 1 (.slice (some ⟨b34, 0, none⟩) 0 0) [] := OwnL.empty (by omega) hk34
  have s3 := And.intro (hb12.ext x3) (And.intro (hAc2.ext (hE2.trans x3)) (And.intro (hAl.ext (hE2.trans x3)) ((Bk.toAt (h := hV5)).ext x3)))
  (apply AnyX.one 12; (decide +kernel); exact rfl; (exact s3))
  refine Ops.appendL hO34 (by omega) (hW.ext (hE2.trans x3)) rfl rfl rfl rfl (all_strs _) ?_ ?_ ?_
  · simp only [List.length_map, List.length_nil]; omega
  · simp only [List.length_map, List.length_nil]; omega
  intro v6 w6 hA6 hO6 _ _
  rw [List.nil_append] at hO6
  obtain ⟨a6, c6, hv6⟩ := hO6.slice
  rw [List.length_map] at hv6
  subst hv6
  refine jz ?_
  have x6 : Ext V2 w6 := hA6.ext x3 z1
  have s6 := And.intro (hb12.ext x6) (And.intro (hAc2.ext (hE2.trans x6)) (And.intro (hAl.ext (hE2.trans x6)) ((Bk.toAt (h := hV5)).ext x6)))
  (apply AnyX.one 13; (decide +kernel); exact rfl; (exact s6))
  (refine jjP (v := .slice _ _ _) rfl (by exact rfl) (by exact rfl) (by exact rfl) (by exact rfl) ?_; intro b45 w_b45 hb_b45 hs_b45 hS_b45 hk_b45; have hR_b45 := RowV.one (agg := false) (k := 1) rfl hk_b45)
  refine jz ?_
  have hR45 : RowV w_b45 false 1 (.slice (some ⟨b45, 0, none⟩) 1 1) [encLn (a6, c6, cs[k].2.2.2[n].2.2)] := hR_b45
  have x45 := x6.trans hS_b45.ext
  have z45 := x45.size
  have s45 := And.intro (hb12.ext x45) (And.intro (hAc2.ext (hE2.trans x45)) (And.intro (hAl.ext (hE2.trans x45)) ((Bk.toAt (h := hV5)).ext x45)))
  (apply AnyX.one 14; (decide +kernel); exact rfl; (exact s45))
  refine Ops.appendL (hOy.out.ext x45) (by omega) hR45 rfl rfl rfl rfl (one_ln _) ?_ ?_ ?_
  · rw [List.length_map]; simp only [List.length_cons, List.length_nil]; omega
  · rw [List.length_map]; simp only [List.length_cons, List.length_nil]; omega
  intro lv2 w9 hA9 hO9 _ hown9
  refine jz ?_
  have hnb : ∀ b, b < w_b5.heap.size → (Value.slice la ys.length lc).ownBlock ≠ some b := fun b h e => by have := (hOy.out.block _ e).1; omega
  have lta := hAc1.lt
  have ltl := hAl.lt
  have lt1 := hb1V.lt
  have zw := hEV.size
  have s9 := And.intro (hA9.at_ (hb12.ext x45) (hnb _ (by omega))) (And.intro (hA9.at_ (hAc2.ext (hE2.trans x45)) (hnb _ (by omega))) (And.intro (hA9.at_ (hAl.ext (hE2.trans x45)) (hnb _ (by omega))) (hA9.at_ ((Bk.toAt (h := hV5)).ext x45) (hnb _ (by omega)))))
  (refine AnyX.take [15] ?_ ?_ ?_; (decide +kernel); (exact s9); (((apply jjT; exact rfl; rintro w' ⟨q0, q1, q2, q3⟩; refine jm ?_; refine jn rfl ?_; refine jz ?_; exact ⟨rfl, rfl⟩; refine jjU ?_))))
  (apply AnyX.one 16; (decide +kernel); exact rfl; (exact s9))
  have hB5 : Bk w9 b5 [.int .i64 cs[k].1, .slice la ys.length lc] 68 := hA9.bk (hV5.ext x45) (hnb _ (by omega))
  rw [← List.map_singleton, ← List.map_append] at hO9
  obtain ⟨la2, ll2, lc2, rfl⟩ := hO9.slice3
  refine Ops.storeC (cs := [.int .i64 cs[k].1, .slice la ys.length lc]) (j := 1) (v := .slice la2 ll2 lc2) rfl rfl rfl rfl (show 1 < 2 by omega) ?_
  intro wF hpF
  refine jz ?_
  refine AnyX.done (by decide +kernel) ?_
  have hOnF : Only b5 w_b5 wF := ((hOn2.trans (.ofExt x45)).app hA9 (Nat.le_refl _)).trans (.ofPut hpF)
  have hOyF : OwnLn w9 w_b5.heap.size (.slice la2 ll2 lc2) (ys ++ [(a6, c6, cs[k].2.2.2[n].2.2)]) := ⟨hO9, fun y hy => by
    rcases List.mem_append.1 hy with hy | hy
    · exact ((hOy.ins y hy).ext x45).app hA9 (OwnL.ne ((hOy.ins y hy).ext x45) (hOy.out.ext x45) (by decide))
    · obtain rfl := List.mem_singleton.1 hy
      exact ((hO6.ext hS_b45.ext).app hA9 (OwnL.ne (hO6.ext hS_b45.ext) (hOy.out.ext x45) (by decide))).mono (by omega)⟩
  (refine jjC ?_; apply jI; exact eI rfl; refine jY rfl rfl (by omega) ?_; apply jJ; exact eI rfl; refine jz ?_)
  refine ⟨rfl, by ((refine Same.upd rfl ?_; refine Same.upd rfl ?_; refine Same.upd rfl ?_; refine Same.upd rfl ?_; refine Same.upd rfl ?_; refine Same.upd rfl ?_; refine Same.upd rfl ?_; refine Same.upd rfl ?_; refine Same.upd rfl ?_; refine Same.upd rfl ?_; refine Same.upd rfl ?_; refine Same.upd rfl ?_; refine Same.upd rfl ?_; refine Same.upd rfl ?_; refine Same.upd rfl ?_; refine Same.upd rfl ?_; refine Same.upd rfl ?_; refine Same.upd rfl ?_; refine Same.upd rfl ?_; refine Same.upd rfl ?_; refine Same.upd rfl ?_; refine Same.upd rfl ?_; refine Same.upd rfl ?_; refine Same.upd rfl ?_; refine Same.upd rfl ?_; refine Same.upd rfl ?_; refine Same.upd rfl ?_; refine Same.upd rfl ?_; refine Same.upd rfl ?_; exact Same.ovN)), cs[k].2.2.2.length - (n + 1), by omega, n + 1, _, ys ++ [(a6, c6, cs[k].2.2.2[n].2.2)], congrArg (Value.int .i64) (by omega), rfl, by omega, hOnF, ⟨hpF.new⟩, hOyF.put hpF (by omega), ?_⟩
  have hg : (cs[k].2.2.2.map (·.2.2))[n]? = some cs[k].2.2.2[n].2.2 := by simp [hnl]
  rw [take_snoc_get hg, ← hyw, List.map_append]; rfl
end
end Go.Proofs.YtgmgiepdehlinaaDoor

/- Comparisons of lists, element by element. -/
namespace Go.Proofs.YtgmgiepdehlinaaDoor
open Go.RowKit

set_option maxHeartbeats 1000000 in
theorem same_words1 (a1 a2 : Option Addr) (c1 c2 n1 n2 : Nat) (xs ys : List ByteArray) (w : World) (h1 : xs.length = n1) (h2 : ys.length = n2) (hx : RowV w false 1 (.slice a1 n1 c1) (xs.map strV)) (hy : RowV w false 1 (.slice a2 n2 c2) (ys.map strV)) : Ct Tryd.prog 37 [.slice a1 n1 c1, .slice a2 n2 c2] w fun v _ => v = .bool (decide (xs = ys)) := by
  subst h1 h2
  have hlx := hx.len
  have hly := hy.len
  rw [List.length_map] at hlx hly
  refine Ct.ofW (by simp) ?_
  by_cases hl : xs.length = ys.length
  rotate_left
  · (refine jjB ?_; refine jjC ?_; apply jJ; exact eB rfl; refine jz ?_; refine jjB ?_; refine jjB ?_; refine jjC ?_; apply jI; exact eS rfl; refine jh rfl ?_; apply jI; exact eS rfl; refine jh rfl ?_; refine jjj rfl rfl (by omega) ?_; refine jz ?_; refine jjJ rfl ?_; refine jjB ?_; refine jjC ?_; apply jJ; exact eB rfl; refine jz ?_; refine jjF ?_; refine jB rfl rfl ⟨inferInstance, ?_⟩)
    rw [decide_eq_false (fun e => hl (by rw [e]))]; exact rfl
  (refine jjB ?_; refine jjC ?_; apply jJ; exact eB rfl; refine jz ?_; refine jjB ?_; refine jjB ?_; refine jjC ?_; apply jI; exact eS rfl; refine jh rfl ?_; apply jI; exact eS rfl; refine jh rfl ?_; refine jjk rfl rfl (by omega) ?_; refine jz ?_; refine jjK rfl ?_; refine jjG ?_; refine jjB ?_; refine jjB ?_; refine jjC ?_; apply jJ; exact eI rfl; refine jz ?_; refine jjD ?_)
  refine W.keep0 [(0, .slice a1 xs.length c1), (1, .slice a2 ys.length c2), (5, .int .i64 ((0 : Nat) : Int))] ⟨eS rfl, eS rfl, eI rfl, trivial⟩ fun s0 => ?_
  refine W.loop (11 :: 12 :: 13 :: 14 :: 17 :: 18 :: 19 :: 20 :: 21 :: 22 :: 23 :: 24 :: 25 :: 4 :: 15 :: 16 :: 5 :: []) (fun g s' V => ∃ k : Nat, s' 5 = .int .i64 ((k : Nat) : Int) ∧ g = xs.length - k ∧ k ≤ xs.length ∧ ∀ (j : Nat) (hj : j < xs.length), j < k → xs[j] = ys[j]'(by omega)) xs.length ⟨0, rfl, rfl, Nat.zero_le _, by intros; omega⟩ ?_
  rintro _ sd w1 hS1 ⟨k, h5, rfl, hk, hpre⟩
  refine W.fix h5 ?_
  clear h5
  by_cases hkl : k < xs.length
  rotate_left
  · have e : xs = ys := List.ext_getElem hl fun j hj _ => hpre j hj (by omega)
    (refine jjB ?_; refine jjB ?_; refine jjC ?_; apply jI; exact eI rfl; apply jI; exact eS rfl; refine jh rfl ?_; refine jja rfl rfl (by omega) ?_; refine jz ?_; refine jjK rfl ?_; refine jjE ?_; refine jjB ?_; refine jjC ?_; apply jJ; exact eB rfl; refine jz ?_; refine jjF ?_; refine jB rfl rfl ⟨inferInstance, ?_⟩)
    rw [decide_eq_true e]; exact rfl
  have hkl2 : k < ys.length := by omega
  obtain ⟨b1, o1, rfl, hA1⟩ := hx.place' (map_get hkl)
  obtain ⟨b2, o2, rfl, hA2⟩ := hy.place' (map_get hkl2)
  rw [Nat.mul_one] at hA1 hA2
  (refine jjB ?_; refine jjB ?_; refine jjC ?_; apply jI; exact eI rfl; apply jI; exact eS rfl; refine jh rfl ?_; refine jjZ rfl rfl (by omega) ?_; refine jz ?_; refine jjJ rfl ?_; refine jjG ?_; refine jjB ?_; refine jjD ?_; refine jjB ?_)
  refine W.draw (fun w' => Ext w w') ?_
  intro w2 hS2
  have hE2 : Ext w w2 := hS1.ext.trans hS2.ext
  (refine jjV [0, 1, 2, 3, 4, 5, 6, 7] ?_ ?_ ?_; (decide +kernel); (exact hE2); (((apply jjT; exact rfl; rintro w' hq; have := hq.toStep; apply jI; exact eS rfl; refine jz ?_; exact ⟨rfl, rfl⟩; apply jjT; exact rfl; rintro w' hq; have := hq.toStep; apply jI; exact eI rfl; refine jz ?_; exact ⟨rfl, rfl⟩; apply jjT; exact rfl; rintro w' hq; have := hq.toStep; refine jG rfl rfl rfl (by omega) ?_; refine jz ?_; exact ⟨rfl, rfl⟩; apply jjT; exact rfl; rintro w' hq; have := hq.toStep; refine jQ rfl rfl ?_; refine jz ?_; exact ⟨rfl, rfl⟩; apply jjT; exact rfl; rintro w' hq; have := hq.toStep; apply jI; exact eS rfl; refine jz ?_; exact ⟨rfl, rfl⟩; apply jjT; exact rfl; rintro w' hq; have := hq.toStep; apply jI; exact eI rfl; refine jz ?_; exact ⟨rfl, rfl⟩; apply jjT; exact rfl; rintro w' hq; have := hq.toStep; refine jG rfl rfl rfl (by omega) ?_; refine jz ?_; exact ⟨rfl, rfl⟩; apply jjT; exact rfl; rintro w' hq; have := hq.toStep; refine jQ rfl rfl ?_; refine jz ?_; exact ⟨rfl, rfl⟩; refine jjU ?_))))
  by_cases hkj : xs[k] = ys[k]
  · refine jjV [8] (by decide +kernel) hE2 (jjT (v := .bool false) rfl (fun w' q1 => ?_) (jjU ?_)); (refine Ops.neqS (a := xs[k]) (b := ys[k]) rfl rfl ?_; rw [decide_eq_false (by simp [hkj])]; refine jz ?_; exact ⟨rfl, rfl⟩)
    refine jjX (by decide +kernel) hE2 ?_
    (refine jjK rfl ?_; refine jjG ?_; refine jjC ?_; apply jI; exact eI rfl; refine jY rfl rfl (by omega) ?_; apply jJ; exact eI rfl; refine jz ?_)
    refine ⟨rfl, by ((refine Same.upd rfl ?_; refine Same.upd rfl ?_; refine Same.upd rfl ?_; refine Same.upd rfl ?_; refine Same.upd rfl ?_; refine Same.upd rfl ?_; refine Same.upd rfl ?_; refine Same.upd rfl ?_; refine Same.upd rfl ?_; refine Same.upd rfl ?_; refine Same.upd rfl ?_; refine Same.upd rfl ?_; refine Same.upd rfl ?_; refine Same.upd rfl ?_; refine Same.upd rfl ?_; refine Same.upd rfl ?_; refine Same.upd rfl ?_; exact Same.ovN)), xs.length - (k + 1), by omega, inferInstance, k + 1, congrArg (Value.int .i64) (by omega), rfl, by omega, fun j hj hjk => ?_⟩
    by_cases e : j = k
    · subst e; exact hkj
    · exact hpre j hj (by omega)
  · refine jjV [8] (by decide +kernel) hE2 (jjT (v := .bool true) rfl (fun w' q1 => ?_) (jjU ?_)); (refine Ops.neqS (a := xs[k]) (b := ys[k]) rfl rfl ?_; rw [decide_eq_true hkj]; refine jz ?_; exact ⟨rfl, rfl⟩)
    refine jjX (by decide +kernel) hE2 ?_
    (refine jjJ rfl ?_; refine jjB ?_; refine jjC ?_; apply jJ; exact eB rfl; refine jz ?_; refine jjF ?_; refine jB rfl rfl ⟨inferInstance, ?_⟩)
    rw [decide_eq_false (fun e => hkj (by simp only [e]))]; exact rfl

set_option maxHeartbeats 1000000 in
theorem same_slips3 (a1 a2 : Option Addr) (c1 c2 n1 n2 : Nat) (xs ys : List Slp) (w : World) (h1 : xs.length = n1) (h2 : ys.length = n2) (hx : RowV w true 6 (.slice a1 n1 c1) (xs.map encSl)) (hy : RowV w true 6 (.slice a2 n2 c2) (ys.map encSl)) : Ct Tryd.prog 15 [.slice a1 n1 c1, .slice a2 n2 c2] w fun v _ => v = .bool (decide (xs = ys)) := by
  subst h1 h2
  have hlx := hx.len
  have hly := hy.len
  rw [List.length_map] at hlx hly
  refine Ct.ofW (by simp) ?_
  by_cases hl : xs.length = ys.length
  rotate_left
  · (refine jjB ?_; refine jjC ?_; apply jJ; exact eB rfl; refine jz ?_; refine jjB ?_; refine jjB ?_; refine jjC ?_; apply jI; exact eS rfl; refine jh rfl ?_; apply jI; exact eS rfl; refine jh rfl ?_; refine jjj rfl rfl (by omega) ?_; refine jz ?_; refine jjJ rfl ?_; refine jjB ?_; refine jjC ?_; apply jJ; exact eB rfl; refine jz ?_; refine jjF ?_; refine jB rfl rfl ⟨inferInstance, ?_⟩)
    rw [decide_eq_false (fun e => hl (by rw [e]))]; exact rfl
  (refine jjB ?_; refine jjC ?_; apply jJ; exact eB rfl; refine jz ?_; refine jjB ?_; refine jjB ?_; refine jjC ?_; apply jI; exact eS rfl; refine jh rfl ?_; apply jI; exact eS rfl; refine jh rfl ?_; refine jjk rfl rfl (by omega) ?_; refine jz ?_; refine jjK rfl ?_; refine jjG ?_; refine jjB ?_; refine jjB ?_; refine jjC ?_; apply jJ; exact eI rfl; refine jz ?_; refine jjD ?_)
  refine W.keep0 [(0, .slice a1 xs.length c1), (1, .slice a2 ys.length c2), (5, .int .i64 ((0 : Nat) : Int))] ⟨eS rfl, eS rfl, eI rfl, trivial⟩ fun s0 => ?_
  refine W.loop (11 :: 12 :: 13 :: 14 :: 17 :: 18 :: 19 :: 20 :: 21 :: 22 :: 23 :: 24 :: 25 :: 4 :: 15 :: 16 :: 5 :: []) (fun g s' V => ∃ k : Nat, s' 5 = .int .i64 ((k : Nat) : Int) ∧ g = xs.length - k ∧ k ≤ xs.length ∧ ∀ (j : Nat) (hj : j < xs.length), j < k → xs[j] = ys[j]'(by omega)) xs.length ⟨0, rfl, rfl, Nat.zero_le _, by intros; omega⟩ ?_
  rintro _ sd w1 hS1 ⟨k, h5, rfl, hk, hpre⟩
  refine W.fix h5 ?_
  clear h5
  by_cases hkl : k < xs.length
  rotate_left
  · have e : xs = ys := List.ext_getElem hl fun j hj _ => hpre j hj (by omega)
    (refine jjB ?_; refine jjB ?_; refine jjC ?_; apply jI; exact eI rfl; apply jI; exact eS rfl; refine jh rfl ?_; refine jja rfl rfl (by omega) ?_; refine jz ?_; refine jjK rfl ?_; refine jjE ?_; refine jjB ?_; refine jjC ?_; apply jJ; exact eB rfl; refine jz ?_; refine jjF ?_; refine jB rfl rfl ⟨inferInstance, ?_⟩)
    rw [decide_eq_true e]; exact rfl
  have hkl2 : k < ys.length := by omega
  obtain ⟨b1, o1, rfl, hA1⟩ := hx.place' (map_get hkl)
  obtain ⟨b2, o2, rfl, hA2⟩ := hy.place' (map_get hkl2)
  (refine jjB ?_; refine jjB ?_; refine jjC ?_; apply jI; exact eI rfl; apply jI; exact eS rfl; refine jh rfl ?_; refine jjZ rfl rfl (by omega) ?_; refine jz ?_; refine jjJ rfl ?_; refine jjG ?_; refine jjB ?_; refine jjD ?_; refine jjB ?_)
  refine W.draw (fun w' => Ext w w') ?_
  intro w2 hS2
  have hE2 : Ext w w2 := hS1.ext.trans hS2.ext
  (refine jjV [0, 1, 2, 3, 4, 5, 6, 7] ?_ ?_ ?_; (decide +kernel); (exact hE2); (((apply jjT; exact rfl; rintro w' hq; have := hq.toStep; apply jI; exact eS rfl; refine jz ?_; exact ⟨rfl, rfl⟩; apply jjT; exact rfl; rintro w' hq; have := hq.toStep; apply jI; exact eI rfl; refine jz ?_; exact ⟨rfl, rfl⟩; apply jjT; exact rfl; rintro w' hq; have := hq.toStep; refine jH _ rfl rfl rfl (by omega) ?_; refine jz ?_; exact ⟨rfl, rfl⟩; apply jjT; exact rfl; rintro w' hq; have := hq.toStep; refine jQ rfl rfl ?_; refine jz ?_; exact ⟨rfl, rfl⟩; apply jjT; exact rfl; rintro w' hq; have := hq.toStep; apply jI; exact eS rfl; refine jz ?_; exact ⟨rfl, rfl⟩; apply jjT; exact rfl; rintro w' hq; have := hq.toStep; apply jI; exact eI rfl; refine jz ?_; exact ⟨rfl, rfl⟩; apply jjT; exact rfl; rintro w' hq; have := hq.toStep; refine jH _ rfl rfl rfl (by omega) ?_; refine jz ?_; exact ⟨rfl, rfl⟩; apply jjT; exact rfl; rintro w' hq; have := hq.toStep; refine jQ rfl rfl ?_; refine jz ?_; exact ⟨rfl, rfl⟩; refine jjU ?_))))
  by_cases hkj : xs[k] = ys[k]
  · refine jjV [8] (by decide +kernel) hE2 (jjT (v := .bool false) rfl (fun w' q1 => ?_) (jjU ?_)); (refine Ops.neqT (enc := encSl) xs[k] ys[k] rfl rfl ?_; rw [decide_eq_false (by simp [hkj])]; refine jz ?_; exact ⟨rfl, rfl⟩)
    refine jjX (by decide +kernel) hE2 ?_
    (refine jjK rfl ?_; refine jjG ?_; refine jjC ?_; apply jI; exact eI rfl; refine jY rfl rfl (by omega) ?_; apply jJ; exact eI rfl; refine jz ?_)
    refine ⟨rfl, by ((refine Same.upd rfl ?_; refine Same.upd rfl ?_; refine Same.upd rfl ?_; refine Same.upd rfl ?_; refine Same.upd rfl ?_; refine Same.upd rfl ?_; refine Same.upd rfl ?_; refine Same.upd rfl ?_; refine Same.upd rfl ?_; refine Same.upd rfl ?_; refine Same.upd rfl ?_; refine Same.upd rfl ?_; refine Same.upd rfl ?_; refine Same.upd rfl ?_; refine Same.upd rfl ?_; refine Same.upd rfl ?_; refine Same.upd rfl ?_; exact Same.ovN)), xs.length - (k + 1), by omega, inferInstance, k + 1, congrArg (Value.int .i64) (by omega), rfl, by omega, fun j hj hjk => ?_⟩
    by_cases e : j = k
    · subst e; exact hkj
    · exact hpre j hj (by omega)
  · refine jjV [8] (by decide +kernel) hE2 (jjT (v := .bool true) rfl (fun w' q1 => ?_) (jjU ?_)); (refine Ops.neqT (enc := encSl) xs[k] ys[k] rfl rfl ?_; rw [decide_eq_true hkj]; refine jz ?_; exact ⟨rfl, rfl⟩)
    refine jjX (by decide +kernel) hE2 ?_
    (refine jjJ rfl ?_; refine jjB ?_; refine jjC ?_; apply jJ; exact eB rfl; refine jz ?_; refine jjF ?_; refine jB rfl rfl ⟨inferInstance, ?_⟩)
    rw [decide_eq_false (fun e => hkj (by simp only [e]))]; exact rfl
end Go.Proofs.YtgmgiepdehlinaaDoor

/- The reference: Same (texts). -/
namespace Go.Proofs.YtgmgiepdehlinaaDoor
open Go.RowKit

section
variable (a a' : Option Addr) (c c' : Nat) (cs ds : List Ch) (w : World) [hrow : RowI w (.slice a cs.length c) true 2 (cs.map encCh)] [hT : TextI w cs] [hrow' : RowI w (.slice a' ds.length c') true 2 (ds.map encCh)] [hT' : TextI w ds]
set_option maxHeartbeats 4000000 in
theorem Same_ref1 (hs : SmallT cs) : Ct Tryd.prog 16 [.agg #[.slice a cs.length c], .agg #[.slice a' ds.length c']] w fun v _ => v = .bool (decide (txF cs = txF ds)) := by
  have hs1 := hs.1
  refine Ct.ofW (by simp) ?_
  (refine jjB ?_; refine jjC ?_)
  (refine jy rfl ?_; intro b2 w_b2 hb_b2 hs_b2 hS_b2 hk_b2; have hA_b2 := At.ofBlock hk_b2)
  skip
  (refine jy rfl ?_; intro b3 w_b3 hb_b3 hs_b3 hS_b3 hk_b3; have hA_b3 := At.ofBlock hk_b3)
  by_cases hl : cs.length = ds.length
  rotate_left
  · (apply jJ; exact eB rfl; refine jz ?_; refine jjB ?_; refine jjB ?_; refine jjC ?_; refine jm ?_; refine jn rfl ?_; refine jN rfl rfl rfl ?_; refine jh rfl ?_; refine jm ?_; refine jn rfl ?_; refine jN rfl rfl rfl ?_; refine jh rfl ?_; refine jjj rfl rfl (by omega) ?_; refine jz ?_; refine jjJ rfl ?_; refine jjB ?_; refine jjC ?_; apply jJ; exact eB rfl; refine jz ?_; refine jjF ?_; refine jB rfl rfl ⟨inferInstance, ?_⟩)
    rw [decide_eq_false (fun e => hl (by have := congrArg List.length e; rwa [txF_len, txF_len] at this))]; exact rfl
  (apply jJ; exact eB rfl; refine jz ?_; refine jjB ?_; refine jjB ?_; refine jjC ?_; refine jm ?_; refine jn rfl ?_; refine jN rfl rfl rfl ?_; refine jh rfl ?_; refine jm ?_; refine jn rfl ?_; refine jN rfl rfl rfl ?_; refine jh rfl ?_; refine jjk rfl rfl (by omega) ?_; refine jz ?_; refine jjK rfl ?_; refine jjG ?_; refine jjB ?_; refine jjB ?_; refine jjC ?_; apply jJ; exact eI rfl; refine jz ?_; refine jjD ?_)
  refine W.keep0 [(2, .pointer (some ⟨b2, 0, none⟩)), (3, .pointer (some ⟨b3, 0, none⟩)), (5, .int .i64 ((0 : Nat) : Int))] ⟨eP rfl, eP rfl, eI rfl, trivial⟩ fun s0 => ?_
  refine W.loop (16 :: 17 :: 18 :: 19 :: 20 :: 23 :: 24 :: 25 :: 26 :: 27 :: 28 :: 29 :: 30 :: 31 :: 32 :: 6 :: 7 :: 33 :: 34 :: 35 :: 36 :: 37 :: 38 :: 39 :: 40 :: 41 :: 42 :: 43 :: 44 :: 45 :: 46 :: 4 :: 8 :: 47 :: 48 :: 49 :: 50 :: 51 :: 54 :: 55 :: 56 :: 57 :: 58 :: 59 :: 60 :: 61 :: 62 :: 63 :: 64 :: 65 :: 52 :: 53 :: 21 :: 22 :: 5 :: []) (fun g s' V => ∃ k : Nat, s' 5 = .int .i64 ((k : Nat) : Int) ∧ g = cs.length - k ∧ k ≤ cs.length ∧ ∀ (j : Nat) (hj : j < cs.length), j < k → txC cs[j] = txC (ds[j]'(by omega))) cs.length ⟨0, rfl, rfl, Nat.zero_le _, by intros; omega⟩ ?_
  rintro _ sd w1 hS1 ⟨k, h5, rfl, hk, hpre⟩
  refine W.fix h5 ?_
  clear h5
  by_cases hkc : k < cs.length
  rotate_left
  · have e : txF cs = txF ds := by
      refine List.ext_getElem (by rw [txF_len, txF_len]; exact hl) fun j hj _ => ?_
      rw [txF_len] at hj
      simpa [txF] using hpre j hj (by omega)
    (refine jjB ?_; refine jjB ?_; refine jjC ?_; apply jI; exact eI rfl; refine jm ?_; refine jn rfl ?_; refine jN rfl rfl rfl ?_; refine jh rfl ?_; refine jja rfl rfl (by omega) ?_; refine jz ?_; refine jjK rfl ?_; refine jjE ?_; refine jjB ?_; refine jjC ?_; apply jJ; exact eB rfl; refine jz ?_; refine jjF ?_; refine jB rfl rfl ⟨inferInstance, ?_⟩)
    rw [decide_eq_true e]; exact rfl
  have hkd : k < ds.length := by omega
  obtain ⟨ba, oa, rfl, hA⟩ := hrow.h.place' (map_get hkc)
  obtain ⟨bd, od, rfl, hD⟩ := hrow'.h.place' (map_get hkd)
  (refine jjB ?_; refine jjB ?_; refine jjC ?_; apply jI; exact eI rfl; refine jm ?_; refine jn rfl ?_; refine jN rfl rfl rfl ?_; refine jh rfl ?_; refine jjZ rfl rfl (by omega) ?_; refine jz ?_; refine jjJ rfl ?_; refine jjG ?_; refine jjB ?_; refine jjD ?_; refine jjB ?_)
  refine W.draw (fun w' => Ext w_b3 w') ?_
  intro w2 hS2
  have hE2 : Ext w_b3 w2 := hS1.ext.trans hS2.ext
  (refine jjV [0, 1, 2, 3, 4, 5, 6, 7, 8, 9] ?_ ?_ ?_; (decide +kernel); (exact hE2); (((apply jjT; exact rfl; rintro w' hq; have := hq.toStep; refine jm ?_; refine jn rfl ?_; refine jz ?_; exact ⟨rfl, rfl⟩; apply jjT; exact rfl; rintro w' hq; have := hq.toStep; refine jN rfl rfl rfl ?_; refine jz ?_; exact ⟨rfl, rfl⟩; apply jjT; exact rfl; rintro w' hq; have := hq.toStep; apply jI; exact eI rfl; refine jz ?_; exact ⟨rfl, rfl⟩; apply jjT; exact rfl; rintro w' hq; have := hq.toStep; refine jH _ rfl rfl rfl (by omega) ?_; refine jz ?_; exact ⟨rfl, rfl⟩; apply jjT; exact rfl; rintro w' hq; have := hq.toStep; refine jQ rfl rfl ?_; refine jz ?_; exact ⟨rfl, rfl⟩; apply jjT; exact rfl; rintro w' hq; have := hq.toStep; refine jm ?_; refine jn rfl ?_; refine jz ?_; exact ⟨rfl, rfl⟩; apply jjT; exact rfl; rintro w' hq; have := hq.toStep; refine jN rfl rfl rfl ?_; refine jz ?_; exact ⟨rfl, rfl⟩; apply jjT; exact rfl; rintro w' hq; have := hq.toStep; apply jI; exact eI rfl; refine jz ?_; exact ⟨rfl, rfl⟩; apply jjT; exact rfl; rintro w' hq; have := hq.toStep; refine jH _ rfl rfl rfl (by omega) ?_; refine jz ?_; exact ⟨rfl, rfl⟩; apply jjT; exact rfl; rintro w' hq; have := hq.toStep; refine jQ rfl rfl ?_; refine jz ?_; exact ⟨rfl, rfl⟩; refine jjU ?_))))
  have hl6 := hE2.size
  refine AnyS.mono (K' := fun s w' => s 2 = .pointer (some ⟨b2, 0, none⟩) ∧ s 3 = .pointer (some ⟨b3, 0, none⟩) ∧ s 5 = .int .i64 ((k : Nat) : Int) ∧ (∃ b6 b7, s 6 = .pointer (some ⟨b6, 0, none⟩) ∧ s 7 = .pointer (some ⟨b7, 0, none⟩) ∧ At w' b6 0 [.int .i64 cs[k].1, .slice cs[k].2.1 cs[k].2.2.2.length cs[k].2.2.1] ∧ At w' b7 0 [.int .i64 ds[k].1, .slice ds[k].2.1 ds[k].2.2.2.length ds[k].2.2.1]) ∧ Ext w_b3 w' ∧ Same (16 :: 17 :: 18 :: 19 :: 20 :: 23 :: 24 :: 25 :: 26 :: 27 :: 28 :: 29 :: 30 :: 31 :: 32 :: 6 :: 7 :: 33 :: 34 :: 35 :: 36 :: 37 :: 38 :: 39 :: 40 :: 41 :: 42 :: 43 :: 44 :: 45 :: 46 :: 4 :: 8 :: 47 :: 48 :: 49 :: 50 :: 51 :: 54 :: 55 :: 56 :: 57 :: 58 :: 59 :: 60 :: 61 :: 62 :: 63 :: 64 :: 65 :: 52 :: 53 :: 21 :: 22 :: 5 :: []) (upds s0 [(2, .pointer (some ⟨b2, 0, none⟩)), (3, .pointer (some ⟨b3, 0, none⟩)), (5, .int .i64 ((0 : Nat) : Int))]) s) ?_ ?_
  rotate_left
  · refine jjl 10 11 (by decide +kernel) rfl rfl hE2 ?_ ?_
    · refine jjY ?_
      intro b6 wa hb6 hs6 hS6 hk6
      have k6 := Bk.of hk6
      refine jz ?_
      (apply jjW 11; (decide +kernel); exact rfl; (exact hE2.trans hS6.ext))
      refine jjY ?_
      intro b7 wb hb7 hs7 hS7 hk7
      have k7 := Bk.of hk7
      have m6 := k6.ext hS7.ext
      refine jz ?_
      have eb := (hE2.trans hS6.ext).trans hS7.ext
      have zb := hE2.size
      (apply jjW 12; (decide +kernel); exact rfl; (exact eb))
      refine Ops.store rfl rfl rfl rfl rfl ?_
      intro wc hpc
      have m7 := hpc.bk (k7) (by omega)
      have m6 : Bk wc b6 [.int .i64 cs[k].1, .slice cs[k].2.1 cs[k].2.2.2.length cs[k].2.2.1] 68 := ⟨hpc.new⟩
      refine jz ?_
      have ec := hpc.ext eb (by omega)
      (apply jjW 13; (decide +kernel); exact rfl; (exact ec))
      refine Ops.store rfl rfl rfl rfl rfl ?_
      intro wd hpd
      have n6 := hpd.bk m6 (by omega)
      have n7 : Bk wd b7 [.int .i64 ds[k].1, .slice ds[k].2.1 ds[k].2.2.2.length ds[k].2.2.1] 68 := ⟨hpd.new⟩
      have ed := hpd.ext ec (by omega)
      refine jz ?_
      refine jjX (by decide +kernel) ed ?_
      exact ⟨rfl, rfl, rfl, ⟨b6, b7, rfl, rfl, Bk.toAt (h := n6), Bk.toAt (h := n7)⟩, ed, by ((refine Same.upd rfl ?_; refine Same.upd rfl ?_; refine Same.upd rfl ?_; refine Same.upd rfl ?_; refine Same.upd rfl ?_; refine Same.upd rfl ?_; refine Same.upd rfl ?_; refine Same.upd rfl ?_; refine Same.upd rfl ?_; refine Same.upd rfl ?_; refine Same.upd rfl ?_; refine Same.upd rfl ?_; refine Same.upd rfl ?_; refine Same.upd rfl ?_; refine Same.upd rfl ?_; refine Same.upd rfl ?_; refine Same.upd rfl ?_; refine Same.upd rfl ?_; exact Same.ovN))⟩
    · refine jjY ?_
      intro b7 wa hb7 hs7 hS7 hk7
      have k7 := Bk.of hk7
      refine jz ?_
      (apply jjW 10; (decide +kernel); exact rfl; (exact hE2.trans hS7.ext))
      refine jjY ?_
      intro b6 wb hb6 hs6 hS6 hk6
      have k6 := Bk.of hk6
      have m7 := k7.ext hS6.ext
      refine jz ?_
      have eb := (hE2.trans hS7.ext).trans hS6.ext
      have zb := hE2.size
      (apply jjW 12; (decide +kernel); exact rfl; (exact eb))
      refine Ops.store rfl rfl rfl rfl rfl ?_
      intro wc hpc
      have m7 := hpc.bk (m7) (by omega)
      have m6 : Bk wc b6 [.int .i64 cs[k].1, .slice cs[k].2.1 cs[k].2.2.2.length cs[k].2.2.1] 68 := ⟨hpc.new⟩
      refine jz ?_
      have ec := hpc.ext eb (by omega)
      (apply jjW 13; (decide +kernel); exact rfl; (exact ec))
      refine Ops.store rfl rfl rfl rfl rfl ?_
      intro wd hpd
      have n6 := hpd.bk m6 (by omega)
      have n7 : Bk wd b7 [.int .i64 ds[k].1, .slice ds[k].2.1 ds[k].2.2.2.length ds[k].2.2.1] 68 := ⟨hpd.new⟩
      have ed := hpd.ext ec (by omega)
      refine jz ?_
      refine jjX (by decide +kernel) ed ?_
      exact ⟨rfl, rfl, rfl, ⟨b6, b7, rfl, rfl, Bk.toAt (h := n6), Bk.toAt (h := n7)⟩, ed, by ((refine Same.upd rfl ?_; refine Same.upd rfl ?_; refine Same.upd rfl ?_; refine Same.upd rfl ?_; refine Same.upd rfl ?_; refine Same.upd rfl ?_; refine Same.upd rfl ?_; refine Same.upd rfl ?_; refine Same.upd rfl ?_; refine Same.upd rfl ?_; refine Same.upd rfl ?_; refine Same.upd rfl ?_; refine Same.upd rfl ?_; refine Same.upd rfl ?_; refine Same.upd rfl ?_; refine Same.upd rfl ?_; refine Same.upd rfl ?_; refine Same.upd rfl ?_; exact Same.ovN))⟩
  rintro s w3 ⟨h2, h3, h5, ⟨b6, b7, h6, h7, hA6, hA7⟩, hE3, hsm⟩
  clear hl6 hE2 hS2 w2
  have hS3 : Step w_b3 w3 := hE3.toStep
  have hsk := hs.2 _ (List.getElem_mem hkc)
  refine W.keep [(2, .pointer (some ⟨b2, 0, none⟩)), (3, .pointer (some ⟨b3, 0, none⟩)), (5, .int .i64 ((k : Nat) : Int)), (6, .pointer (some ⟨b6, 0, none⟩)), (7, .pointer (some ⟨b7, 0, none⟩))] (D := (16 :: 17 :: 18 :: 19 :: 20 :: 23 :: 24 :: 25 :: 26 :: 27 :: 28 :: 29 :: 30 :: 31 :: 32 :: 6 :: 7 :: 33 :: 34 :: 35 :: 36 :: 37 :: 38 :: 39 :: 40 :: 41 :: 42 :: 43 :: 44 :: 45 :: 46 :: 4 :: 8 :: 47 :: 48 :: 49 :: 50 :: 51 :: 54 :: 55 :: 56 :: 57 :: 58 :: 59 :: 60 :: 61 :: 62 :: 63 :: 64 :: 65 :: 52 :: 53 :: 21 :: 22 :: 5 :: [])) (sO := upds s0 _) hsm ⟨h2, h3, h5, h6, h7, trivial⟩ fun s1 hs1' => ?_
  clear h2 h3 h5 h6 h7 hsm
  have hno : txC cs[k] ≠ txC ds[k] → ¬ txF cs = txF ds := fun h e => h (by
    have h1 : (txF cs)[k]? = some (txC cs[k]) := by simp [txF, hkc]
    have h2 : (txF ds)[k]? = some (txC ds[k]) := by simp [txF, hkd]
    rw [e, h2] at h1
    exact (Option.some.inj h1).symm)
  by_cases hid : cs[k].1 = ds[k].1
  rotate_left
  · (refine jjB ?_; refine jjB ?_; refine jjC ?_; refine jm ?_; refine jn rfl ?_; refine jN rfl rfl rfl ?_; refine jm ?_; refine jn rfl ?_; refine jN rfl rfl rfl ?_; refine jjj rfl rfl (by omega) ?_; apply jI; exact eB rfl; refine jU rfl rfl rfl rfl ?_; refine jU rfl rfl rfl rfl ?_; refine jU rfl rfl rfl rfl ?_; refine jU rfl rfl rfl rfl ?_; refine jU rfl rfl rfl rfl ?_; refine jU rfl rfl rfl rfl ?_; refine jU rfl rfl rfl rfl ?_; apply jK rfl; exact eB rfl; refine jz ?_; refine jjJ rfl ?_; refine jjB ?_; refine jjC ?_; apply jJ; exact eB rfl; refine jz ?_; refine jjF ?_; refine jB rfl rfl ⟨inferInstance, ?_⟩)
    rw [decide_eq_false (hno fun e => hid (congrArg (fun x : Int × List (List ByteArray) => x.1) e))]; exact rfl
  by_cases hll : cs[k].2.2.2.length = ds[k].2.2.2.length
  rotate_left
  · (refine jjB ?_; refine jjB ?_; refine jjC ?_; refine jm ?_; refine jn rfl ?_; refine jN rfl rfl rfl ?_; refine jm ?_; refine jn rfl ?_; refine jN rfl rfl rfl ?_; refine jjk rfl rfl (by omega) ?_; apply jI; exact eB rfl; refine jT rfl rfl rfl ?_; refine jm ?_; refine jn rfl ?_; refine jT rfl rfl rfl ?_; refine jN rfl rfl rfl ?_; refine jT rfl rfl rfl ?_; refine jh rfl ?_; refine jT rfl rfl rfl ?_; refine jm ?_; refine jn rfl ?_; refine jT rfl rfl rfl ?_; refine jN rfl rfl rfl ?_; refine jT rfl rfl rfl ?_; refine jh rfl ?_; refine jT rfl rfl rfl ?_; refine jjj rfl rfl (by omega) ?_; apply jL rfl; exact eB rfl; refine jz ?_; refine jjJ rfl ?_; refine jjB ?_; refine jjC ?_; apply jJ; exact eB rfl; refine jz ?_; refine jjF ?_; refine jB rfl rfl ⟨inferInstance, ?_⟩)
    rw [decide_eq_false (hno fun e => hll (by have := congrArg (fun x : Int × List (List ByteArray) => x.2.length) e; simpa using this))]; exact rfl
  (refine jjB ?_; refine jjB ?_; refine jjC ?_; refine jm ?_; refine jn rfl ?_; refine jN rfl rfl rfl ?_; refine jm ?_; refine jn rfl ?_; refine jN rfl rfl rfl ?_; refine jjk rfl rfl (by omega) ?_; apply jI; exact eB rfl; refine jT rfl rfl rfl ?_; refine jm ?_; refine jn rfl ?_; refine jT rfl rfl rfl ?_; refine jN rfl rfl rfl ?_; refine jT rfl rfl rfl ?_; refine jh rfl ?_; refine jT rfl rfl rfl ?_; refine jm ?_; refine jn rfl ?_; refine jT rfl rfl rfl ?_; refine jN rfl rfl rfl ?_; refine jT rfl rfl rfl ?_; refine jh rfl ?_; refine jT rfl rfl rfl ?_; refine jjk rfl rfl (by omega) ?_; apply jL rfl; exact eB rfl; refine jz ?_; refine jjK rfl ?_; refine jjG ?_; refine jjB ?_; refine jjC ?_; apply jJ; exact eI rfl; refine jz ?_; refine jjD ?_)
  refine W.keep [(2, .pointer (some ⟨b2, 0, none⟩)), (3, .pointer (some ⟨b3, 0, none⟩)), (5, .int .i64 ((k : Nat) : Int)), (6, .pointer (some ⟨b6, 0, none⟩)), (7, .pointer (some ⟨b7, 0, none⟩)), (8, .int .i64 ((0 : Nat) : Int))] (D := (16 :: 17 :: 18 :: 19 :: 20 :: 23 :: 24 :: 25 :: 26 :: 27 :: 28 :: 29 :: 30 :: 31 :: 32 :: 6 :: 7 :: 33 :: 34 :: 35 :: 36 :: 37 :: 38 :: 39 :: 40 :: 41 :: 42 :: 43 :: 44 :: 45 :: 46 :: 4 :: 8 :: 47 :: 48 :: 49 :: 50 :: 51 :: 54 :: 55 :: 56 :: 57 :: 58 :: 59 :: 60 :: 61 :: 62 :: 63 :: 64 :: 65 :: 52 :: 53 :: 21 :: 22 :: 5 :: [])) (sO := upds s0 _) (by ((refine Same.upd rfl ?_; refine Same.upd rfl ?_; refine Same.upd rfl ?_; refine Same.upd rfl ?_; refine Same.upd rfl ?_; refine Same.upd rfl ?_; refine Same.upd rfl ?_; refine Same.upd rfl ?_; refine Same.upd rfl ?_; refine Same.upd rfl ?_; refine Same.upd rfl ?_; refine Same.upd rfl ?_; refine Same.upd rfl ?_; refine Same.upd rfl ?_; refine Same.upd rfl ?_; assumption))) ⟨eP rfl, eP rfl, eI rfl, eP rfl, eP rfl, eI rfl, trivial⟩ fun s2 hs2' => ?_
  refine W.loop (47 :: 48 :: 49 :: 50 :: 51 :: 54 :: 55 :: 56 :: 57 :: 58 :: 59 :: 60 :: 61 :: 62 :: 63 :: 64 :: 65 :: 4 :: 52 :: 53 :: 8 :: []) (fun g s' V => ∃ n : Nat, s' 8 = .int .i64 ((n : Nat) : Int) ∧ g = cs[k].2.2.2.length - n ∧ n ≤ cs[k].2.2.2.length ∧ ∀ (j : Nat) (hj : j < cs[k].2.2.2.length), j < n → cs[k].2.2.2[j].2.2 = (ds[k].2.2.2[j]'(by omega)).2.2) cs[k].2.2.2.length ⟨0, rfl, rfl, Nat.zero_le _, by intros; omega⟩ ?_
  rintro _ sd2 w4 hS4 ⟨n, h8, rfl, hn, hpre2⟩
  refine W.fix h8 ?_
  clear h8
  by_cases hnl : n < cs[k].2.2.2.length
  rotate_left
  · have e : txC cs[k] = txC ds[k] := by
      refine Prod.ext hid (List.ext_getElem (by simpa using hll) fun j hj _ => ?_)
      rw [List.length_map] at hj
      simpa using hpre2 j hj (by omega)
    (refine jjB ?_; refine jjB ?_; refine jjC ?_; apply jI; exact eI rfl; refine jm ?_; refine jn rfl ?_; refine jN rfl rfl rfl ?_; refine jh rfl ?_; refine jja rfl rfl (by omega) ?_; refine jz ?_; refine jjK rfl ?_; refine jjE ?_; refine jjC ?_; apply jI; exact eI rfl; refine jY rfl rfl (by omega) ?_; apply jJ; exact eI rfl; refine jz ?_)
    refine ⟨rfl, by ((refine Same.upd rfl ?_; refine Same.upd rfl ?_; refine Same.upd rfl ?_; refine Same.upd rfl ?_; refine Same.upd rfl ?_; refine Same.upd rfl ?_; refine Same.upd rfl ?_; refine Same.upd rfl ?_; refine Same.upd rfl ?_; refine Same.ovN' rfl ?_; assumption)), cs.length - (k + 1), by omega, inferInstance, k + 1, congrArg (Value.int .i64) (by omega), rfl, by omega, fun j hj hjk => ?_⟩
    by_cases ej : j = k
    · subst ej; exact e
    · exact hpre j hj (by omega)
  have hnl2 : n < ds[k].2.2.2.length := by omega
  obtain ⟨bl, ol, el, hAl⟩ := (hT.line hkc).h.place' (map_get hnl)
  obtain ⟨bm, om, em, hAm⟩ := (hT'.line hkd).h.place' (map_get hnl2)
  rw [Nat.mul_one] at hAl hAm
  have hE4 : Ext w w4 := inferInstance
  have k6 := hA6.ext hS4.ext
  have k7 := hA7.ext hS4.ext
  (refine jjB ?_; refine jjB ?_; refine jjC ?_; apply jI; exact eI rfl; refine jm ?_; refine jn rfl ?_; refine jN rfl rfl rfl ?_; refine jh rfl ?_; refine jjZ rfl rfl (by omega) ?_; refine jz ?_; refine jjJ rfl ?_; refine jjG ?_; refine jjB ?_; refine jjD ?_; refine jjB ?_)
  rw [el] at k6
  rw [em] at k7
  have hW1 := (hT.word hkc hnl).h
  have hW2 := (hT'.word hkd hnl2).h
  refine W.draw (fun w' => Ext w4 w') ?_
  intro w5 hS5
  (refine jjV [0, 1, 2, 3, 4, 5, 6, 7, 8, 9] ?_ ?_ ?_; (decide +kernel); (exact hS5.ext); (((apply jjT; exact rfl; rintro w' hq; have := hq.toStep; refine jm ?_; refine jn rfl ?_; refine jz ?_; exact ⟨rfl, rfl⟩; apply jjT; exact rfl; rintro w' hq; have := hq.toStep; refine jN rfl rfl rfl ?_; refine jz ?_; exact ⟨rfl, rfl⟩; apply jjT; exact rfl; rintro w' hq; have := hq.toStep; apply jI; exact eI rfl; refine jz ?_; exact ⟨rfl, rfl⟩; apply jjT; exact rfl; rintro w' hq; have := hq.toStep; refine jG rfl rfl rfl (by omega) ?_; refine jz ?_; exact ⟨rfl, rfl⟩; apply jjT; exact rfl; rintro w' hq; have := hq.toStep; refine jQ rfl rfl ?_; refine jz ?_; exact ⟨rfl, rfl⟩; apply jjT; exact rfl; rintro w' hq; have := hq.toStep; refine jm ?_; refine jn rfl ?_; refine jz ?_; exact ⟨rfl, rfl⟩; apply jjT; exact rfl; rintro w' hq; have := hq.toStep; refine jN rfl rfl rfl ?_; refine jz ?_; exact ⟨rfl, rfl⟩; apply jjT; exact rfl; rintro w' hq; have := hq.toStep; apply jI; exact eI rfl; refine jz ?_; exact ⟨rfl, rfl⟩; apply jjT; exact rfl; rintro w' hq; have := hq.toStep; refine jG rfl rfl rfl (by omega) ?_; refine jz ?_; exact ⟨rfl, rfl⟩; apply jjT; exact rfl; rintro w' hq; have := hq.toStep; refine jQ rfl rfl ?_; refine jz ?_; exact ⟨rfl, rfl⟩; refine jjU ?_))))
  (apply jjW 10; (decide +kernel); exact rfl; (exact hS5.ext))
  obtain ⟨B, hB⟩ : ∃ B, decide (cs[k].2.2.2[n].2.2 = ds[k].2.2.2[n].2.2) = B := ⟨_, rfl⟩
  refine jjQ ((same_words1 _ _ _ _ _ _ cs[k].2.2.2[n].2.2 ds[k].2.2.2[n].2.2 _ rfl rfl (hW1.ext (hE4.trans hS5.ext)) (hW2.ext (hE4.trans hS5.ext))).mono fun v _ _ h => h.trans (by rw [hB])) rfl rfl ?_
  rintro _ w6 hS6 rfl
  refine jz ?_
  have e6 := hS5.ext.trans hS6.ext
  cases B with
  | true =>
    have hBe := of_decide_eq_true hB
    (refine jjV [11] ?_ ?_ ?_; (decide +kernel); (exact e6); (((apply jjT; exact rfl; rintro w' hq; have := hq.toStep; refine jp rfl ?_; refine jz ?_; exact ⟨rfl, rfl⟩; refine jjU ?_))))
    refine jjX (by decide +kernel) e6 ?_
    (refine jjK rfl ?_; refine jjG ?_; refine jjC ?_; apply jI; exact eI rfl; refine jY rfl rfl (by omega) ?_; apply jJ; exact eI rfl; refine jz ?_)
    refine ⟨rfl, by ((refine Same.upd rfl ?_; refine Same.upd rfl ?_; refine Same.upd rfl ?_; refine Same.upd rfl ?_; refine Same.upd rfl ?_; refine Same.upd rfl ?_; refine Same.upd rfl ?_; refine Same.upd rfl ?_; refine Same.upd rfl ?_; refine Same.upd rfl ?_; refine Same.upd rfl ?_; refine Same.upd rfl ?_; refine Same.upd rfl ?_; refine Same.upd rfl ?_; refine Same.upd rfl ?_; refine Same.upd rfl ?_; refine Same.upd rfl ?_; refine Same.upd rfl ?_; refine Same.upd rfl ?_; refine Same.upd rfl ?_; refine Same.upd rfl ?_; exact Same.ovN)), cs[k].2.2.2.length - (n + 1), by omega, inferInstance, n + 1, congrArg (Value.int .i64) (by omega), rfl, by omega, fun j hj hjn => ?_⟩
    by_cases ej : j = n
    · subst ej; exact hBe
    · exact hpre2 j hj (by omega)
  | false =>
    have hBe := of_decide_eq_false hB
    (refine jjV [11] ?_ ?_ ?_; (decide +kernel); (exact e6); (((apply jjT; exact rfl; rintro w' hq; have := hq.toStep; refine jq rfl ?_; refine jz ?_; exact ⟨rfl, rfl⟩; refine jjU ?_))))
    refine jjX (by decide +kernel) e6 ?_
    (refine jjJ rfl ?_; refine jjB ?_; refine jjC ?_; apply jJ; exact eB rfl; refine jz ?_; refine jjF ?_; refine jB rfl rfl ⟨inferInstance, ?_⟩)
    rw [decide_eq_false (hno fun e => hBe (by
      have h1 : (txC cs[k]).2[n]? = some cs[k].2.2.2[n].2.2 := by simp [hnl]
      have h2 : (txC ds[k]).2[n]? = some ds[k].2.2.2[n].2.2 := by simp [hnl2]
      rw [e, h2] at h1
      exact (Option.some.inj h1).symm))]; exact rfl
end
end Go.Proofs.YtgmgiepdehlinaaDoor

/- The law: cuts, slips of places, of all places, of parts. -/
namespace Go.Proofs.YtgmgiepdehlinaaDoor
open Go.RowKit

section
variable (a : Option Addr) (c : Nat) (cs : List Ch) (wd side : Int) (p q : Pl) (w : World) [hrow : RowI w (.slice a cs.length c) true 2 (cs.map encCh)] [hT : TextI w cs] [hgs : At w 0 0 sidesC]
set_option maxHeartbeats 8000000 in
theorem SlipMakes_law (hd : 0 ≤ side ∧ side ≤ 255) : Ct Tryd.prog 3 [.agg #[.slice a cs.length c], encCut wd side, encPl p, encPl q] w fun v _ => v = .bool true := by
  refine Ct.ofW (by simp) ?_
  (refine jjB ?_; refine jjC ?_)
  (refine jy rfl ?_; intro b4 w_b4 hb_b4 hs_b4 hS_b4 hk_b4; have hA_b4 := At.ofBlock hk_b4)
  skip
  (refine jy rfl ?_; intro b5 w_b5 hb_b5 hs_b5 hS_b5 hk_b5; have hA_b5 := At.ofBlock hk_b5)
  skip
  (refine jy rfl ?_; intro b6 w_b6 hb_b6 hs_b6 hS_b6 hk_b6; have hA_b6 := At.ofBlock hk_b6)
  skip
  (refine jy rfl ?_; intro b7 w_b7 hb_b7 hs_b7 hS_b7 hk_b7; have hA_b7 := At.ofBlock hk_b7)
  (apply jJ; exact eB rfl; refine jz ?_; refine jjB ?_; refine jjB ?_; refine jjC ?_; refine jO rfl rfl rfl rfl ?_)
  obtain ⟨G, hG⟩ : ∃ G, greatT (txF cs) = G := ⟨_, rfl⟩
  refine jjQ ((Great_ref1 a c cs _).mono fun v _ _ h => h.trans (by rw [hG])) rfl rfl ?_
  rintro _ w2 hS2 rfl
  cases G with
  | true =>
    (refine jz ?_; refine jjJ rfl ?_; refine jjB ?_; refine jjC ?_; apply jJ; exact eB rfl; refine jz ?_; refine jjF ?_; refine jB rfl rfl ⟨inferInstance, ?_⟩)
    exact rfl
  | false =>
  have hs := small_of_great hG
  (refine jz ?_; refine jjK rfl ?_; refine jjG ?_; refine jjB ?_; refine jjC ?_; refine jO rfl rfl rfl rfl ?_)
  refine jjQ (Twin_ref1 a c cs _ hs) rfl rfl ?_
  rintro _ w3 hS3 ⟨a', c', ds, rfl, htx, hO⟩
  rw [List.length_map] at hO
  rw [List.length_map]
  have hsd := small_of_great (cs := ds) (by rw [htx]; exact hG)
  have i0 : RowI w3 (.slice a' ds.length c') true 2 (ds.map encCh) := ⟨hO.out.row⟩
  have i1 : TextI w3 ds := hO.text
  skip
  (apply jjR rfl; (intro _; first|exact eI rfl|exact eB rfl|exact eP rfl|exact eS rfl|exact eT rfl|exact eA rfl|exact eU rfl|exact eF rfl|exact eM rfl|exact eN rfl|exact rfl); exact rfl; exact rfl; exact rfl; exact rfl; intro b9 w_b9 hb_b9 hs_b9 hS_b9 hk_b9; have hA_b9 := Bk.of hk_b9)
  have hmk := Make_slip a' c' ds wd side w_b9 p hsd hd
  rw [htx] at hmk
  (refine jz ?_; refine jjB ?_; refine jjC ?_; refine jO rfl rfl rfl rfl ?_; refine jO rfl rfl rfl rfl ?_; refine jO rfl rfl rfl rfl ?_)
  refine jjQ hmk rfl rfl ?_
  rintro _ w10 hS10 rfl
  (apply jI; exact eU rfl; refine ju rfl rfl ?_; refine ju rfl rfl ?_)
  (apply jjR rfl; (intro _; first|exact eI rfl|exact eB rfl|exact eP rfl|exact eS rfl|exact eT rfl|exact eA rfl|exact eU rfl|exact eF rfl|exact eM rfl|exact eN rfl|exact rfl); exact rfl; exact rfl; exact rfl; exact rfl; intro b10 w_b10 hb_b10 hs_b10 hS_b10 hk_b10; have hA_b10 := Bk.of hk_b10)
  (apply jJ; exact eI rfl; refine jz ?_; refine jjB ?_; refine jjC ?_; refine jO rfl rfl rfl rfl ?_; refine jO rfl rfl rfl rfl ?_; refine jO rfl rfl rfl rfl ?_)
  refine jjQ (Make_ref3 a c cs wd side _ p hs hd) rfl rfl ?_
  rintro _ w12 hS12 rfl
  generalize makeR (txF cs) wd side p = R at *
  (apply jI; exact eU rfl; refine ju rfl rfl ?_; refine ju rfl rfl ?_)
  (apply jjR rfl; (intro _; first|exact eI rfl|exact eB rfl|exact eP rfl|exact eS rfl|exact eT rfl|exact eA rfl|exact eU rfl|exact eF rfl|exact eM rfl|exact eN rfl|exact rfl); exact rfl; exact rfl; exact rfl; exact rfl; intro b12 w_b12 hb_b12 hs_b12 hS_b12 hk_b12; have hA_b12 := Bk.of hk_b12)
  have hal := All_slip a' c' ds wd side w_b12 hsd hd
  rw [htx] at hal
  (apply jJ; exact eI rfl; refine jz ?_; refine jjB ?_; refine jjC ?_; refine jO rfl rfl rfl rfl ?_; refine jO rfl rfl rfl rfl ?_)
  refine jjQ hal rfl rfl ?_
  rintro _ w14 hS14 ⟨sv1, rfl, hO1⟩
  obtain ⟨va1, vc1, rfl⟩ := hO1.slice
  (apply jI; exact eU rfl; refine ju rfl rfl ?_; refine ju rfl rfl ?_; apply jJ; exact eS rfl; apply jJ; exact eI rfl; refine jz ?_; refine jjB ?_; refine jjC ?_; refine jO rfl rfl rfl rfl ?_; refine jO rfl rfl rfl rfl ?_)
  refine jjQ (All_ref3 a c cs wd side _ hs hd) rfl rfl ?_
  rintro _ w16 hS16 ⟨sv2, rfl, hO2⟩
  obtain ⟨va2, vc2, rfl⟩ := hO2.slice
  have hpt := Part_slip a' c' ds wd side w16 p q hsd hd
  rw [htx] at hpt
  (apply jI; exact eU rfl; refine ju rfl rfl ?_; refine ju rfl rfl ?_; apply jJ; exact eS rfl; apply jJ; exact eI rfl; refine jz ?_; refine jjB ?_; refine jjC ?_; refine jO rfl rfl rfl rfl ?_; refine jO rfl rfl rfl rfl ?_; refine jO rfl rfl rfl rfl ?_; refine jO rfl rfl rfl rfl ?_)
  refine jjQ hpt rfl rfl ?_
  rintro _ w18 hS18 ⟨sv3, rfl, hO3⟩
  obtain ⟨va3, vc3, rfl⟩ := hO3.slice
  (apply jI; exact eU rfl; refine ju rfl rfl ?_; refine ju rfl rfl ?_; apply jJ; exact eS rfl; apply jJ; exact eI rfl; refine jz ?_; refine jjB ?_; refine jjC ?_; refine jO rfl rfl rfl rfl ?_; refine jO rfl rfl rfl rfl ?_; refine jO rfl rfl rfl rfl ?_; refine jO rfl rfl rfl rfl ?_)
  refine jjQ (Part_ref3 a c cs wd side _ p q hs hd) rfl rfl ?_
  rintro _ w20 hS20 ⟨sv4, rfl, hO4⟩
  obtain ⟨va4, vc4, rfl⟩ := hO4.slice
  generalize allR (txF cs) wd side = L at *
  generalize partR (txF cs) wd side p q = Pr at *
  generalize askE (txF cs) wd side = E at *
  (apply jI; exact eU rfl; refine ju rfl rfl ?_; refine ju rfl rfl ?_; apply jJ; exact eS rfl; apply jJ; exact eI rfl; refine jz ?_; refine jjB ?_)
  have hO1' := hO1.ext ((hS16.ext.trans hS18.ext).trans hS20.ext)
  have hO2' := hO2.ext (hS18.ext.trans hS20.ext)
  have hO3' := hO3.ext hS20.ext
  refine W.draw (fun w' => Ext w20 w') ?_
  intro w1 hS1
  (refine jjV [0, 2] ?_ ?_ ?_; (decide +kernel); (exact hS1.ext); (((apply jjT; exact rfl; rintro w' hq; have := hq.toStep; refine jO rfl rfl rfl rfl ?_; refine jz ?_; exact ⟨rfl, rfl⟩; apply jjT; exact rfl; rintro w' hq; have := hq.toStep; refine jO rfl rfl rfl rfl ?_; refine jz ?_; exact ⟨rfl, rfl⟩; refine jjU ?_))))
  (apply jjW 1; (decide +kernel); exact rfl; (exact hS1.ext))
  refine jjQ (Check_slip wd side hd _) rfl rfl ?_
  rintro _ u2 k2 rfl
  refine jz ?_
  have e2 := hS1.ext.trans k2.ext
  (apply jjW 3; (decide +kernel); exact rfl; (exact e2))
  refine jjQ (Check_ref3 wd side hd _) rfl rfl ?_
  rintro _ u3 k3 rfl
  refine jz ?_
  have e3 := e2.trans k3.ext
  (refine jjV [4, 5, 6, 7] ?_ ?_ ?_; (decide +kernel); (exact e3); (((apply jjT; exact rfl; rintro w' hq; have := hq.toStep; refine ja rfl rfl ?_; refine jz ?_; exact ⟨rfl, rfl⟩; apply jjT; exact rfl; rintro w' hq; have := hq.toStep; apply jI; exact eB rfl; refine jz ?_; exact ⟨rfl, rfl⟩; apply jjT; exact rfl; rintro w' hq; have := hq.toStep; refine jT rfl rfl rfl ?_; refine jO rfl rfl rfl rfl ?_; refine jz ?_; exact ⟨rfl, rfl⟩; apply jjT; exact rfl; rintro w' hq; have := hq.toStep; refine jT rfl rfl rfl ?_; refine jO rfl rfl rfl rfl ?_; refine jz ?_; exact ⟨rfl, rfl⟩; refine jjU ?_))))
  refine jjV [8] (by decide +kernel) e3 (jjT (v := .bool true) rfl (fun w' q1 => ?_) (jjU ?_)); ((refine jT rfl rfl rfl ?_); refine Ops.eqlT (enc := encSl) R.1 R.1 rfl rfl ?_; rw [decide_eq_true rfl]; refine jz ?_; exact ⟨rfl, rfl⟩)
  (refine jjV [9, 10, 11, 12, 13, 14, 15, 16, 17] ?_ ?_ ?_; (decide +kernel); (exact e3); (((apply jjT; exact rfl; rintro w' hq; have := hq.toStep; apply jK rfl; exact eB rfl; refine jz ?_; exact ⟨rfl, rfl⟩; apply jjT; exact rfl; rintro w' hq; have := hq.toStep; apply jI; exact eB rfl; refine jz ?_; exact ⟨rfl, rfl⟩; apply jjT; exact rfl; rintro w' hq; have := hq.toStep; refine jT rfl rfl rfl ?_; apply jI; exact eI rfl; refine jz ?_; exact ⟨rfl, rfl⟩; apply jjT; exact rfl; rintro w' hq; have := hq.toStep; refine jT rfl rfl rfl ?_; apply jI; exact eI rfl; refine jz ?_; exact ⟨rfl, rfl⟩; apply jjT; exact rfl; rintro w' hq; have := hq.toStep; refine jT rfl rfl rfl ?_; refine ja rfl rfl ?_; refine jz ?_; exact ⟨rfl, rfl⟩; apply jjT; exact rfl; rintro w' hq; have := hq.toStep; apply jK rfl; exact eB rfl; refine jz ?_; exact ⟨rfl, rfl⟩; apply jjT; exact rfl; rintro w' hq; have := hq.toStep; apply jI; exact eB rfl; refine jz ?_; exact ⟨rfl, rfl⟩; apply jjT; exact rfl; rintro w' hq; have := hq.toStep; refine jT rfl rfl rfl ?_; apply jI; exact eS rfl; refine jz ?_; exact ⟨rfl, rfl⟩; apply jjT; exact rfl; rintro w' hq; have := hq.toStep; refine jT rfl rfl rfl ?_; apply jI; exact eS rfl; refine jz ?_; exact ⟨rfl, rfl⟩; refine jjU ?_))))
  (apply jjW 18; (decide +kernel); exact rfl; (exact e3))
  (refine jT rfl rfl rfl ?_)
  refine jjQ ((same_slips3 va1 va2 vc1 vc2 _ _ L L _ (by rw [List.length_map]) (by rw [List.length_map]) (hO1'.ext e3).row (hO2'.ext e3).row).mono fun v _ _ h => h.trans (by rw [decide_eq_true rfl])) rfl rfl ?_
  rintro _ u4 k4 rfl
  refine jz ?_
  have e4 := e3.trans k4.ext
  (refine jjV [19, 20, 21, 22, 23, 24, 25, 26, 27] ?_ ?_ ?_; (decide +kernel); (exact e4); (((apply jjT; exact rfl; rintro w' hq; have := hq.toStep; apply jK rfl; exact eB rfl; refine jz ?_; exact ⟨rfl, rfl⟩; apply jjT; exact rfl; rintro w' hq; have := hq.toStep; apply jI; exact eB rfl; refine jz ?_; exact ⟨rfl, rfl⟩; apply jjT; exact rfl; rintro w' hq; have := hq.toStep; refine jT rfl rfl rfl ?_; apply jI; exact eI rfl; refine jz ?_; exact ⟨rfl, rfl⟩; apply jjT; exact rfl; rintro w' hq; have := hq.toStep; refine jT rfl rfl rfl ?_; apply jI; exact eI rfl; refine jz ?_; exact ⟨rfl, rfl⟩; apply jjT; exact rfl; rintro w' hq; have := hq.toStep; refine jT rfl rfl rfl ?_; refine ja rfl rfl ?_; refine jz ?_; exact ⟨rfl, rfl⟩; apply jjT; exact rfl; rintro w' hq; have := hq.toStep; apply jK rfl; exact eB rfl; refine jz ?_; exact ⟨rfl, rfl⟩; apply jjT; exact rfl; rintro w' hq; have := hq.toStep; apply jI; exact eB rfl; refine jz ?_; exact ⟨rfl, rfl⟩; apply jjT; exact rfl; rintro w' hq; have := hq.toStep; refine jT rfl rfl rfl ?_; apply jI; exact eS rfl; refine jz ?_; exact ⟨rfl, rfl⟩; apply jjT; exact rfl; rintro w' hq; have := hq.toStep; refine jT rfl rfl rfl ?_; apply jI; exact eS rfl; refine jz ?_; exact ⟨rfl, rfl⟩; refine jjU ?_))))
  (apply jjW 28; (decide +kernel); exact rfl; (exact e4))
  (refine jT rfl rfl rfl ?_)
  refine jjQ ((same_slips3 va3 va4 vc3 vc4 _ _ Pr.1 Pr.1 _ (by rw [List.length_map]) (by rw [List.length_map]) (hO3'.ext e4).row (hO4.ext e4).row).mono fun v _ _ h => h.trans (by rw [decide_eq_true rfl])) rfl rfl ?_
  rintro _ u5 k5 rfl
  refine jz ?_
  have e5 := e4.trans k5.ext
  (refine jjV [29, 30, 31, 32, 33, 34, 35, 36, 37] ?_ ?_ ?_; (decide +kernel); (exact e5); (((apply jjT; exact rfl; rintro w' hq; have := hq.toStep; apply jK rfl; exact eB rfl; refine jz ?_; exact ⟨rfl, rfl⟩; apply jjT; exact rfl; rintro w' hq; have := hq.toStep; apply jI; exact eB rfl; refine jz ?_; exact ⟨rfl, rfl⟩; apply jjT; exact rfl; rintro w' hq; have := hq.toStep; refine jT rfl rfl rfl ?_; apply jI; exact eI rfl; refine jz ?_; exact ⟨rfl, rfl⟩; apply jjT; exact rfl; rintro w' hq; have := hq.toStep; refine jT rfl rfl rfl ?_; apply jI; exact eI rfl; refine jz ?_; exact ⟨rfl, rfl⟩; apply jjT; exact rfl; rintro w' hq; have := hq.toStep; refine jT rfl rfl rfl ?_; refine ja rfl rfl ?_; refine jz ?_; exact ⟨rfl, rfl⟩; apply jjT; exact rfl; rintro w' hq; have := hq.toStep; apply jK rfl; exact eB rfl; refine jz ?_; exact ⟨rfl, rfl⟩; apply jjT; exact rfl; rintro w' hq; have := hq.toStep; apply jI; exact eB rfl; refine jz ?_; exact ⟨rfl, rfl⟩; apply jjT; exact rfl; rintro w' hq; have := hq.toStep; refine jT rfl rfl rfl ?_; refine jO rfl rfl rfl rfl ?_; refine jz ?_; exact ⟨rfl, rfl⟩; apply jjT; exact rfl; rintro w' hq; have := hq.toStep; refine jT rfl rfl rfl ?_; refine jO rfl rfl rfl rfl ?_; refine jz ?_; exact ⟨rfl, rfl⟩; refine jjU ?_))))
  (apply jjW 38; (decide +kernel); exact rfl; (exact e5))
  (refine jT rfl rfl rfl ?_)
  have k5' : Step w20 u5 := e5.toStep
  refine jjQ ((Same_ref1 a' a c' c ds cs _ hsd).mono fun v _ _ h => h.trans (by rw [decide_eq_true htx])) rfl rfl ?_
  rintro _ u6 k6 rfl
  refine jz ?_
  have e6 := e5.trans k6.ext
  (refine jjV [39, 40] ?_ ?_ ?_; (decide +kernel); (exact e6); (((apply jjT; exact rfl; rintro w' hq; have := hq.toStep; apply jK rfl; exact eB rfl; refine jz ?_; exact ⟨rfl, rfl⟩; apply jjT; exact rfl; rintro w' hq; have := hq.toStep; apply jJ; exact eB rfl; refine jz ?_; exact ⟨rfl, rfl⟩; refine jjU ?_))))
  refine jjX (by decide +kernel) e6 ?_
  have := e6.toStep
  (refine jjF ?_; refine jB rfl rfl ⟨inferInstance, ?_⟩)
  exact rfl
end
end Go.Proofs.YtgmgiepdehlinaaDoor
