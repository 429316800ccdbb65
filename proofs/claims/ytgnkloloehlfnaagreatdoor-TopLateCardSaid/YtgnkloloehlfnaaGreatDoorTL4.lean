/- Texts of the proof, part 4: PlO, PkF, ShC, Eng27, Rk1, Eng49, Hd2, HdR, Hd3, Lib4, Eng18, HdL, Hd4, HdP, Eng48, Eng43, Lib3, Hd5, Hd6, Hd7, Hd8, Hd9, HdA. -/
import Derived.Shelf.Small.Strs
import Derived.Sort.Grow
import Derived.ChangeKeysEq
import Derived.Test.YtgnkloloehlfnaaGreatDoorTL3
namespace Go.Proofs.YtgnkloloehlfnaaGreatDoor
open Go.RowKit

structure Ord3 {α : Type} (f : α → α → Int) : Prop where
  r : ∀ a b, f a b = -1 ∨ f a b = 0 ∨ f a b = 1
  anti : ∀ a b, f a b = - f b a
  z : ∀ a b, f a b = 0 ↔ a = b
  tr : ∀ a b c, f a b = -1 → f b c = -1 → f a c = -1
theorem Ord3.lex {α β : Type} {f : α → α → Int} {g : β → β → Int} (hf : Ord3 f) (hg : Ord3 g) : Ord3 (fun (x y : α × β) => if f x.1 y.1 = 0 then g x.2 y.2 else f x.1 y.1) where
  r a b := by
    split
    · exact hg.r _ _
    · exact hf.r _ _
  anti a b := by
    have h1 := hf.anti a.1 b.1
    have h2 := hg.anti a.2 b.2
    split <;> split <;> omega
  z a b := by
    have h1 := hf.z a.1 b.1
    have h2 := hg.z a.2 b.2
    split
    · rename_i h
      rw [h2, Prod.ext_iff]
      exact ⟨fun e => ⟨h1.1 h, e⟩, fun e => e.2⟩
    · rename_i h
      exact ⟨fun e => absurd e h, fun e => absurd (h1.2 (by rw [e])) h⟩
  tr a b c := by
    intro h1 h2
    by_cases e1 : f a.1 b.1 = 0
    · rw [if_pos e1] at h1
      have q1 := (hf.z _ _).1 e1
      by_cases e2 : f b.1 c.1 = 0
      · rw [if_pos e2] at h2
        have q2 := (hf.z _ _).1 e2
        rw [if_pos ((hf.z _ _).2 (q1.trans q2))]
        exact hg.tr _ _ _ h1 h2
      · rw [if_neg e2] at h2
        rw [q1, if_neg e2]; exact h2
    · rw [if_neg e1] at h1
      by_cases e2 : f b.1 c.1 = 0
      · have q2 := (hf.z _ _).1 e2
        rw [← q2, if_neg e1]; exact h1
      · rw [if_neg e2] at h2
        have := hf.tr _ _ _ h1 h2
        rw [if_neg (by omega)]; exact this
theorem Ord3.map {α β : Type} {f : α → α → Int} (hf : Ord3 f) (k : β → α) (hk : ∀ x y, k x = k y → x = y) : Ord3 (fun x y => f (k x) (k y)) where
  r _ _ := hf.r _ _
  anti _ _ := hf.anti _ _
  z a b := by rw [hf.z]; exact ⟨hk a b, fun e => by rw [e]⟩
  tr _ _ _ := hf.tr _ _ _
theorem ord_cmp1 : Ord3 cmp1 where
  r a b := by unfold cmp1; split <;> (try split) <;> omega
  anti a b := by unfold cmp1; repeat' split
                 all_goals omega
  z a b := by unfold cmp1; repeat' split
              all_goals omega
  tr a b c := by unfold cmp1; repeat' split
                 all_goals omega
theorem bytesLess_asymm : ∀ a b : List UInt8, Op.bytesLess a b = true → Op.bytesLess b a = false
  | _, [], h => by cases h' : (‹List UInt8›) <;> simp_all [Op.bytesLess]
  | [], _ :: _, _ => rfl
  | x :: a, y :: b, h => by
    simp only [Op.bytesLess, Bool.or_eq_true, Bool.and_eq_true, decide_eq_true_eq, beq_iff_eq, Bool.or_eq_false_iff, Bool.and_eq_false_iff, decide_eq_false_iff_not] at h ⊢
    rcases h with h | ⟨rfl, h⟩
    · have h1 : x.toNat < y.toNat := UInt8.lt_iff_toNat_lt.1 h
      refine ⟨fun h2 => ?_, ?_⟩
      · have := UInt8.lt_iff_toNat_lt.1 h2; omega
      · left
        cases hb : (y == x)
        · rfl
        · have := eq_of_beq hb; subst this; omega
    · refine ⟨fun h2 => ?_, .inr (bytesLess_asymm a b h)⟩
      have := UInt8.lt_iff_toNat_lt.1 h2; omega
theorem bytesLess_tri : ∀ a b : List UInt8, Op.bytesLess a b = true ∨ a = b ∨ Op.bytesLess b a = true
  | [], [] => .inr (.inl rfl)
  | [], _ :: _ => .inl rfl
  | _ :: _, [] => .inr (.inr rfl)
  | x :: a, y :: b => by
    simp only [Op.bytesLess, Bool.or_eq_true, Bool.and_eq_true, decide_eq_true_eq, beq_iff_eq]
    rcases Nat.lt_trichotomy x.toNat y.toNat with h | h | h
    · exact .inl (.inl (UInt8.lt_iff_toNat_lt.2 h))
    · have e : x = y := UInt8.toNat_inj.1 h
      subst e
      rcases bytesLess_tri a b with h1 | h1 | h1
      · exact .inl (.inr ⟨rfl, h1⟩)
      · exact .inr (.inl (by rw [h1]))
      · exact .inr (.inr (.inr ⟨rfl, h1⟩))
    · exact .inr (.inr (.inl (UInt8.lt_iff_toNat_lt.2 h)))
theorem bytesLess_trans : ∀ a b c : List UInt8, Op.bytesLess a b = true → Op.bytesLess b c = true → Op.bytesLess a c = true
  | _, _, [], _, h => by cases ‹List UInt8› <;> simp [Op.bytesLess] at h
  | [], _, _ :: _, _, _ => rfl
  | _ :: _, [], _ :: _, h, _ => by simp [Op.bytesLess] at h
  | x :: a, y :: b, z :: c, h1, h2 => by
    simp only [Op.bytesLess, Bool.or_eq_true, Bool.and_eq_true, decide_eq_true_eq, beq_iff_eq] at h1 h2 ⊢
    rcases h1 with h1 | ⟨rfl, h1⟩
    · rcases h2 with h2 | ⟨rfl, h2⟩
      · left; have := UInt8.lt_iff_toNat_lt.1 h1; have := UInt8.lt_iff_toNat_lt.1 h2; exact UInt8.lt_iff_toNat_lt.2 (by omega)
      · exact .inl h1
    · rcases h2 with h2 | ⟨rfl, h2⟩
      · exact .inl h2
      · exact .inr ⟨rfl, bytesLess_trans a b c h1 h2⟩
theorem toList_inj {a b : ByteArray} (h : a.toList = b.toList) : a = b := by
  have := beqS a b
  rw [h, beq_self_eq_true] at this
  exact of_decide_eq_true this.symm
theorem ord_cmpS : Ord3 cmpS where
  r a b := by unfold cmpS; split <;> (try split) <;> omega
  anti a b := by
    unfold cmpS
    rcases bytesLess_tri a.toList b.toList with h | h | h
    · have h2 := bytesLess_asymm _ _ h
      have hne : ¬ b = a := fun e => by subst e; rw [h] at h2; cases h2
      rw [if_pos h, if_neg (by rw [h2]; simp), if_neg hne]
    · have e := toList_inj h
      subst e
      rw [bytesLess_irr]; simp
    · have h2 := bytesLess_asymm _ _ h
      have hne : ¬ a = b := fun e => by subst e; rw [h] at h2; cases h2
      rw [if_pos h, if_neg (by rw [h2]; simp), if_neg hne]; rfl
  z a b := by
    refine ⟨fun h => ?_, fun e => by subst e; exact cmpS_self _⟩
    refine Decidable.by_contra fun hne => cmpS_ne hne h
  tr a b c := by
    unfold cmpS
    intro h1 h2
    have q1 : Op.bytesLess a.toList b.toList = true := by
      cases h : Op.bytesLess a.toList b.toList
      · rw [h] at h1; simp at h1; split at h1 <;> omega
      · rfl
    have q2 : Op.bytesLess b.toList c.toList = true := by
      cases h : Op.bytesLess b.toList c.toList
      · rw [h] at h2; simp at h2; split at h2 <;> omega
      · rfl
    rw [if_pos (bytesLess_trans _ _ _ q1 q2)]
theorem ord_cmpP : Ord3 cmpP := by
  have h := (ord_cmp1.lex (ord_cmp1.lex ord_cmp1))
  have e : cmpP = fun (x y : Int × Int × Int) => if cmp1 x.1 y.1 = 0 then (if cmp1 x.2.1 y.2.1 = 0 then cmp1 x.2.2 y.2.2 else cmp1 x.2.1 y.2.1) else cmp1 x.1 y.1 := by
    funext x y
    simp only [cmpP, orF]
    repeat' split
    all_goals omega
  rw [e]; exact h
theorem ord_slip : Ord3 ordS := by
  have h := (ord_cmpS.lex (ord_cmpP.lex (ord_cmpS.lex ord_cmpS))).map (fun x : Slp => (x.2.1, x.1, x.2.2.2, x.2.2.1)) (fun x y e => by
    simp only [Prod.mk.injEq] at e
    exact Prod.ext e.2.1 (Prod.ext e.1 (Prod.ext e.2.2.2 e.2.2.1)))
  have e : ordS = fun (x y : Slp) => if cmpS x.2.1 y.2.1 = 0 then (if cmpP x.1 y.1 = 0 then (if cmpS x.2.2.2 y.2.2.2 = 0 then cmpS x.2.2.1 y.2.2.1 else cmpS x.2.2.2 y.2.2.2) else cmpP x.1 y.1) else cmpS x.2.1 y.2.1 := by
    funext x y
    simp only [ordS, orF]
    repeat' split
    all_goals omega
  rw [e]; exact h

structure Pre3 {α : Type} (f : α → α → Int) : Prop where
  r : ∀ a b, f a b = -1 ∨ f a b = 0 ∨ f a b = 1
  anti : ∀ a b, f a b = - f b a
  tr : ∀ a b c, f a b = -1 → f b c = -1 → f a c = -1
  eql : ∀ a b c, f a b = 0 → f a c = f b c
theorem Ord3.pre {α β : Type} {f : α → α → Int} (h : Ord3 f) (k : β → α) : Pre3 (fun x y => f (k x) (k y)) where
  r _ _ := h.r _ _
  anti _ _ := h.anti _ _
  tr _ _ _ := h.tr _ _ _
  eql a b c e := by
    have := (h.z (k a) (k b)).1 e
    simp only [this]
def cmpBy (n : Int) (x y : Slp) : Int := if n = 1 then ordS x y else if n = 2 then cmpS x.2.1 y.2.1 else if n = 3 then cmpS x.2.2.1 y.2.2.1 else cmpS x.2.2.2 y.2.2.2
theorem pre_by (n : Int) : Pre3 (cmpBy n) := by
  by_cases h1 : n = 1
  · have e : cmpBy n = fun x y => ordS x y := by funext x y; rw [cmpBy, if_pos h1]
    rw [e]; exact ord_slip.pre id
  by_cases h2 : n = 2
  · have e : cmpBy n = fun x y => cmpS x.2.1 y.2.1 := by funext x y; rw [cmpBy, if_neg h1, if_pos h2]
    rw [e]; exact ord_cmpS.pre fun x : Slp => x.2.1
  by_cases h3 : n = 3
  · have e : cmpBy n = fun x y => cmpS x.2.2.1 y.2.2.1 := by funext x y; rw [cmpBy, if_neg h1, if_neg h2, if_pos h3]
    rw [e]; exact ord_cmpS.pre fun x : Slp => x.2.2.1
  · have e : cmpBy n = fun x y => cmpS x.2.2.2 y.2.2.2 := by funext x y; rw [cmpBy, if_neg h1, if_neg h2, if_neg h3]
    rw [e]; exact ord_cmpS.pre fun x : Slp => x.2.2.2
section
variable {α : Type} {f : α → α → Int} (hf : Pre3 f)
include hf
theorem Pre3.refl (a : α) : f a a = 0 := by have := hf.anti a a; omega
theorem Pre3.sym {a b : α} (h : f a b = 0) : f b a = 0 := by have := hf.anti a b; omega
theorem reps_le : ∀ (A B : List α), A.Pairwise (fun a b => f a b ≠ 0) → (∀ a ∈ A, ∃ b ∈ B, f a b = 0) → A.length ≤ B.length
  | [], _, _, _ => Nat.zero_le _
  | a :: A, B, hp, hm => by
    obtain ⟨b, hb, e⟩ := hm a (by simp)
    rw [List.pairwise_cons] at hp
    have ih := reps_le A (B.filter fun y => decide (f a y ≠ 0)) hp.2 fun a' ha' => by
      obtain ⟨b', hb', e'⟩ := hm a' (by simp [ha'])
      refine ⟨b', List.mem_filter.2 ⟨hb', decide_eq_true fun h => hp.1 a' ha' ?_⟩, e'⟩
      have h1 := hf.eql a' b' a e'
      have h2 := hf.sym h
      exact hf.sym (h1.trans h2)
    have hlt : (B.filter fun y => decide (f a y ≠ 0)).length < B.length := by
      rw [List.length_filter_lt_length_iff_exists]
      exact ⟨b, hb, by rw [decide_eq_true_eq]; exact fun h => h e⟩
    rw [List.length_cons]
    omega
end
def isFst {α : Type} (f : α → α → Int) (l : List α) (s : α) (k : Nat) : Bool :=
  decide (f (l.getD k s) s < 0) && (l.take k).all fun y => decide (f y (l.getD k s) ≠ 0)
def rankF {α : Type} (f : α → α → Int) (l : List α) (s : α) : Nat := ((List.range l.length).filter (isFst f l s)).length
section
variable {α : Type} {f : α → α → Int} (hf : Pre3 f)
include hf
omit hf in
theorem fst_of (l : List α) (x s : α) : ∀ {n : Nat}, n ≤ l.length → (∃ k, k < n ∧ f (l.getD k s) x = 0) → ∃ k, k < n ∧ f (l.getD k s) x = 0 ∧ ∀ j, j < k → f (l.getD j s) x ≠ 0
  | 0, _, ⟨k, h, _⟩ => absurd h (Nat.not_lt_zero _)
  | n + 1, hn, ⟨k, h, e⟩ => by
    by_cases c : ∃ k, k < n ∧ f (l.getD k s) x = 0
    · obtain ⟨k, h1, h2, h3⟩ := fst_of l x s (by omega) c
      exact ⟨k, by omega, h2, h3⟩
    · have hk : k = n := by
        refine Decidable.by_contra fun hne => c ⟨k, by omega, e⟩
      exact ⟨k, h, e, fun j hj h0 => c ⟨j, by omega, h0⟩⟩
theorem rank_reps {l C : List α} {s : α} (hC : C.Pairwise (fun a b => f a b ≠ 0)) (h1 : ∀ x ∈ l, ∃ c ∈ C, f c x = 0) (h2 : ∀ c ∈ C, ∃ x ∈ l, f c x = 0) : rankF f l s = (C.filter fun c => decide (f c s < 0)).length := by
  have hA : rankF f l s = (((List.range l.length).filter (isFst f l s)).map fun k => l.getD k s).length := by rw [List.length_map]; rfl
  rw [hA]
  refine Nat.le_antisymm (reps_le hf _ _ ?_ ?_) (reps_le hf _ _ (hC.filter _) ?_)
  · rw [List.pairwise_map]
    refine List.Pairwise.imp_of_mem ?_ ((List.pairwise_lt_range (n := l.length)).filter _)
    intro i j hi hj hij
    obtain ⟨hj1, hj2⟩ := List.mem_filter.1 hj
    rw [List.mem_range] at hj1
    rw [isFst, Bool.and_eq_true, List.all_eq_true] at hj2
    have hm : l.getD i s ∈ l.take j := by
      rw [List.getD_eq_getElem?_getD, List.getElem?_eq_getElem (by omega), Option.getD_some]
      exact List.mem_take_iff_getElem.2 ⟨i, by omega, rfl⟩
    exact of_decide_eq_true (hj2.2 _ hm)
  · intro a ha
    obtain ⟨k, hk, rfl⟩ := List.mem_map.1 ha
    obtain ⟨hk1, hk2⟩ := List.mem_filter.1 hk
    rw [List.mem_range] at hk1
    rw [isFst, Bool.and_eq_true, decide_eq_true_eq] at hk2
    have hm : l.getD k s ∈ l := by
      rw [List.getD_eq_getElem?_getD, List.getElem?_eq_getElem hk1, Option.getD_some]; exact List.getElem_mem hk1
    obtain ⟨c, hc, e⟩ := h1 _ hm
    exact ⟨c, List.mem_filter.2 ⟨hc, decide_eq_true (by rw [hf.eql _ _ s e]; exact hk2.1)⟩, hf.sym e⟩
  · intro c hc
    obtain ⟨hc1, hc2⟩ := List.mem_filter.1 hc
    rw [decide_eq_true_eq] at hc2
    obtain ⟨x, hx, e⟩ := h2 c hc1
    obtain ⟨i, hi, rfl⟩ := List.getElem_of_mem hx
    have hgi : l.getD i s = l[i] := by rw [List.getD_eq_getElem?_getD, List.getElem?_eq_getElem hi, Option.getD_some]
    obtain ⟨k, hk, e2, e3⟩ := fst_of l l[i] s (Nat.le_refl _) ⟨i, hi, by rw [hgi]; exact hf.refl _⟩
    have e4 : f c (l.getD k s) = 0 := by rw [hf.eql _ _ _ e]; exact hf.sym e2
    refine ⟨_, List.mem_map.2 ⟨k, List.mem_filter.2 ⟨List.mem_range.2 hk, ?_⟩, rfl⟩, e4⟩
    rw [isFst, Bool.and_eq_true, decide_eq_true_eq, List.all_eq_true]
    refine ⟨by rw [← hf.eql _ _ s e4]; exact hc2, fun y hy => decide_eq_true fun h0 => ?_⟩
    obtain ⟨j, hj, rfl⟩ := List.mem_take_iff_getElem.1 hy
    have hgj : l.getD j s = l[j] := by rw [List.getD_eq_getElem?_getD, List.getElem?_eq_getElem (by omega), Option.getD_some]
    refine e3 j (by omega) ?_
    rw [hgj, hf.eql _ _ _ h0]
    exact e2
end
def cptGo {α : Type} (f : α → α → Int) (p : α) : List α → List α
  | [] => []
  | y :: r => if f y p = 0 then cptGo f y r else y :: cptGo f y r
def cptL {α : Type} (f : α → α → Int) : List α → List α
  | [] => []
  | x :: r => x :: cptGo f x r
section
variable {α : Type} {f : α → α → Int} (hf : Pre3 f)
include hf
theorem cptGo_facts : ∀ (r : List α) (p : α), (p :: r).Pairwise (fun a b => f b a ≠ -1) → (∀ c ∈ cptGo f p r, f p c = -1 ∧ c ∈ r) ∧ (cptGo f p r).Pairwise (fun a b => f a b = -1) ∧ ∀ x ∈ r, f p x = 0 ∨ ∃ c ∈ cptGo f p r, f c x = 0
  | [], p, _ => ⟨fun c hc => by simp [cptGo] at hc, List.Pairwise.nil, fun x hx => by simp at hx⟩
  | y :: r, p, hs => by
    rw [List.pairwise_cons] at hs
    obtain ⟨i1, i2, i3⟩ := cptGo_facts r y hs.2
    have hyp := hs.1 y (by simp)
    by_cases e : f y p = 0
    · have e' := hf.sym e
      rw [cptGo, if_pos e]
      refine ⟨fun c hc => ⟨by rw [hf.eql _ _ c e']; exact (i1 c hc).1, by simp [(i1 c hc).2]⟩, i2, fun x hx => ?_⟩
      rcases List.mem_cons.1 hx with rfl | hx
      · exact .inl e'
      · rcases i3 x hx with h | h
        · exact .inl (by rw [hf.eql _ _ x e']; exact h)
        · exact .inr h
    · have e' : f p y = -1 := by have := hf.r y p; have := hf.anti p y; omega
      rw [cptGo, if_neg e]
      refine ⟨fun c hc => ?_, List.pairwise_cons.2 ⟨fun c hc => (i1 c hc).1, i2⟩, fun x hx => ?_⟩
      · rcases List.mem_cons.1 hc with rfl | hc
        · exact ⟨e', by simp⟩
        · exact ⟨hf.tr _ _ _ e' (i1 c hc).1, by simp [(i1 c hc).2]⟩
      · rcases List.mem_cons.1 hx with rfl | hx
        · exact .inr ⟨x, by simp, hf.refl x⟩
        · rcases i3 x hx with h | ⟨c, hc, h⟩
          · exact .inr ⟨y, by simp, h⟩
          · exact .inr ⟨c, by simp [hc], h⟩
theorem cpt_facts {S : List α} (hs : S.Pairwise (fun a b => f b a ≠ -1)) : (∀ c ∈ cptL f S, c ∈ S) ∧ (cptL f S).Pairwise (fun a b => f a b = -1) ∧ ∀ x ∈ S, ∃ c ∈ cptL f S, f c x = 0 := by
  cases S with
  | nil => exact ⟨fun c hc => hc, List.Pairwise.nil, fun x hx => by simp at hx⟩
  | cons p r =>
    obtain ⟨i1, i2, i3⟩ := cptGo_facts hf r p hs
    refine ⟨fun c hc => ?_, List.pairwise_cons.2 ⟨fun c hc => (i1 c hc).1, i2⟩, fun x hx => ?_⟩
    · rcases List.mem_cons.1 hc with rfl | hc
      · simp
      · simp [(i1 c hc).2]
    · rcases List.mem_cons.1 hx with rfl | hx
      · exact ⟨x, by simp [cptL], hf.refl x⟩
      · rcases i3 x hx with h | ⟨c, hc, h⟩
        · exact ⟨p, by simp [cptL], h⟩
        · exact ⟨c, by simp [cptL, hc], h⟩
theorem rank_cpt {l S : List α} {s : α} (hp : S.Perm l) (hs : S.Pairwise (fun a b => f b a ≠ -1)) : rankF f l s = ((cptL f S).filter fun c => decide (f c s < 0)).length := by
  obtain ⟨h1, h2, h3⟩ := cpt_facts hf hs
  refine rank_reps hf (h2.imp fun h => by omega) (fun x hx => h3 x (hp.mem_iff.2 hx)) fun c hc => ⟨c, hp.mem_iff.1 (h1 c hc), hf.refl c⟩
theorem less_mono {C : List α} {s : α} (hC : C.Pairwise (fun a b => f a b = -1)) {i j : Nat} (hij : i < j) (hj : j < C.length) (h : f C[j] s < 0) : f (C[i]'(by omega)) s < 0 := by
  have h1 := List.pairwise_iff_getElem.1 hC i j (by omega) hj hij
  have h2 := hf.r C[j] s
  have := hf.tr _ _ _ h1 (show f C[j] s = -1 by omega)
  omega
end
theorem filt_upto {α : Type} (p : α → Bool) : ∀ (l : List α) (n : Nat), n ≤ l.length → (∀ i (h : i < l.length), i < n → p l[i] = true) → (∀ i (h : i < l.length), n ≤ i → p l[i] = false) → (l.filter p).length = n
  | [], n, h, _, _ => by simp at h ⊢; omega
  | x :: l, 0, _, _, h2 => by
    rw [List.filter_eq_nil_iff.2 fun a ha => ?_]
    · rfl
    · obtain ⟨i, hi, rfl⟩ := List.getElem_of_mem ha
      rw [h2 i hi (Nat.zero_le _)]; simp
  | x :: l, n + 1, h, h1, h2 => by
    have h0 := h1 0 (by simp) (Nat.succ_pos _)
    rw [List.getElem_cons_zero] at h0
    rw [List.filter_cons, if_pos h0, List.length_cons, filt_upto p l n (by simpa using h) (fun i hi hin => by have := h1 (i + 1) (by simpa using hi) (by omega); simpa using this) (fun i hi hin => by have := h2 (i + 1) (by simpa using hi) (by omega); simpa using this)]
end Go.Proofs.YtgnkloloehlfnaaGreatDoor

namespace Go.Proofs.YtgnkloloehlfnaaGreatDoor
open Go.Shelf Go.RowKit Go.Lib Go.Sort
def sh_lays106_ren : Go.Shelf.Ren := ⟨fun | 106 => 195 | 213 => 198 | 265 => 199 | n => n, fun | 9 => 9 | 3 => 3 | n => n, fun | n => n⟩

theorem sh_lays106 : Go.Proofs.Lays.n106 Tryz.prog sh_lays106_ren := {
  mixed := by kernel_rfl
  f106 := Tryz.func195.trans (congrArg some (by kernel_rfl))
  f213 := Tryz.func198.trans (congrArg some (by kernel_rfl))
  f265 := Tryz.func199.trans (congrArg some (by kernel_rfl))
  t3 := Tryz.underlying3
  a3 := Tryz.isAgg3
  z3 := Tryz.sizeOf3
  v3 := Tryz.zeroValue3
  t9 := Tryz.underlying9
  a9 := Tryz.isAgg9
  z9 := Tryz.sizeOf9
  v9 := Tryz.zeroValue9 }

theorem sh_strings_Compare (a b : ByteArray) (w : World) :
    Calls Tryz.prog 195 #[.string a, .string b] w fun e w' => e = .returned (.int .i64 (Lib.compareBytes a.data.toList b.data.toList)) ∧ w' = w := Any.strings_Compare sh_lays106 a b w

theorem compareBytes_if : ∀ a b : List UInt8, Lib.compareBytes a b = if Op.bytesLess a b then -1 else if a = b then 0 else 1
  | [], [] => rfl
  | [], _ :: _ => rfl
  | _ :: _, [] => rfl
  | x :: a, y :: b => by
    have ih := compareBytes_if a b
    rw [Lib.compareBytes, Op.bytesLess]
    by_cases h1 : x < y
    · have h1' : x.toNat < y.toNat := UInt8.lt_iff_toNat_lt.1 h1
      rw [if_pos h1]
      simp [h1]
    · rw [if_neg h1]
      by_cases h2 : y < x
      · have h2' : y.toNat < x.toNat := UInt8.lt_iff_toNat_lt.1 h2
        have hne : x ≠ y := by rintro rfl; omega
        rw [if_pos h2]
        simp [h1, hne]
      · have h1' := mt UInt8.lt_iff_toNat_lt.2 h1
        have h2' := mt UInt8.lt_iff_toNat_lt.2 h2
        obtain rfl : x = y := UInt8.toNat_inj.1 (by omega)
        rw [if_neg h2, ih]
        simp
theorem Ops.boxE {P : Program} {ro : Option Nat} {n : Nat} {all rest : List Oper} {K : Sl → World → Prop} {s : Sl} {w : World} {d : Nat} {ty : Nat} {pos : String} {af : Array Edge} {x : Operand} {t : Nat} {v : Value} (hx : ev n s x = v)
    (h : ∀ b w', w' = w.alloc (.cells v.cells t) → b = w.heap.size → w'.heap.size = w.heap.size + 1 → Step w w' → w'.heap[b]? = some (.cells v.cells t (0, 0)) → Ops P ro n all rest K (upd s d (.pointer (some ⟨b, 0, none⟩))) w') :
    Ops P ro n all (⟨some d, .box t x, ty, pos, af, none⟩ :: rest) K s w := by
  refine Ops.ofRun (w' := w.alloc (.cells v.cells t)) rfl (by simp [execOp, hx, Instr.box, newVar, newRow]) (h w.heap.size _ rfl rfl (by simp) ⟨(Below.refl _ w).alloc (Nat.le_refl _) _⟩ (World.alloc_heap_new w _))
theorem strings_cmp (a b : ByteArray) (w : World) : Calls Tryz.prog 195 [Value.string a, Value.string b].toArray w fun e w' => e = .returned (.int .i64 (cmpS a b)) ∧ w' = w := by
  have h := sh_strings_Compare a b w
  refine Calls.mono h fun e w' ⟨h1, h2⟩ => ⟨?_, h2⟩
  rw [h1, compareBytes_if, cmpS, ← ByteArray.toList_eq, ← ByteArray.toList_eq]
  have e : (a.toList = b.toList) = (a = b) := propext ⟨toList_inj, fun h => by rw [h]⟩
  simp only [e]
def GdS (x : Slp) : Prop := slipB x = true ∧ SmallS x
def CmpQ (q : Nat) (cf : Slp → Slp → Int) : Prop := ∀ (x y : Slp) (w : World), MxI w → GdS x → GdS y → Calls Tryz.prog q [encSl x, encSl y].toArray w fun e w' => e = .returned (.int .i64 (cf x y)) ∧ Ext w w' ∧ w.drawn ≤ w'.drawn
theorem by2_slip : CmpQ 194 (cmpBy 2) := fun x y w _ _ _ => by
  refine Calls.ofW (by simp) ?_
  (refine jjB (jjC ?_))
  refine Ops.boxE rfl ?_
  intro b1 w1 hw1 hb1 hs1 hS1 hk1
  have hA1 := At.ofBlock hk1
  refine Ops.boxE rfl ?_
  intro b2 w2 hw2 hb2 hs2 hS2 hk2
  have hA2 := At.ofBlock hk2
  (refine jJ (eI rfl) (jz (jjB (jjC (jm (jn rfl ?_))))); refine jN rfl rfl rfl (jm (jn rfl (jN rfl rfl rfl ?_))))
  refine Ops.callR rfl (Enters.h (P := Tryz.prog) (g := 195)) rfl (strings_cmp _ _ _) ?_
  rintro e w3 ⟨rfl, rfl⟩
  refine ⟨_, rfl, ?_⟩
  (refine jJ (eI rfl) (jz (jjF ?_)))
  exact jB rfl rfl ⟨rfl, inferInstance, by rw [hw2, hw1]; exact Nat.le_refl _⟩
theorem by3_slip : CmpQ 196 (cmpBy 3) := fun x y w _ _ _ => by
  refine Calls.ofW (by simp) ?_
  (refine jjB (jjC ?_))
  refine Ops.boxE rfl ?_
  intro b1 w1 hw1 hb1 hs1 hS1 hk1
  have hA1 := At.ofBlock hk1
  refine Ops.boxE rfl ?_
  intro b2 w2 hw2 hb2 hs2 hS2 hk2
  have hA2 := At.ofBlock hk2
  (refine jJ (eI rfl) (jz (jjB (jjC (jm (jn rfl ?_))))); refine jN rfl rfl rfl (jm (jn rfl (jN rfl rfl rfl ?_))))
  refine Ops.callR rfl (Enters.h (P := Tryz.prog) (g := 195)) rfl (strings_cmp _ _ _) ?_
  rintro e w3 ⟨rfl, rfl⟩
  refine ⟨_, rfl, ?_⟩
  (refine jJ (eI rfl) (jz (jjF ?_)))
  exact jB rfl rfl ⟨rfl, inferInstance, by rw [hw2, hw1]; exact Nat.le_refl _⟩
theorem by4_slip : CmpQ 197 (cmpBy 4) := fun x y w _ _ _ => by
  refine Calls.ofW (by simp) ?_
  (refine jjB (jjC ?_))
  refine Ops.boxE rfl ?_
  intro b1 w1 hw1 hb1 hs1 hS1 hk1
  have hA1 := At.ofBlock hk1
  refine Ops.boxE rfl ?_
  intro b2 w2 hw2 hb2 hs2 hS2 hk2
  have hA2 := At.ofBlock hk2
  (refine jJ (eI rfl) (jz (jjB (jjC (jm (jn rfl ?_))))); refine jN rfl rfl rfl (jm (jn rfl (jN rfl rfl rfl ?_))))
  refine Ops.callR rfl (Enters.h (P := Tryz.prog) (g := 195)) rfl (strings_cmp _ _ _) ?_
  rintro e w3 ⟨rfl, rfl⟩
  refine ⟨_, rfl, ?_⟩
  (refine jJ (eI rfl) (jz (jjF ?_)))
  exact jB rfl rfl ⟨rfl, inferInstance, by rw [hw2, hw1]; exact Nat.le_refl _⟩
end Go.Proofs.YtgnkloloehlfnaaGreatDoor
namespace Go.Proofs.YtgnkloloehlfnaaGreatDoor
open Go.RowKit
section rules
variable {P : Program} {ro : Option Nat} {n : Nat} {all rest : List Oper} {K : Sl → World → Prop} {s : Sl} {w : World} {d : Nat} {ty : Nat} {pos : String} {af : Array Edge}
variable {x : Operand} {t : Nat}
theorem Ops.loadOA {b o off : Nat} {cs cs' : List Value} {dd : TypeDesc} {z : Value} {size bytes : Nat} (hc : At w b o cs) (hx : ev n s x = .pointer (some ⟨b, o + off, none⟩)) [ht : TU P t dd] (hs : TypeDesc.isAgg dd = true) [hz : TS P t z size bytes]
    (hl : (cs.drop off).take size = cs') (hn : cs'.length = size) (h : Ops P ro n all rest K (upd s d (.agg cs'.toArray)) w) : Ops P ro n all (⟨some d, .load t x, ty, pos, af, none⟩ :: rest) K s w :=
  Ops.loadA (cs := cs') ⟨fun i v hv => by
    refine (hc.drop off).h i v ?_
    rw [← hl, List.getElem?_take] at hv
    split at hv
    · exact hv
    · cases hv⟩ hx hs hn h
end rules
end Go.Proofs.YtgnkloloehlfnaaGreatDoor

namespace Go.Proofs.YtgnkloloehlfnaaGreatDoor
open Go.RowKit Go.Sort

theorem all_encSl (l : List Slp) : (l.map encSl).all (fun v => v.cells.toList.all (·.oneCell')) = true := by
  rw [List.all_eq_true]
  intro x hx
  obtain ⟨b, _, rfl⟩ := List.mem_map.1 hx
  rfl
theorem Clone_Slip (a : Option Addr) (c : Nat) (l : List Slp) (w : World) (hl : l.length ≤ 1000000) [hrow : RowI w (.slice a l.length c) true 6 (l.map encSl)] :
    Ct Tryz.prog 38 [.slice a l.length c] w fun v w' => ∃ a' c', v = .slice a' l.length c' ∧ OwnL w' w.heap.size 46 true 6 (.slice a' l.length c') (l.map encSl) := by
  refine Ct.ofW (by simp) ?_
  (refine jjB (jjC (jJ (eS rfl) (jz (jjB (jjB ?_))))); refine jjC (jI (eS rfl) ?_))
  refine Ops.eqlNil rfl rfl ?_
  repeat' (first|(apply jJ; exact eS rfl)|refine jz ?_|(refine jjA ?_; (first|refine jjB ?_|refine jjC ?_|refine jjF ?_|refine jjG ?_))|(refine jjA ?_; (refine jjO rfl ?_ ?_ <;> intro _))|refine jB rfl rfl ⟨inferInstance, ?_⟩)
  · obtain rfl : a = none := by cases a with
      | none => rfl
      | some x => cases ‹(some x).isNone = true›
    have e : l = [] := by have := row_none hrow.h; simpa using this
    subst e
    exact ⟨none, 0, rfl, OwnL.nil _ _ _ _ _⟩
  · refine Ops.buildSlice0 ?_
    intro b3 w4 hb3 hs4 hS4 hk4
    have hO4 := OwnL.empty (agg := true) (k := 6) (B := w.heap.size) (by omega) hk4
    (apply jI; exact eS rfl)
    refine Ops.appendL hO4 (by omega) (hrow.h.ext inferInstance) rfl rfl rfl rfl (all_encSl l) ?_ ?_ ?_
    · simp only [List.length_map, List.length_nil]; omega
    · simp only [List.length_map, List.length_nil]; omega
    intro v5 w5 hA hO5 _ _
    rw [List.nil_append] at hO5
    obtain ⟨a5, c5, rfl⟩ := hO5.slice
    rw [List.length_map] at hO5 ⊢
    have hE5 : Ext w w5 := hA.ext inferInstance (Nat.le_refl _)
    have hS5 := hE5.toStep
    (refine jJ (eS rfl) (jz (jjF ?_)); refine jB rfl rfl ⟨inferInstance, ?_⟩)
    exact ⟨a5, c5, rfl, hO5⟩
theorem place_k {w : World} {agg : Bool} {k l c j b o : Nat} {xs : List Value} {x : Value} (h : RowV w agg k (.slice (some ⟨b, o, none⟩) l c) xs) (hj : xs[j]? = some x) : At w b (o + j * k) x.cells.toList := by
  obtain ⟨b', o', e, hA⟩ := h.place' hj
  cases e
  exact hA
set_option maxHeartbeats 4000000 in
theorem Search_slip (q : Nat) [he : Enters Tryz.prog q] (cf : Slp → Slp → Int) (hf : Pre3 cf) (hc : CmpQ q cf)
    (a : Option Addr) (c : Nat) (C : List Slp) (x : Slp) (hgd : ∀ y ∈ C, GdS y) (hgx : GdS x) (w : World) (hl : C.length ≤ 1000000) (hC : C.Pairwise (fun a b => cf a b = -1)) [hmx : MxI w] [hrow : RowI w (.slice a C.length c) true 6 (C.map encSl)] :
    Ct Tryz.prog 42 [.slice a C.length c, encSl x, .func (.func q) #[] #[]] w fun v w' => ∃ b : Bool, v = .tuple #[.int .i64 (((C.filter fun y => decide (cf y x < 0)).length : Nat) : Int), .bool b] := by
  refine Ct.ofW (by simp) ?_
  (refine jjB (jjC ?_))
  (refine jy rfl ?_; intro b4 w_b4 hb_b4 hs_b4 hS_b4 hk_b4; have hA_b4 := At.ofBlock hk_b4)
  (refine jJ (eI rfl) (jJ (eB rfl) (jz (jjB (jjC (jI (eS rfl) ?_))))); refine jh rfl (jJ (eI rfl) (jz (jjB (jjC (jI (eI rfl) ?_))))); refine jJ (eI rfl) (jJ (eI rfl) (jz (jjB (jjD ?_)))))
  refine W.keep0 [(0, .slice a C.length c), (2, .func (.func q) #[] #[]), (4, .pointer (some ⟨b4, 0, none⟩)), (8, .int .i64 (C.length : Int)), (9, .int .i64 ((0 : Nat) : Int)), (10, .int .i64 ((C.length : Nat) : Int))] ⟨eS rfl, rfl, eP rfl, eI rfl, eI rfl, eI rfl, trivial⟩ fun s0 => ?_
  refine W.loop (15 :: 16 :: 17 :: 18 :: 19 :: 20 :: 21 :: 22 :: 23 :: 11 :: 24 :: 25 :: 26 :: 27 :: 28 :: 29 :: 30 :: 31 :: 32 :: 33 :: 9 :: 34 :: 10 :: []) (fun g s' V => ∃ i j : Nat, s' 9 = .int .i64 (i : Int) ∧ s' 10 = .int .i64 (j : Int) ∧ g = j - i ∧ i ≤ j ∧ j ≤ C.length ∧ (∀ t (h : t < C.length), t < i → cf C[t] x < 0) ∧ (∀ t (h : t < C.length), j ≤ t → ¬ cf C[t] x < 0)) C.length ⟨0, C.length, rfl, rfl, rfl, Nat.zero_le _, Nat.le_refl _, fun t h1 h2 => absurd h2 (Nat.not_lt_zero _), fun t h1 h2 => by omega⟩ ?_
  rintro _ sd V hSV ⟨i, j, h9, h10, rfl, hij, hj, hlo, hhi⟩
  refine W.fix (d := 9) h9 (W.fix (d := 10) h10 ?_)
  clear h9 h10
  by_cases hlt : i < j
  rotate_left
  · obtain rfl : i = j := by omega
    have hcnt := filt_upto (fun y => decide (cf y x < 0)) C i hj (fun t h1 h2 => decide_eq_true (hlo t h1 h2)) (fun t h1 h2 => decide_eq_false (hhi t h1 h2))
    rw [hcnt]
    (refine jjB (jjB (jjC (jI (eI rfl) (jI (eI rfl) (jja rfl rfl (by omega) ?_))))); refine jz (jjK rfl (jjE (jjB ?_))))
    refine W.draw (fun w' => Ext V w') ?_
    intro w5 hS5
    rcases Nat.lt_or_ge i C.length with hi | hi
    · have hg : (C.map encSl)[i]? = some (encSl C[i]) := by rw [List.getElem?_map, List.getElem?_eq_getElem hi]; rfl
      obtain ⟨pb, po, rfl, -⟩ := hrow.h.place' hg
      have hAi : At V pb (po + i * 6) (encSl C[i]).cells.toList := place_k (hrow.h.ext inferInstance) hg
      refine jjV [0, 1, 2, 3, 4, 5, 6, 7] (by decide +kernel) hS5.ext ?_
      (((refine jjT rfl (fun _ _ => jI (eI rfl) (jz ⟨rfl, rfl⟩)) (jjT rfl (fun _ _ => jI (eI rfl) (jz ⟨rfl, rfl⟩)) (jjT rfl (fun _ _ => jI (eI rfl) (jz ⟨rfl, rfl⟩)) (jjT rfl (fun _ _ => jjZ rfl rfl (by omega) (jz ⟨rfl, rfl⟩)) (jjT rfl (fun _ _ => jI (eB rfl) (jz ⟨rfl, rfl⟩)) (jjT rfl (fun _ _ => jT rfl rfl rfl (jI (eF rfl) (jz ⟨rfl, rfl⟩))) ?_))))); refine jjT rfl (fun _ _ => jT rfl rfl rfl (jI (eS rfl) (jz ⟨rfl, rfl⟩))) (jjT rfl (fun _ _ => jT rfl rfl rfl (jI (eI rfl) (jz ⟨rfl, rfl⟩))) (jjU ?_)))))
      refine jjV [8] (by decide +kernel) hS5.ext (jjT (v := .pointer (some ⟨pb, po + i * 6, none⟩)) rfl (fun w' q1 => ?_) (jjU ?_)); (refine jT rfl rfl rfl ?_; refine jH i rfl rfl rfl (by omega) ?_; refine jz ?_; exact ⟨rfl, rfl⟩)
      refine jjV [9] (by decide +kernel) hS5.ext (jjT (v := encSl C[i]) rfl (fun w' q1 => ?_) (jjU ?_)); (refine jT rfl rfl rfl ?_; refine Ops.loadOA (off := 0) (hAi.ext q1) rfl rfl rfl rfl ?_; refine jz ?_; exact ⟨rfl, rfl⟩)
      refine jjV [10] (by decide +kernel) hS5.ext (jjT (v := encSl x) rfl (fun w' q1 => ?_) (jjU ?_)); (have := q1.toStep; refine jT rfl rfl rfl (jO rfl rfl rfl rfl (jz ?_)); exact ⟨rfl, rfl⟩)
      (apply jjW 11; (decide +kernel); exact rfl; (exact inferInstance))
      (refine jT rfl rfl rfl ?_)
      refine Ops.callR rfl (Enters.h (P := Tryz.prog) (g := q)) rfl (hc C[i] x _ inferInstance (hgd _ (List.getElem_mem _)) hgx) ?_
      rintro e w6 ⟨rfl, x6, -⟩
      refine ⟨_, rfl, ?_⟩
      have s6 := x6.toStep
      refine jz ?_
      generalize cf C[i] x = z at *
      refine jjV [12, 13, 14, 15] (by decide +kernel) inferInstance ?_
      (((refine jjT rfl (fun _ _ => jT rfl rfl rfl (jb rfl rfl (jz ⟨rfl, rfl⟩))) (jjT rfl (fun _ _ => jK rfl (eB rfl) (jz ⟨rfl, rfl⟩)) (jjT rfl (fun _ _ => jJ (eI rfl) (jz ⟨rfl, rfl⟩)) (jjT rfl (fun _ _ => jJ (eB rfl) (jz ⟨rfl, rfl⟩)) (jjU ?_)))))))
      refine jjX (by decide +kernel) inferInstance ?_
      (refine jjF ?_; refine jC rfl rfl rfl ⟨inferInstance, ?_⟩)
      exact ⟨_, rfl⟩
    · refine jjV [0, 1, 2, 3, 4, 5, 6, 7, 8, 9, 10, 11, 12, 13, 14, 15] (by decide +kernel) hS5.ext ?_
      (((refine jjT rfl (fun _ _ => jI (eI rfl) (jz ⟨rfl, rfl⟩)) (jjT rfl (fun _ _ => jI (eI rfl) (jz ⟨rfl, rfl⟩)) (jjT rfl (fun _ _ => jI (eI rfl) (jz ⟨rfl, rfl⟩)) (jjT rfl (fun _ _ => jja rfl rfl (by omega) (jz ⟨rfl, rfl⟩)) (jjT rfl (fun _ _ => jI (eB rfl) (jz ⟨rfl, rfl⟩)) (jjT rfl (fun _ _ => jU rfl rfl rfl rfl (jz ⟨rfl, rfl⟩)) ?_))))); refine jjT rfl (fun _ _ => jU rfl rfl rfl rfl (jz ⟨rfl, rfl⟩)) (jjT rfl (fun _ _ => jU rfl rfl rfl rfl (jz ⟨rfl, rfl⟩)) (jjT rfl (fun _ _ => jU rfl rfl rfl rfl (jz ⟨rfl, rfl⟩)) (jjT rfl (fun _ _ => jU rfl rfl rfl rfl (jz ⟨rfl, rfl⟩)) (jjT rfl (fun _ _ => jU rfl rfl rfl rfl (jz ⟨rfl, rfl⟩)) (jjT rfl (fun _ _ => jU rfl rfl rfl rfl (jz ⟨rfl, rfl⟩)) ?_))))); refine jjT rfl (fun _ _ => jU rfl rfl rfl rfl (jz ⟨rfl, rfl⟩)) (jjT rfl (fun _ _ => jL rfl (eB rfl) (jz ⟨rfl, rfl⟩)) (jjT rfl (fun _ _ => jJ (eI rfl) (jz ⟨rfl, rfl⟩)) (jjT rfl (fun _ _ => jJ (eB rfl) (jz ⟨rfl, rfl⟩)) (jjU ?_)))))))
      refine jjX (by decide +kernel) inferInstance ?_
      (refine jjF ?_; refine jC rfl rfl rfl ⟨inferInstance, ?_⟩)
      exact ⟨_, rfl⟩
  obtain ⟨h, hh⟩ : ∃ h, h = (i + j) / 2 := ⟨_, rfl⟩
  have hhl : h < C.length := by omega
  (refine jjB (jjB (jjC (jI (eI rfl) (jI (eI rfl) (jjZ rfl rfl (by omega) ?_))))); refine jz (jjJ rfl (jjG (jjD (jjB (jjC ?_))))); refine jI (eI rfl) (jI (eI rfl) (jY rfl rfl (by omega) ?_)))
  refine Ops.convI rfl rfl (wrap64 (by omega) (by omega)) ?_
  skip
  refine Ops.half (a := i + j) rfl (by omega) rfl ?_
  skip
  refine Ops.convI rfl rfl (wrapi (by omega) (by omega)) ?_
  (refine jJ (eI rfl) (jz (jjB ?_)))
  rw [← hh]
  have hg : (C.map encSl)[h]? = some (encSl C[h]) := by rw [List.getElem?_map, List.getElem?_eq_getElem hhl]; rfl
  obtain ⟨pb, po, rfl, -⟩ := hrow.h.place' hg
  have hAh : At V pb (po + h * 6) (encSl C[h]).cells.toList := place_k (hrow.h.ext inferInstance) hg
  refine W.draw (fun w' => Ext V w') ?_
  intro w5 hS5
  refine jjV [0, 1, 2] (by decide +kernel) hS5.ext ?_
  (((refine jjT rfl (fun _ _ => jI (eF rfl) (jz ⟨rfl, rfl⟩)) (jjT rfl (fun _ _ => jI (eS rfl) (jz ⟨rfl, rfl⟩)) (jjT rfl (fun _ _ => jI (eI rfl) (jz ⟨rfl, rfl⟩)) (jjU ?_))))))
  refine jjV [3] (by decide +kernel) hS5.ext (jjT (v := .pointer (some ⟨pb, po + h * 6, none⟩)) rfl (fun w' q1 => ?_) (jjU ?_)); (refine jH h rfl rfl rfl (by omega) ?_; refine jz ?_; exact ⟨rfl, rfl⟩)
  refine jjV [4] (by decide +kernel) hS5.ext (jjT (v := encSl C[h]) rfl (fun w' q1 => ?_) (jjU ?_)); (refine Ops.loadOA (off := 0) (hAh.ext q1) rfl rfl rfl rfl ?_; refine jz ?_; exact ⟨rfl, rfl⟩)
  refine jjV [5] (by decide +kernel) hS5.ext (jjT (v := encSl x) rfl (fun w' q1 => ?_) (jjU ?_)); (have := q1.toStep; refine jO rfl rfl rfl rfl (jz ?_); exact ⟨rfl, rfl⟩)
  (apply jjW 6; (decide +kernel); exact rfl; (exact inferInstance))
  refine Ops.callR rfl (Enters.h (P := Tryz.prog) (g := q)) rfl (hc C[h] x _ inferInstance (hgd _ (List.getElem_mem _)) hgx) ?_
  rintro e w6 ⟨rfl, x6, -⟩
  refine ⟨_, rfl, ?_⟩
  have s6 := x6.toStep
  refine jz ?_
  have hmn := fun t (ht : t < h) => less_mono hf hC (s := x) ht hhl
  have hup := fun t (ht : t < C.length) (hht : h < t) => less_mono hf hC (s := x) hht ht
  generalize hz : cf C[h] x = z at *
  by_cases hz0 : z < 0
  · refine jjV [7] (by decide +kernel) inferInstance ?_
    (((refine jjT rfl (fun _ _ => jjZ rfl rfl (by omega) (jz ⟨rfl, rfl⟩)) (jjU ?_))))
    refine jjX (by decide +kernel) inferInstance ?_
    (refine jjJ rfl (jjC (jI (eI rfl) (jY rfl rfl (by omega) (jJ (eI rfl) (jz ?_))))))
    refine ⟨rfl, by (((iterate 23 refine Same.upd rfl ?_); exact Same.ovN)), j - (h + 1), by omega, inferInstance, h + 1, j, congrArg (Value.int .i64) (by omega), rfl, rfl, by omega, hj, fun t h1 h2 => ?_, hhi⟩
    rcases Nat.lt_or_ge t h with c1 | c1
    · exact hmn t c1 hz0
    · obtain rfl : t = h := by omega
      rw [hz]; exact hz0
  · refine jjV [7] (by decide +kernel) inferInstance ?_
    (((refine jjT rfl (fun _ _ => jja rfl rfl (by omega) (jz ⟨rfl, rfl⟩)) (jjU ?_))))
    refine jjX (by decide +kernel) inferInstance ?_
    (refine jjK rfl (jjC (jI (eI rfl) (jJ (eI rfl) (jz ?_)))))
    refine ⟨rfl, by (((iterate 22 refine Same.upd rfl ?_); exact Same.ovN)), h - i, by omega, inferInstance, i, h, rfl, rfl, rfl, by omega, by omega, hlo, fun t h1 h2 h3 => ?_⟩
    rcases Nat.lt_or_ge h t with c1 | c1
    · exact hz0 (hz ▸ hup t h1 c1 h3)
    · obtain rfl : t = h := by omega
      exact hz0 (hz ▸ h3)
end Go.Proofs.YtgnkloloehlfnaaGreatDoor
namespace Go.Proofs.YtgnkloloehlfnaaGreatDoor
open Go.RowKit

theorem join_w {P : Program} {ro : Option Nat} {n : Nat} {X : Ctx} {ds : List Deferred} {c : Code} {G : Prop} {α : Type} (D : List Nat) (sO : Sl) (L : α → List (Nat × Value)) (I : α → World → Prop) (h1 : (∀ x s w', I x w' → Same D sO s → AllEq s (L x) → W P ro n c X s ds w') → G) (h2 : ∀ x s0 w', I x w' → Same D sO (upds s0 (L x)) → W P ro n c X (upds s0 (L x)) ds w') : G :=
  h1 fun x s w' hI hD hA => by have := h2 x s w' hI (by rw [upds_id hA]; exact hD); rwa [upds_id hA] at this
section rules
variable {P : Program} {ro : Option Nat} {n : Nat} {all rest : List Oper} {K : Sl → World → Prop} {s : Sl} {w : World} {d t t' : Nat} {ty : Nat} {pos : String} {af : Array Edge} {x y : Operand}
end rules

structure PartsOk (nl : Nat) (ss : List Shr) (xs : List Sht) : Prop where
  few : nl ≤ 1000000
  at_ : ∀ i (h : i < ss.length), 0 ≤ ss[i].1 ∧ ss[i].1 ≤ ss[i].2.1 ∧ ss[i].2.1 < (nl : Int)
  len : xs.length = ss.length
  sh : ∀ x ∈ xs, x.2.2.2.length ≤ 1000000
def sizeF (s : Shr) : Int := s.2.1 - s.1 + 1
def tornB (s : Shr) (x : Sht) : Bool := x.1 && decide (¬ (x.2.2.2.length : Int) = sizeF s)
section
variable (bd : Nat) (v0 v1 v4 v5 : Value) (sa : Option Addr) (sc : Nat) (ss : List Shr) (xa : Option Addr) (xc : Nat) (xs : List Sht) (w : World)
  [hd : At w bd 0 [v0, v1, .slice sa ss.length sc, .slice xa xs.length xc, v4, v5]] [hss : RowI w (.slice sa ss.length sc) true 4 (ss.map encShr)]
include hd hss in
set_option maxHeartbeats 4000000 in
theorem size_hand {nl : Nat} (hp : PartsOk nl ss xs) (i : Nat) (hi : i < ss.length) : Ct Tryz.prog 140 [.pointer (some ⟨bd, 0, none⟩), .int .i64 (i : Int)] w fun v _ => v = .int .i64 (sizeF ss[i]) := by
  have h1 := hp.at_ i hi
  have h2 := hp.few
  have gs : (ss.map encShr)[i]? = some (encShr ss[i]) := by rw [List.getElem?_map, List.getElem?_eq_getElem hi]; rfl
  obtain ⟨pb, po, rfl, -⟩ := hss.h.place' gs
  have A1 : ∀ V, Ext w V → At V pb (po + i * 4) [.int .i64 ss[i].1, .int .i64 ss[i].2.1, .int .i64 ss[i].2.2.1, .int .i64 ss[i].2.2.2] := fun V hE => place_k (hss.h.ext hE) gs
  refine Ct.ofW (by simp) ?_
  (refine jjB (jjC (jJ (eI rfl) (jz (jjB ?_)))))
  refine W.draw (fun w' => Ext w w') ?_
  intro w1 hS1
  refine jjV [0, 1, 2, 3, 4, 5] (by decide +kernel) hS1.ext ?_
  (((refine jjT rfl (fun _ _ => jI (eP rfl) (jz ⟨rfl, rfl⟩)) ?_; apply jjT; exact rfl; rintro w' hq; have := hq.toStep; refine jw rfl (jz ?_); exact ⟨rfl, rfl⟩; apply jjT; exact rfl; rintro w' hq; have := hq.toStep; refine jm (jn rfl (jz ?_)); exact ⟨rfl, rfl⟩; apply jjT; exact rfl; rintro w' hq; have := hq.toStep; refine jm (jn rfl (jz ?_)); exact ⟨rfl, rfl⟩; apply jjT; exact rfl; rintro w' hq; have := hq.toStep; refine jN rfl rfl rfl (jz ?_); exact ⟨rfl, rfl⟩; refine jjT rfl (fun _ _ => jI (eI rfl) (jz ⟨rfl, rfl⟩)) (jjU ?_))))
  refine jjV [6] (by decide +kernel) hS1.ext (jjT (v := .pointer (some ⟨pb, po + i * 4, none⟩)) rfl (fun w' q1 => ?_) (jjU ?_)); (refine jH i rfl rfl rfl (by omega) ?_; refine jz ?_; exact ⟨rfl, rfl⟩)
  refine jjV [7] (by decide +kernel) hS1.ext ?_
  (((apply jjT; exact rfl; rintro w' hq; have := hq.toStep; refine jm (jn rfl (jz ?_)); exact ⟨rfl, rfl⟩; refine jjU ?_)))
  refine jjV [8] (by decide +kernel) hS1.ext (jjT (v := .int .i64 ss[i].2.1) rfl (fun w' q1 => ?_) (jjU ?_)); (refine jR ((A1 _ q1).get (i := 1) rfl) rfl rfl ?_; refine jz ?_; exact ⟨rfl, rfl⟩)
  refine jjV [9, 10, 11, 12, 13, 14] (by decide +kernel) hS1.ext ?_
  (((refine jjT rfl (fun _ _ => jI (eP rfl) (jz ⟨rfl, rfl⟩)) ?_; apply jjT; exact rfl; rintro w' hq; have := hq.toStep; refine jw rfl (jz ?_); exact ⟨rfl, rfl⟩; apply jjT; exact rfl; rintro w' hq; have := hq.toStep; refine jm (jn rfl (jz ?_)); exact ⟨rfl, rfl⟩; apply jjT; exact rfl; rintro w' hq; have := hq.toStep; refine jm (jn rfl (jz ?_)); exact ⟨rfl, rfl⟩; apply jjT; exact rfl; rintro w' hq; have := hq.toStep; refine jN rfl rfl rfl (jz ?_); exact ⟨rfl, rfl⟩; refine jjT rfl (fun _ _ => jI (eI rfl) (jz ⟨rfl, rfl⟩)) (jjU ?_))))
  refine jjV [15] (by decide +kernel) hS1.ext (jjT (v := .pointer (some ⟨pb, po + i * 4, none⟩)) rfl (fun w' q1 => ?_) (jjU ?_)); (refine jH i rfl rfl rfl (by omega) ?_; refine jz ?_; exact ⟨rfl, rfl⟩)
  refine jjV [16] (by decide +kernel) hS1.ext ?_
  (((apply jjT; exact rfl; rintro w' hq; have := hq.toStep; refine jm (jn rfl (jz ?_)); exact ⟨rfl, rfl⟩; refine jjU ?_)))
  refine jjV [17] (by decide +kernel) hS1.ext (jjT (v := .int .i64 ss[i].1) rfl (fun w' q1 => ?_) (jjU ?_)); (refine jR ((A1 _ q1).get (i := 0) rfl) rfl rfl ?_; refine jz ?_; exact ⟨rfl, rfl⟩)
  refine jjV [18, 19, 20] (by decide +kernel) hS1.ext ?_
  (((refine jjT rfl (fun _ _ => jZ rfl rfl (by omega) (jz ⟨rfl, rfl⟩)) (jjT rfl (fun _ _ => jY rfl rfl (by omega) (jz ⟨rfl, rfl⟩)) (jjT rfl (fun _ _ => jJ (eI rfl) (jz ⟨rfl, rfl⟩)) (jjU ?_))))))
  refine jjX (by decide +kernel) hS1.ext ?_
  (refine jjF ?_; refine jB rfl rfl ⟨inferInstance, ?_⟩)
  exact rfl
variable [hxs : RowI w (.slice xa xs.length xc) true 2 (xs.map encSht)]
include hd hss hxs in
set_option maxHeartbeats 4000000 in
theorem torn_hand {nl : Nat} (hp : PartsOk nl ss xs) (i : Nat) (hi : i < ss.length) (hx : i < xs.length) : Ct Tryz.prog 105 [.pointer (some ⟨bd, 0, none⟩), .int .i64 (i : Int)] w fun v _ => v = .bool (tornB ss[i] xs[i]) := by
  have h3 := hp.sh xs[i] (List.getElem_mem hx)
  have gs : (xs.map encSht)[i]? = some (encSht xs[i]) := by rw [List.getElem?_map, List.getElem?_eq_getElem hx]; rfl
  obtain ⟨pb, po, rfl, -⟩ := hxs.h.place' gs
  obtain ⟨B, hB⟩ : ∃ B, xs[i].1 = B := ⟨_, rfl⟩
  have A1 : ∀ V, Ext w V → At V pb (po + i * 2) [.bool B, .slice xs[i].2.1 xs[i].2.2.2.length xs[i].2.2.1] := fun V hE => by
    have := place_k (hxs.h.ext hE) gs
    rw [← hB]; exact this
  rw [tornB, hB]
  refine Ct.ofW (by simp) ?_
  (refine jjB (jjC (jJ (eB rfl) (jz (jjB ?_)))))
  refine W.draw (fun w' => Ext w w') ?_
  intro w1 hS1
  refine jjV [0, 1, 2, 3, 4, 5] (by decide +kernel) hS1.ext ?_
  (((refine jjT rfl (fun _ _ => jI (eP rfl) (jz ⟨rfl, rfl⟩)) ?_; apply jjT; exact rfl; rintro w' hq; have := hq.toStep; refine jw rfl (jz ?_); exact ⟨rfl, rfl⟩; apply jjT; exact rfl; rintro w' hq; have := hq.toStep; refine jm (jn rfl (jz ?_)); exact ⟨rfl, rfl⟩; apply jjT; exact rfl; rintro w' hq; have := hq.toStep; refine jm (jn rfl (jz ?_)); exact ⟨rfl, rfl⟩; apply jjT; exact rfl; rintro w' hq; have := hq.toStep; refine jN rfl rfl rfl (jz ?_); exact ⟨rfl, rfl⟩; refine jjT rfl (fun _ _ => jI (eI rfl) (jz ⟨rfl, rfl⟩)) (jjU ?_))))
  refine jjV [6] (by decide +kernel) hS1.ext (jjT (v := .pointer (some ⟨pb, po + i * 2, none⟩)) rfl (fun w' q1 => ?_) (jjU ?_)); (refine jH i rfl rfl rfl (by omega) ?_; refine jz ?_; exact ⟨rfl, rfl⟩)
  refine jjV [7] (by decide +kernel) hS1.ext ?_
  (((apply jjT; exact rfl; rintro w' hq; have := hq.toStep; refine jm (jn rfl (jz ?_)); exact ⟨rfl, rfl⟩; refine jjU ?_)))
  refine jjV [8] (by decide +kernel) hS1.ext (jjT (v := .bool B) rfl (fun w' q1 => ?_) (jjU ?_)); (refine jR ((A1 _ q1).get (i := 0) rfl) rfl rfl ?_; refine jz ?_; exact ⟨rfl, rfl⟩)
  cases B with
  | false =>
    refine jjV [9, 10, 11, 12, 13, 14, 15, 16, 17, 18, 19, 20, 21, 22, 23, 24, 25] (by decide +kernel) hS1.ext ?_
    (((refine jjT rfl (fun _ _ => jI (eB rfl) (jz ⟨rfl, rfl⟩)) (jjT rfl (fun _ _ => jU rfl rfl rfl rfl (jz ⟨rfl, rfl⟩)) (jjT rfl (fun _ _ => jU rfl rfl rfl rfl (jz ⟨rfl, rfl⟩)) (jjT rfl (fun _ _ => jU rfl rfl rfl rfl (jz ⟨rfl, rfl⟩)) (jjT rfl (fun _ _ => jU rfl rfl rfl rfl (jz ⟨rfl, rfl⟩)) (jjT rfl (fun _ _ => jU rfl rfl rfl rfl (jz ⟨rfl, rfl⟩)) ?_))))); refine jjT rfl (fun _ _ => jU rfl rfl rfl rfl (jz ⟨rfl, rfl⟩)) (jjT rfl (fun _ _ => jU rfl rfl rfl rfl (jz ⟨rfl, rfl⟩)) (jjT rfl (fun _ _ => jU rfl rfl rfl rfl (jz ⟨rfl, rfl⟩)) (jjT rfl (fun _ _ => jU rfl rfl rfl rfl (jz ⟨rfl, rfl⟩)) (jjT rfl (fun _ _ => jU rfl rfl rfl rfl (jz ⟨rfl, rfl⟩)) (jjT rfl (fun _ _ => jU rfl rfl rfl rfl (jz ⟨rfl, rfl⟩)) ?_))))); refine jjT rfl (fun _ _ => jU rfl rfl rfl rfl (jz ⟨rfl, rfl⟩)) (jjT rfl (fun _ _ => jU rfl rfl rfl rfl (jz ⟨rfl, rfl⟩)) (jjT rfl (fun _ _ => jU rfl rfl rfl rfl (jz ⟨rfl, rfl⟩)) (jjT rfl (fun _ _ => jL rfl (eB rfl) (jz ⟨rfl, rfl⟩)) (jjT rfl (fun _ _ => jJ (eB rfl) (jz ⟨rfl, rfl⟩)) (jjU ?_))))))))
    refine jjX (by decide +kernel) hS1.ext ?_
    (refine jjF ?_; refine jB rfl rfl ⟨inferInstance, ?_⟩)
    exact rfl
  | true =>
    refine jjV [9, 10, 11, 12, 13, 14, 15] (by decide +kernel) hS1.ext ?_
    (((refine jjT rfl (fun _ _ => jI (eB rfl) (jz ⟨rfl, rfl⟩)) (jjT rfl (fun _ _ => jT rfl rfl rfl (jI (eP rfl) (jz ⟨rfl, rfl⟩))) ?_); apply jjT; exact rfl; rintro w' hq; have := hq.toStep; refine jT rfl rfl rfl (jw rfl (jz ?_)); exact ⟨rfl, rfl⟩; apply jjT; exact rfl; rintro w' hq; have := hq.toStep; refine jT rfl rfl rfl (jm (jn rfl (jz ?_))); exact ⟨rfl, rfl⟩; apply jjT; exact rfl; rintro w' hq; have := hq.toStep; refine jT rfl rfl rfl (jm (jn rfl (jz ?_))); exact ⟨rfl, rfl⟩; apply jjT; exact rfl; rintro w' hq; have := hq.toStep; refine jT rfl rfl rfl (jN rfl rfl rfl (jz ?_)); exact ⟨rfl, rfl⟩; refine jjT rfl (fun _ _ => jT rfl rfl rfl (jI (eI rfl) (jz ⟨rfl, rfl⟩))) (jjU ?_))))
    refine jjV [16] (by decide +kernel) hS1.ext (jjT (v := .pointer (some ⟨pb, po + i * 2, none⟩)) rfl (fun w' q1 => ?_) (jjU ?_)); (refine jT rfl rfl rfl ?_; refine jH i rfl rfl rfl (by omega) ?_; refine jz ?_; exact ⟨rfl, rfl⟩)
    refine jjV [17] (by decide +kernel) hS1.ext ?_
    (((apply jjT; exact rfl; rintro w' hq; have := hq.toStep; refine jT rfl rfl rfl (jm (jn rfl (jz ?_))); exact ⟨rfl, rfl⟩; refine jjU ?_)))
    refine jjV [18] (by decide +kernel) hS1.ext (jjT (v := .slice xs[i].2.1 xs[i].2.2.2.length xs[i].2.2.1) rfl (fun w' q1 => ?_) (jjU ?_)); (refine jT rfl rfl rfl ?_; refine jR ((A1 _ q1).get (i := 1) rfl) rfl rfl ?_; refine jz ?_; exact ⟨rfl, rfl⟩)
    refine jjV [19, 20, 21] (by decide +kernel) hS1.ext ?_
    (((refine jjT rfl (fun _ _ => jT rfl rfl rfl (jh rfl (jz ⟨rfl, rfl⟩))) (jjT rfl (fun _ _ => jT rfl rfl rfl (jI (eP rfl) (jz ⟨rfl, rfl⟩))) (jjT rfl (fun _ _ => jT rfl rfl rfl (jI (eI rfl) (jz ⟨rfl, rfl⟩))) (jjU ?_))))))
    (apply jjW 22; (decide +kernel); exact rfl; (exact hS1.ext))
    refine jT rfl rfl rfl ?_
    refine jjQ (size_hand bd v0 v1 v4 v5 sa sc ss (some ⟨pb, po, none⟩) xc xs _ hp i hi) rfl rfl ?_
    rintro _ w2 hS2 rfl
    refine jz ?_
    have hE2 : Ext w w2 := hS1.ext.trans hS2.ext
    refine jjV [23] (by decide +kernel) hE2 (jjT (v := .bool (decide (¬ (xs[i].2.2.2.length : Int) = sizeF ss[i]))) rfl (fun w' q1 => ?_) (jjU ?_)); (refine jT rfl rfl rfl (jc rfl rfl (jz ?_)); exact ⟨rfl, rfl⟩)
    refine jjV [24, 25] (by decide +kernel) hE2 ?_
    (((refine jjT rfl (fun _ _ => jK rfl (eB rfl) (jz ⟨rfl, rfl⟩)) (jjT rfl (fun _ _ => jJ (eB rfl) (jz ⟨rfl, rfl⟩)) (jjU ?_)))))
    refine jjX (by decide +kernel) hE2 ?_
    (refine jjF ?_; refine jB rfl rfl ⟨inferInstance, ?_⟩)
    exact congrArg Value.bool (by simp)
end

structure RoundOk (nl : Nat) (hs : List Hp) (ss : List Shr) (xs : List Sht) : Prop where
  few : nl ≤ 1000000
  h1 : 1 ≤ hs.length ∧ hs.length ≤ 4
  s1 : ss.length ≤ 8
  x1 : xs.length = ss.length
  hp : ∀ i (h : i < hs.length), 0 ≤ hs[i].1 ∧ hs[i].1 ≤ 9999 ∧ 0 ≤ hs[i].2.1 ∧ hs[i].2.1 ≤ 30 ∧ 1 ≤ hs[i].2.2 ∧ hs[i].2.2 ≤ 20
  hd : ∀ i (h : i < hs.length) k (hk : k < i), (hs[k]'(by omega)).1 ≠ hs[i].1
  sp : ∀ i (h : i < ss.length), 0 ≤ ss[i].1 ∧ ss[i].1 ≤ ss[i].2.1 ∧ ss[i].2.1 < (nl : Int) ∧ 0 ≤ ss[i].2.2.1 ∧ ss[i].2.2.1 < (hs.length : Int) ∧ 0 ≤ ss[i].2.2.2 ∧ ss[i].2.2.2 ≤ 400
  so : ∀ i (h : i < ss.length) (_ : 0 < i), (ss[i - 1]'(by omega)).1 < ss[i].1 ∧ (ss[i - 1]'(by omega)).2.1 < ss[i].2.1
  so2 : ∀ i (h : i < ss.length) (_ : 1 < i), (ss[i - 2]'(by omega)).2.1 < ss[i].1
  sh : ∀ i (h : i < xs.length), xs[i].2.2.2.length ≤ 30 ∧ (xs[i].1 = true ∨ xs[i].2.2.2.length = 0) ∧ ∀ n (hn : n < xs[i].2.2.2.length), lineB xs[i].2.2.2[n].2.2 = true
theorem RoundOk.parts {nl : Nat} {hs : List Hp} {ss : List Shr} {xs : List Sht} (h : RoundOk nl hs ss xs) : PartsOk nl ss xs :=
  ⟨h.few, fun i hi => ⟨(h.sp i hi).1, (h.sp i hi).2.1, (h.sp i hi).2.2.1⟩, h.x1, fun x hx => by
    obtain ⟨i, hi, rfl⟩ := List.mem_iff_getElem.1 hx
    have := (h.sh i hi).1
    omega⟩

def isTorn (ss : List Shr) (xs : List Sht) (i : Nat) : Bool := tornB (ss.getD i noP) (xs.getD i (false, none, 0, []))
def tornL (ss : List Shr) (xs : List Sht) (n : Nat) : List Nat := (List.range n).filter (isTorn ss xs)
abbrev natV (n : Nat) : Value := .int .i64 (n : Int)
theorem tornL_succ (ss : List Shr) (xs : List Sht) (n : Nat) : tornL ss xs (n + 1) = tornL ss xs n ++ if isTorn ss xs n then [n] else [] := by
  rw [tornL, List.range_succ, List.filter_append, ← tornL]
  congr 1
  by_cases h : isTorn ss xs n = true
  · rw [if_pos h, List.filter_cons_of_pos h]; rfl
  · rw [if_neg h, List.filter_cons_of_neg h]; rfl
theorem tornL_len (ss : List Shr) (xs : List Sht) (n : Nat) : (tornL ss xs n).length ≤ n := by
  have := List.length_filter_le (isTorn ss xs) (List.range n)
  rwa [List.length_range] at this
section
variable (bd : Nat) (v0 v1 v4 v5 : Value) (sa : Option Addr) (sc : Nat) (ss : List Shr) (xa : Option Addr) (xc : Nat) (xs : List Sht) (w : World)
  [hd : At w bd 0 [v0, v1, .slice sa ss.length sc, .slice xa xs.length xc, v4, v5]] [hss : RowI w (.slice sa ss.length sc) true 4 (ss.map encShr)] [hxs : RowI w (.slice xa xs.length xc) true 2 (xs.map encSht)]
include hd hss hxs
set_option maxHeartbeats 4000000 in
theorem allTorn_hand {nl : Nat} (hp : PartsOk nl ss xs) (hl : ss.length ≤ 1000) : Ct Tryz.prog 62 [.pointer (some ⟨bd, 0, none⟩)] w fun v w' => ∃ a c, v = .slice a (tornL ss xs ss.length).length c ∧ OwnL w' w.heap.size 3 false 1 (.slice a (tornL ss xs ss.length).length c) ((tornL ss xs ss.length).map natV) := by
  refine Ct.ofW (by simp) ?_
  (refine jjB (jjC (jJ (eS rfl) (jz (jjB (jjC ?_))))); refine jJ (eS rfl) (jz (jjB (jjB (jjC (jI (eP rfl) ?_))))); refine jw rfl (jm (jn rfl (jm (jn rfl (jN rfl rfl rfl ?_))))); refine jh rfl (jI (eI rfl) (jz (jjD ?_))))
  refine W.keep0 [(0, .pointer (some ⟨bd, 0, none⟩)), (3, .slice none 0 0), (10, .int .i64 (ss.length : Int)), (11, .int .i64 ((0 : Nat) : Int))] ⟨eP rfl, eS rfl, eI rfl, eI rfl, trivial⟩ fun s0 => ?_
  refine W.loopG (12 :: 13 :: 4 :: 14 :: 15 :: 16 :: 17 :: 18 :: 19 :: 20 :: 3 :: 21 :: 11 :: []) (fun g s' V => ∃ (k : Nat) (lv : Value), s' 11 = .int .i64 (k : Int) ∧ s' 3 = lv ∧ g = ss.length - k ∧ k ≤ ss.length ∧ Ext w V ∧ OwnL V w.heap.size 3 false 1 lv ((tornL ss xs k).map natV)) ss.length ⟨0, _, rfl, rfl, rfl, Nat.zero_le _, .refl _, OwnL.nil _ _ _ _ _⟩ ?_
  rintro _ sd V ⟨k, lv, h11, h3, rfl, hk, hEV, hO⟩
  obtain ⟨la, lc, rfl⟩ := hO.slice
  rw [List.length_map] at hO h3
  refine W.fix h11 (W.fix (d := 3) h3 ?_)
  clear h11 h3
  have hEV' := hEV.toStep
  have hll := tornL_len ss xs k
  by_cases hk1 : k < ss.length
  rotate_left
  · obtain rfl : k = ss.length := by omega
    (refine jjB (jjC (jja rfl rfl (by omega) (jz (jjB (jjK rfl ?_))))); refine jjE (jjB (jjC (jI (eS rfl) (jJ (eS rfl) (jz ?_))))); refine jjF ?_; refine jB rfl rfl ⟨inferInstance, ?_⟩)
    exact ⟨la, lc, rfl, hO⟩
  have hx1 : k < xs.length := by rw [hp.len]; exact hk1
  obtain ⟨B, hB⟩ : ∃ B, isTorn ss xs k = B := ⟨_, rfl⟩
  have hB' : tornB ss[k] xs[k] = B := by
    rw [← hB, isTorn, List.getD_eq_getElem?_getD, List.getD_eq_getElem?_getD, List.getElem?_eq_getElem hk1, List.getElem?_eq_getElem hx1]; rfl
  have hst := tornL_succ ss xs k
  rw [hB] at hst
  (refine jjB (jjC (jjZ rfl rfl (by omega) (jz (jjB (jjJ rfl ?_))))); refine jjG (jjB (jjD (jjB (jjC (jI (eI rfl) ?_))))); refine jJ (eI rfl) (jz (jjB (jjC (jI (eP rfl) (jI (eI rfl) ?_))))))
  refine jjQ ((torn_hand bd v0 v1 v4 v5 sa sc ss xa xc xs _ hp k hk1 hx1).mono fun v _ _ h => h.trans (by rw [hB'])) rfl rfl ?_
  rintro _ w2 hS2 rfl
  cases B with
  | false =>
    rw [if_neg (by decide), List.append_nil] at hst
    (refine jz (jjK rfl (jjG (jjC (jY rfl rfl (by omega) (jI (eI rfl) ?_))))); refine jz ?_)
    exact ⟨rfl, by (((iterate 10 refine Same.upd rfl ?_); exact Same.ovN)), ss.length - (k + 1), by omega, k + 1, _, congrArg (Value.int .i64) (by omega), rfl, rfl, by omega, hEV.trans hS2.ext, by rw [hst]; exact hO.ext hS2.ext⟩
  | true =>
    rw [if_pos rfl] at hst
    (refine jz (jjJ rfl (jjC (jI (eS rfl) (jI (eI rfl) ?_)))))
    (refine jjP (v := .int _ _) rfl (by exact rfl) (by exact rfl) (by exact rfl) (by exact rfl) ?_; intro b19 w_b19 hb_b19 hs_b19 hS_b19 hk_b19; have hR_b19 := RowV.one (agg := false) (k := 1) rfl hk_b19)
    have hE19 : Ext V w_b19 := hS2.ext.trans hS_b19.ext
    refine Ops.appendL (hO.ext hE19) (by have := hE19.size; have := hEV.size; omega) hR_b19 rfl rfl rfl rfl rfl ?_ ?_ ?_
    · rw [List.length_map]; simp only [List.length_cons, List.length_nil]; omega
    · rw [List.length_map]; simp only [List.length_cons, List.length_nil]; omega
    intro v6 w6 hA6 hO6 _ _
    (refine jJ rfl (jz (jjC (jY rfl rfl (by omega) (jI (eI rfl) (jz ?_))))))
    refine ⟨rfl, by (((iterate 15 refine Same.upd rfl ?_); exact Same.ovN)), ss.length - (k + 1), by omega, k + 1, v6, congrArg (Value.int .i64) (by omega), rfl, rfl, by omega, hA6.ext (hEV.trans hE19) (Nat.le_refl _), ?_⟩
    rw [hst, List.map_append]
    exact hO6
end

theorem int_fit (l : List Int) : ∀ x ∈ l.map intV, fitsV false 1 x = true := fun x hx => by obtain ⟨y, _, rfl⟩ := List.mem_map.1 hx; rfl
theorem int_one {l : List Value} {m : List Int} (h : ∀ v ∈ l, v ∈ m.map intV) : ∀ v ∈ l, v.oneCell' = true := fun v hv => by obtain ⟨y, _, rfl⟩ := List.mem_map.1 (h v hv); rfl

theorem Index_int (a : Option Addr) (c : Nat) (l : List Int) (x : Int) (w : World) (hl : l.length ≤ 1000000) [hrow : RowI w (.slice a l.length c) false 1 (l.map intV)] {i : Nat} (hi : l[i]? = some x) (hfirst : ∀ (j : Nat), j < i → l[j]? ≠ some x) :
    Ct Tryz.prog 45 [.slice a l.length c, .int .i64 x] w fun v _ => v = .int .i64 (i : Int) := by
  have hil := (List.getElem?_eq_some_iff.1 hi).1
  refine Ct.ofW (by simp) ?_
  (refine jjB (jjC (jJ (eI rfl) (jz (jjB (jjB ?_))))); refine jjC (jI (eS rfl) (jh rfl (jI (eI rfl) (jz (jjD ?_))))))
  refine W.loop (9 :: 10 :: 5 :: 11 :: 12 :: 13 :: 14 :: 15 :: 16 :: 17 :: 4 :: 18 :: 8 :: []) (fun g s' _ => ∃ j : Nat, s' 8 = .int .i64 ((j : Nat) : Int) ∧ g = l.length - j ∧ j ≤ i) l.length ⟨0, rfl, rfl, Nat.zero_le _⟩ ?_
  rintro _ sd w1 hS1 ⟨j, h8, rfl, hj⟩
  refine W.fix h8 ?_
  clear h8
  have hjl : j < l.length := by omega
  (refine jjB (jjC (jjZ rfl rfl (by omega) (jz (jjB (jjJ rfl ?_))))); refine jjG (jjB (jjD (jjB (jjC (jI (eI rfl) ?_))))); refine jJ (eI rfl) (jz (jjB (jjC (jI (eI rfl) (jI (eS rfl) ?_))))); refine jI (eI rfl) ?_; refine jF rfl rfl rfl (map_get (by omega)) ?_; intro _ _ _; refine jQ rfl rfl (jb rfl rfl (jz ?_)))
  repeat' (first|((first|apply jI|apply jJ); exact eI rfl)|(refine jW (jY rfl rfl (by omega) ?_))|refine jz ?_|(refine jjA ?_; (first|refine jjB ?_|refine jjC ?_|refine jjF ?_|refine jjG ?_))|(refine jjA ?_; (refine jjN rfl ?_ ?_ <;> intro _))|refine jB rfl rfl ⟨inferInstance, ?_⟩)
  · have he : x = l[j] := by assumption
    have : j = i := by
      rcases Nat.lt_or_ge j i with h | h
      · exact absurd (by rw [List.getElem?_eq_getElem hjl, he]) (hfirst j h)
      · omega
    subst this
    exact rfl
  · have he : ¬ x = l[j] := by assumption
    have : j ≠ i := by
      intro e
      subst e
      rw [List.getElem?_eq_getElem hjl] at hi
      exact he (Option.some.inj hi).symm
    exact ⟨rfl, by (((iterate 12 refine Same.upd rfl ?_); exact Same.ovN)), l.length - (j + 1), by omega, inferInstance, j + 1, congrArg (Value.int .i64) (by omega), rfl, by omega⟩

set_option maxHeartbeats 1000000 in
theorem Delete_int (g n c i : Nat) (l : List Int) (w : World) {B : Nat} (hO : OwnL w B 3 false 1 (.slice (some ⟨g, 0, none⟩) n c) (l.map intV)) (hi : i < n) (hn : n ≤ 1000000) :
    Calls Tryz.prog 46 [.slice (some ⟨g, 0, none⟩) n c, .int .i64 (i : Int), .int .i64 ((i : Int) + 1)].toArray w fun e w' => e = .returned (.slice (some ⟨g, 0, none⟩) (n - 1) c) ∧ Only g w w' ∧ OwnL w' B 3 false 1 (.slice (some ⟨g, 0, none⟩) (n - 1) c) ((l.eraseIdx i).map intV) := by
  obtain ⟨cs, hB, hcl, hnc, hcm, hll, htk, hBg⟩ := hO.cells
  have hi1 : (i : Int) + 1 = ((i + 1 : Nat) : Int) := by omega
  rw [hi1]
  rw [List.length_map] at hll
  have hcs : ∀ j, j < n → cs[j]? = (l.map intV)[j]? := fun j hj => by rw [← htk, List.getElem?_take, if_pos hj]
  refine Calls.ofW (by simp) ?_
  (refine jjB (jjC (jJ (eS rfl) (jz (jjB (jjC ?_))))); refine jI (eS rfl) (jI (eI rfl) (jI (eI rfl) (jI (eS rfl) (jh rfl ?_)))))
  refine Ops.slice3 rfl rfl rfl rfl rfl rfl rfl (by omega) (by omega) (by omega) ?_
  intro v3
  (refine jz (jjB (jjB (jjC (jI (eI rfl) (jI (eI rfl) ?_))))); refine jji rfl rfl (by omega) (jz (jjK rfl (jjG (jjB (jjC ?_))))); refine jI (eS rfl) (jh rfl (jJ (eI rfl) (jz (jjB ?_)))))
  refine W.draw (fun w' => Only g w w') ?_
  intro w1 hS1
  have hO1 : Only g w w1 := .ofExt hS1.ext
  have hB1 : Bk w1 g cs 3 := hB.ext hS1.ext
  have hlen : ((l.map intV).drop (i + 1)).length = n - (i + 1) := by rw [List.length_drop, List.length_map]; omega
  have hsrc : ∀ (j : Nat) v, ((l.map intV).drop (i + 1))[j]? = some v → w1.cell? (Addr.add ⟨g, if c = i + 1 then 0 else 0 + (i + 1), none⟩ j) = some v := by
    intro j v hj
    have hjl := (List.getElem?_eq_some_iff.1 hj).1
    rw [hlen] at hjl
    rw [if_neg (by omega), Addr.add_lit]
    rw [List.getElem?_drop, ← hcs _ (by omega)] at hj
    have := hB1.cellO hj
    rwa [Nat.zero_add]
  have hone : ∀ v ∈ (l.map intV).drop (i + 1), v.oneCell' = true := int_one fun v hv => List.mem_of_mem_drop hv
  refine jjV [0, 1, 2, 3, 4, 5] (by decide +kernel) hO1 ?_
  ((repeat' (first|(apply jjT; exact rfl)|rintro w' hq|(apply jI; (first|exact eI rfl|exact eS rfl))|refine jz ?_|exact ⟨rfl, rfl⟩|refine jjU ?_)))
  · refine Ops.sliceXH (hi := i) rfl rfl rfl (by omega) ?_
    refine jz ?_
    exact ⟨rfl, rfl⟩
  · refine Ops.sliceXL (lo := i + 1) rfl rfl rfl (by omega) ?_
    refine jz ?_
    exact ⟨rfl, rfl⟩
  apply jjW 6 (by decide +kernel) rfl hO1
  refine Ops.appendRoom hB1 rfl rfl hlen hsrc hone (by omega) (by omega) ?_
  intro w2 hp2
  refine jz ?_
  have hO2 : Only g w w2 := hO1.trans (.ofPut hp2)
  have hB2 : Bk w2 g (cs.take i ++ (l.map intV).drop (i + 1) ++ cs.drop (i + (n - (i + 1)))) 3 := ⟨hp2.new⟩
  have ha : i + (n - (i + 1)) = n - 1 := by omega
  rw [ha] at hB2 ⊢
  have hti : cs.take i ++ (l.map intV).drop (i + 1) = (l.eraseIdx i).map intV := by
    rw [List.eraseIdx_eq_take_drop_succ, List.map_append, List.map_take, List.map_drop]
    congr 1
    rw [← htk, List.take_take, Nat.min_eq_left (by omega)]
  have hel : ((l.eraseIdx i).map intV).length = n - 1 := by rw [List.length_map, List.length_eraseIdx]; split <;> omega
  rw [hti] at hB2
  have hdl : (cs.drop (n - 1)).length = c - (n - 1) := by rw [List.length_drop]; omega
  refine jjV [7] (by decide +kernel) hO2 ?_
  (((refine jjT rfl (fun _ _ => jJ (eS rfl) (jz ⟨rfl, rfl⟩)) (jjU ?_))))
  refine jjX (by decide +kernel) hO2 ?_
  (refine jjB (jjC (jI (eS rfl) (jI (eS rfl) (jh rfl (jI (eI rfl) ?_))))))
  refine Ops.sliceXLH (lo := n - 1) (hi := n) rfl rfl rfl rfl rfl (by omega) (by omega) (by omega) ?_
  skip
  refine Ops.clearB hB2 rfl (by omega) (by rw [List.length_append, hel, hdl]; omega) rfl rfl ?_
  intro w3 hp3
  have hO3 : Only g w w3 := hO2.trans (.ofPut hp3)
  have hB3 : Bk w3 g _ 3 := ⟨hp3.new⟩
  (refine jz (jjB (jjC (jI (eS rfl) (jJ (eS rfl) (jz ?_))))); refine jjF ?_)
  refine jB rfl rfl ⟨rfl, hO3, OwnL.ofCells hB3 ?_ (by omega) hcm ?_ (by omega) hBg (int_fit _)⟩
  · simp only [List.length_append, List.length_take, List.length_drop, List.length_replicate, hel, hdl]; omega
  · rw [List.append_assoc, List.take_append_of_le_length (by simp only [List.length_append, List.length_take, hel]; omega), List.take_take, Nat.zero_add, Nat.min_self, List.take_append_of_le_length (by omega), List.take_of_length_le (by omega)]

theorem overlaps_int (g b o n c : Nat) (w : World) (x : Int) {cs : List Value} (hB : Bk w g cs 3) (hb : Bk w b [intV x] 3) (hne : b ≠ g) (h0 : 0 < cs.length) :
    (callFunc 89 [.slice (some ⟨b, 0, none⟩) 1 1, .slice (some ⟨g, o, none⟩) n c].toArray).run Tryz.prog w = .ok (.value (.bool false)) w := by
  have hz : TS Tryz.prog 3 _ 1 _ := inferInstance
  have h1 : w.shape? b = some (3, 1) := by simp [World.shape?, hb.h]
  have h2 : w.shape? g = some (3, cs.length) := by simp [World.shape?, hB.h]
  have h3 : w.frozen? ⟨b, 0, none⟩ = false := by simp [World.frozen?, hb.h]
  have h4 : w.frozen? { block := b, off := 1 } = false := by simp [World.frozen?, hb.h]
  rw [run_callFunc_extern Tryz.func89 (by kernel_rfl) (by kernel_rfl) (by kernel_rfl) (e := Extern.SlicesOverlaps.overlaps #[ 50, 50 ] #[ 4 ]) (by kernel_rfl)]
  have := Lib.run_overlaps_apart (P := Tryz.prog) w 50 4 3 Tryz.underlying50 1 (fun w => run_sizeOf' w hz) ⟨b, 0, none⟩ ⟨g, o, none⟩ 1 1 n c hne 3 3 1 cs.length h1 h2 (by omega) h3 h4
  rw [show ([.slice (some ⟨b, 0, none⟩) 1 1, .slice (some ⟨g, o, none⟩) n c] : List Value).toArray = #[.slice (some ⟨b, 0, none⟩) 1 1, .slice (some ⟨g, o, none⟩) n c] from rfl, this]
  rfl

set_option maxHeartbeats 1000000 in
theorem Insert_int (g b n c i : Nat) (l : List Int) (x : Int) (w : World) {B : Nat} (hO : OwnL w B 3 false 1 (.slice (some ⟨g, 0, none⟩) n c) (l.map intV)) (hb : Bk w b [intV x] 3) (hne : b ≠ g) (hi : i ≤ n) (hnc : n + 1 ≤ c) (hn : n ≤ 1000000) :
    Calls Tryz.prog 49 [.slice (some ⟨g, 0, none⟩) n c, .int .i64 (i : Int), .slice (some ⟨b, 0, none⟩) 1 1].toArray w fun e w' => e = .returned (.slice (some ⟨g, 0, none⟩) (n + 1) c) ∧ Only g w w' ∧ OwnL w' B 3 false 1 (.slice (some ⟨g, 0, none⟩) (n + 1) c) ((l.take i ++ x :: l.drop i).map intV) := by
  obtain ⟨cs, hB, hcl, _, hcm, hll, htk, hBg⟩ := hO.cells
  rw [List.length_map] at hll
  have hcs : ∀ j, j < n → cs[j]? = (l.map intV)[j]? := fun j hj => by rw [← htk, List.getElem?_take, if_pos hj]
  have hm63 : maxLen = 9223372036854775807 := rfl
  have hvs : ∀ w' : World, Bk w' b [intV x] 3 → ∀ (j : Nat) v, [intV x][j]? = some v → w'.cell? (Addr.add ⟨b, 0, none⟩ j) = some v := fun w' h j v hj => by
    rw [Addr.add_lit, Nat.zero_add]; exact h.cellO hj
  have hone : ∀ v ∈ [intV x], v.oneCell' = true := by simp; rfl
  refine Calls.ofW (by simp) ?_
  (refine jjB (jjC (jJ (eS rfl) (jz (jjB (jjC ?_))))); refine jI (eS rfl) (jI (eI rfl) ?_))
  refine Ops.sliceXL (lo := i) rfl rfl rfl hi ?_
  by_cases hin : i = n
  · subst hin
    (refine jz (jjB (jjC (jI (eS rfl) (jh rfl (jJ (eI rfl) ?_))))); refine jz (jjB (jjB (jjC (jI (eI rfl) (jji rfl rfl (by omega) ?_))))); refine jz (jjK rfl (jjG (jjB (jjC (jI (eS rfl) ?_))))); refine jh rfl (jJ (eI rfl) (jz (jjB (jjB (jjC ?_))))); refine jI (eI rfl) (jI (eI rfl) (jjh rfl rfl (by omega) (jz (jjJ rfl (jjB ?_))))); refine jjC (jI (eS rfl) (jI (eS rfl) ?_)))
    refine Ops.appendRoom (us := [intV x]) hB rfl rfl rfl (hvs _ hb) hone hnc (by omega) ?_
    intro w2 hp2
    have hB2 : Bk w2 g _ 3 := ⟨hp2.new⟩
    (refine jJ (eS rfl) (jz (jjF ?_)))
    refine jB rfl rfl ⟨rfl, .ofPut hp2, OwnL.ofCells hB2 ?_ hnc hcm ?_ (by omega) hBg (int_fit _)⟩
    · simp only [List.length_append, List.length_take, List.length_drop, List.length_cons, List.length_nil]; omega
    · rw [List.take_of_length_le (l := l) (by omega), List.drop_of_length_le (l := l) (by omega), htk, List.map_append]
      rw [List.take_append_of_le_length (by simp; omega), List.take_of_length_le (by simp; omega)]
      rfl
  · have hlt : i < n := by omega
    (refine jz (jjB (jjC (jI (eS rfl) (jh rfl (jJ (eI rfl) ?_))))); refine jz (jjB (jjB (jjC (jI (eI rfl) (jji rfl rfl (by omega) ?_))))); refine jz (jjK rfl (jjG (jjB (jjC (jI (eS rfl) ?_))))); refine jh rfl (jJ (eI rfl) (jz (jjB (jjB (jjC ?_))))); refine jI (eI rfl) (jI (eI rfl) (jji rfl rfl (by omega) (jz (jjK rfl (jjG ?_))))); refine jjB (jjB (jjC (jI (eI rfl) (jI (eI rfl) (jY rfl rfl (by omega) ?_))))); refine jI (eS rfl) (jl rfl (jje rfl rfl (by omega) (jz (jjK rfl (jjG ?_))))); refine jjB (jjC (jI (eS rfl) (jI (eI rfl) (jI (eI rfl) (jY rfl rfl (by omega) ?_))))))
    refine Ops.sliceXH (hi := n + 1) rfl rfl rfl hnc ?_
    (refine jJ (eS rfl) (jz (jjB (jjB (jjC (jI (eS rfl) ?_))))); refine jI (eS rfl) (jI (eI rfl) (jI (eI rfl) (jY rfl rfl (by omega) ?_))))
    refine Ops.sliceXL2 (lo := i + 1) rfl rfl rfl (by omega) (by omega) ?_
    skip
    refine Ops.callX rfl rfl (overlaps_int g b _ _ _ w x hB hb hne (by omega)) ?_
    (refine jq rfl (jz (jjJ rfl (jjB ?_))))
    refine W.draw (fun w' => Only g w w') ?_
    intro w1 hS1
    have hO1 : Only g w w1 := .ofExt hS1.ext
    have hB1 : Bk w1 g cs 3 := hB.ext hS1.ext
    refine jjV [0, 1, 2, 3, 4, 5, 6, 7] (by decide +kernel) hO1 ?_
    ((repeat' (first|(apply jjT; exact rfl)|rintro w' hq|(apply jI; (first|exact eI rfl|exact eS rfl))|(refine jW (jY rfl rfl (by omega) ?_))|refine jz ?_|exact ⟨rfl, rfl⟩|refine jjU ?_)))
    · refine Ops.sliceXL2 (lo := i + 1) rfl rfl rfl (by omega) (by omega) ?_
      refine jz ?_
      exact ⟨rfl, rfl⟩
    · refine Ops.sliceXL2 (lo := i) rfl rfl rfl (by omega) (by omega) ?_
      refine jz ?_
      exact ⟨rfl, rfl⟩
    have hdl : ((l.map intV).drop i).length = n - i := by rw [List.length_drop, List.length_map]; omega
    have hsrc : ∀ (j : Nat) v, ((l.map intV).drop i)[j]? = some v → w1.cell? (Addr.add ⟨g, 0 + i, none⟩ j) = some v := by
      intro j v hj
      have hjl := (List.getElem?_eq_some_iff.1 hj).1
      rw [hdl] at hjl
      rw [Addr.add_lit]
      rw [List.getElem?_drop, ← hcs _ (by omega)] at hj
      have := hB1.cellO hj
      rwa [Nat.zero_add]
    have hone2 : ∀ v ∈ (l.map intV).drop i, v.oneCell' = true := int_one fun v hv => List.mem_of_mem_drop hv
    apply jjW 8 (by decide +kernel) rfl hO1
    refine Ops.copyB (us := (l.map intV).drop i) hB1 rfl rfl (by rw [hdl]; omega) hsrc hone2 (by rw [hdl]; omega) ?_
    intro w2 hp2
    refine jz ?_
    have hO2 : Only g w w2 := hO1.trans (.ofPut hp2)
    have hB2 : Bk w2 g _ 3 := ⟨hp2.new⟩
    have hb2 : Bk w2 b [intV x] 3 := hp2.bk (hb.ext hS1.ext) hne
    refine jjX (by decide +kernel) hO2 ?_
    (refine jjB (jjC (jI (eS rfl) (jI (eI rfl) ?_))))
    refine Ops.sliceXL2 (lo := i) rfl rfl rfl (by omega) (by omega) ?_
    (apply jI; exact eS rfl)
    refine Ops.copyB (us := [intV x]) hB2 rfl rfl (by simp; omega) (hvs _ hb2) hone (by simp only [List.length_append, List.length_take, List.length_drop, List.length_cons, List.length_nil, hdl]; omega) ?_
    intro w3 hp3
    have hO3 : Only g w w3 := hO2.trans (.ofPut hp3)
    have hB3 : Bk w3 g _ 3 := ⟨hp3.new⟩
    (refine jz (jjB (jjC (jI (eS rfl) (jJ (eS rfl) (jz ?_))))); refine jjF ?_)
    refine jB rfl rfl ⟨rfl, hO3, OwnL.ofCells hB3 ?_ hnc hcm ?_ (by omega) hBg (int_fit _)⟩
    · simp only [List.length_append, List.length_take, List.length_drop, List.length_cons, List.length_nil, List.length_map]; omega
    · have h1 : ((l.map intV).drop i).length = l.length - i := by rw [List.length_drop, List.length_map]
      rw [Nat.zero_add, Nat.zero_add]
      generalize hA : cs.take (i + 1) ++ (l.map intV).drop i ++ cs.drop (i + 1 + ((l.map intV).drop i).length) = A
      have hA1 : A.take i = cs.take i := by rw [← hA, List.append_assoc, List.take_append_of_le_length (by rw [List.length_take]; omega), List.take_take, Nat.min_eq_left (by omega)]
      have hA2 : (A.drop (i + 1)).take (n - i) = (l.map intV).drop i := by
        rw [← hA, List.append_assoc, List.drop_append_of_le_length (by rw [List.length_take]; omega), List.drop_of_length_le (by rw [List.length_take]; omega), List.nil_append, List.take_append_of_le_length (by omega), List.take_of_length_le (by omega)]
      have hA3 : cs.take i = (l.take i).map intV := by rw [List.map_take, ← htk, List.take_take, Nat.min_eq_left (by omega)]
      rw [hA1, hA3, List.map_append, List.map_cons, List.map_drop, ← hA2]
      have h2 : ((l.take i).map intV).length = i := by rw [List.length_map, List.length_take]; omega
      rw [List.append_assoc, List.take_append, h2, List.take_of_length_le (by omega)]
      congr 1
      have : n + 1 - i = (n - i) + 1 := by omega
      rw [this]
      rfl

def lexC : List Int → List Int → Int
  | [], [] => 0
  | [], _ :: _ => -1
  | _ :: _, [] => 1
  | x :: xs, y :: ys => if x < y then -1 else if y < x then 1 else lexC xs ys
theorem lexC_drop {l m : List Int} {j : Nat} (h1 : j < l.length) (h2 : j < m.length) : lexC (l.drop j) (m.drop j) = if l[j] < m[j] then -1 else if m[j] < l[j] then 1 else lexC (l.drop (j + 1)) (m.drop (j + 1)) := by
  rw [List.drop_eq_getElem_cons h1, List.drop_eq_getElem_cons h2, lexC]
theorem lexC_end1 {l m : List Int} {j : Nat} (h1 : l.length ≤ j) (h2 : j < m.length) : lexC (l.drop j) (m.drop j) = -1 := by
  rw [List.drop_of_length_le h1, List.drop_eq_getElem_cons h2, lexC]
theorem lexC_end2 {l m : List Int} {j : Nat} (h1 : j < l.length) (h2 : m.length ≤ j) : lexC (l.drop j) (m.drop j) = 1 := by
  rw [List.drop_of_length_le h2, List.drop_eq_getElem_cons h1, lexC]
theorem lexC_end3 {l m : List Int} {j : Nat} (h1 : l.length ≤ j) (h2 : m.length ≤ j) : lexC (l.drop j) (m.drop j) = 0 := by
  rw [List.drop_of_length_le h2, List.drop_of_length_le h1, lexC]

set_option maxHeartbeats 1000000 in
theorem CompareS_int (a b : Option Addr) (c e : Nat) (l m : List Int) (w : World) (hl : l.length ≤ 1000000) [h1 : RowI w (.slice a l.length c) false 1 (l.map intV)] [h2 : RowI w (.slice b m.length e) false 1 (m.map intV)] :
    Ct Tryz.prog 85 [.slice a l.length c, .slice b m.length e] w fun v _ => v = .int .i64 (lexC l m) := by
  refine Ct.ofW (by simp) ?_
  (refine jjB (jjC (jJ (eI rfl) (jz (jjB (jjB ?_))))); refine jjC (jI (eS rfl) (jh rfl (jI (eI rfl) (jz (jjD ?_))))))
  refine W.loop (12 :: 13 :: 14 :: 15 :: 5 :: 6 :: 16 :: 17 :: 18 :: 19 :: 4 :: 20 :: 21 :: 22 :: 23 :: 7 :: 24 :: 25 :: 26 :: 8 :: 27 :: 28 :: 29 :: 30 :: 11 :: []) (fun g s' _ => ∃ j : Nat, s' 11 = .int .i64 ((j : Nat) : Int) ∧ g = l.length - j ∧ j ≤ l.length ∧ j ≤ m.length ∧ lexC l m = lexC (l.drop j) (m.drop j)) l.length ⟨0, rfl, rfl, by omega, by omega, rfl⟩ ?_
  rintro _ sd w1 hS1 ⟨j, h11, rfl, hj, hjm, he⟩
  refine W.fix h11 ?_
  clear h11
  rw [he]
  by_cases hjl : j < l.length
  · by_cases hm : j < m.length
    · rw [lexC_drop hjl hm]
      by_cases c1 : l[j] < m[j]
      · rw [if_pos c1]
        (refine jjB (jjC (jjZ rfl rfl (by omega) (jz (jjB (jjJ rfl ?_))))); refine jjG (jjB (jjD (jjB (jjC (jI (eI rfl) ?_))))); refine jF rfl rfl rfl (map_get (by omega)) ?_; intro _ _ _; refine jQ rfl rfl (jJ (eI rfl) (jJ (eI rfl) (jz (jjB (jjB ?_))))); refine jjC (jI (eI rfl) (jI (eS rfl) (jh rfl (jjg rfl rfl (by omega) (jz ?_))))); refine jjK rfl (jjG (jjB (jjC (jI (eS rfl) (jI (eI rfl) ?_))))); refine jF rfl rfl rfl (map_get (by omega)) ?_; intro _ _ _; refine jQ rfl rfl (jJ (eI rfl) (jz (jjB (jjC (jI (eI rfl) ?_))))); refine jI (eI rfl) ?_)
        refine jjQ ((Compare_int l[j] m[j] _).mono fun v _ _ e' => e'.trans (by rw [if_pos c1])) rfl rfl ?_
        rintro _ w2 hS2 rfl
        (refine jJ (eI rfl) (jz (jjB (jjC (jI (eI rfl) (jjj rfl rfl (by omega) ?_))))); refine jz (jjJ rfl (jjB (jjC (jI (eI rfl) (jJ (eI rfl) ?_))))); refine jz (jjF ?_); refine jB rfl rfl ⟨inferInstance, ?_⟩)
        exact rfl
      · rw [if_neg c1]
        by_cases c2 : m[j] < l[j]
        · rw [if_pos c2]
          (refine jjB (jjC (jjZ rfl rfl (by omega) (jz (jjB (jjJ rfl ?_))))); refine jjG (jjB (jjD (jjB (jjC (jI (eI rfl) ?_))))); refine jF rfl rfl rfl (map_get (by omega)) ?_; intro _ _ _; refine jQ rfl rfl (jJ (eI rfl) (jJ (eI rfl) (jz (jjB (jjB ?_))))); refine jjC (jI (eI rfl) (jI (eS rfl) (jh rfl (jjg rfl rfl (by omega) (jz ?_))))); refine jjK rfl (jjG (jjB (jjC (jI (eS rfl) (jI (eI rfl) ?_))))); refine jF rfl rfl rfl (map_get (by omega)) ?_; intro _ _ _; refine jQ rfl rfl (jJ (eI rfl) (jz (jjB (jjC (jI (eI rfl) ?_))))); refine jI (eI rfl) ?_)
          refine jjQ ((Compare_int l[j] m[j] _).mono fun v _ _ e' => e'.trans (by rw [if_neg c1, if_pos c2])) rfl rfl ?_
          rintro _ w2 hS2 rfl
          (refine jJ (eI rfl) (jz (jjB (jjC (jI (eI rfl) (jjj rfl rfl (by omega) ?_))))); refine jz (jjJ rfl (jjB (jjC (jI (eI rfl) (jJ (eI rfl) ?_))))); refine jz (jjF ?_); refine jB rfl rfl ⟨inferInstance, ?_⟩)
          exact rfl
        · rw [if_neg c2]
          (refine jjB (jjC (jjZ rfl rfl (by omega) (jz (jjB (jjJ rfl ?_))))); refine jjG (jjB (jjD (jjB (jjC (jI (eI rfl) ?_))))); refine jF rfl rfl rfl (map_get (by omega)) ?_; intro _ _ _; refine jQ rfl rfl (jJ (eI rfl) (jJ (eI rfl) (jz (jjB (jjB ?_))))); refine jjC (jI (eI rfl) (jI (eS rfl) (jh rfl (jjg rfl rfl (by omega) (jz ?_))))); refine jjK rfl (jjG (jjB (jjC (jI (eS rfl) (jI (eI rfl) ?_))))); refine jF rfl rfl rfl (map_get (by omega)) ?_; intro _ _ _; refine jQ rfl rfl (jJ (eI rfl) (jz (jjB (jjC (jI (eI rfl) ?_))))); refine jI (eI rfl) ?_)
          refine jjQ ((Compare_int l[j] m[j] _).mono fun v _ _ e' => e'.trans (by rw [if_neg c1, if_neg c2])) rfl rfl ?_
          rintro _ w2 hS2 rfl
          (refine jJ (eI rfl) (jz (jjB (jjC (jI (eI rfl) (jjk rfl rfl (by omega) ?_))))); refine jz (jjK rfl (jjG (jjC (jY rfl rfl (by omega) (jI (eI rfl) ?_))))); refine jz ?_)
          refine ⟨rfl, by (((iterate 24 refine Same.upd rfl ?_); exact Same.ovN)), l.length - (j + 1), by omega, inferInstance, j + 1, congrArg (Value.int .i64) (by omega), rfl, by omega, by omega, ?_⟩
          rfl
    · rw [lexC_end2 hjl (by omega)]
      (refine jjB (jjC (jjZ rfl rfl (by omega) (jz (jjB (jjJ rfl ?_))))); refine jjG (jjB (jjD (jjB (jjC (jI (eI rfl) ?_))))); refine jF rfl rfl rfl (map_get (by omega)) ?_; intro _ _ _; refine jQ rfl rfl (jJ (eI rfl) (jJ (eI rfl) (jz (jjB (jjB ?_))))); refine jjC (jI (eI rfl) (jI (eS rfl) (jh rfl (jjf rfl rfl (by omega) (jz ?_))))); refine jjJ rfl (jjB (jjC (jJ (eI rfl) (jz (jjF ?_))))); refine jB rfl rfl ⟨inferInstance, ?_⟩)
      exact rfl
  · by_cases hm : j < m.length
    · rw [lexC_end1 (by omega) hm]
      (refine jjB (jjC (jja rfl rfl (by omega) (jz (jjB (jjK rfl ?_))))); refine jjE (jjB (jjB (jjC (jI (eS rfl) (jh rfl ?_))))); refine jI (eS rfl) (jh rfl (jjZ rfl rfl (by omega) (jz (jjJ rfl (jjB ?_))))); refine jjC (jJ (eI rfl) (jz (jjF ?_))); refine jB rfl rfl ⟨inferInstance, ?_⟩)
      exact rfl
    · rw [lexC_end3 (by omega) (by omega)]
      (refine jjB (jjC (jja rfl rfl (by omega) (jz (jjB (jjK rfl ?_))))); refine jjE (jjB (jjB (jjC (jI (eS rfl) (jh rfl ?_))))); refine jI (eS rfl) (jh rfl (jja rfl rfl (by omega) (jz (jjK rfl (jjG ?_))))); refine jjB (jjC (jJ (eI rfl) (jz (jjF ?_)))); refine jB rfl rfl ⟨inferInstance, ?_⟩)
      exact rfl

section rules
variable {P : Program} {ro : Option Nat} {n : Nat} {all rest : List Oper} {K : Sl → World → Prop} {s : Sl} {w : World} {d : Nat} {ty : Nat} {pos : String} {af : Array Edge} {x y : Operand} {t t' : Nat} {a b : Int}
theorem Ops.rem (hx : ev n s x = .int .i64 a) (hy : ev n s y = .int .i64 b) (h0 : 0 ≤ a) (h1 : 0 < b) (h : Ops P ro n all rest K (upd s d (.int .i64 (a % b))) w) :
    Ops P ro n all (⟨some d, .binOp .rem t x y t', ty, pos, af, none⟩ :: rest) K s w :=
  Ops.ofRun rfl (by
    have e1 : Int.tmod a b = a % b := Int.tmod_eq_emod_of_nonneg h0
    have e3 : ¬ b = 0 := by omega
    simp [execOp, hx, hy, go_sem, Op.intDiv, e1, e3]) h
theorem Ops.neqTN {α : Type} [DecidableEq α] {enc : α → Value} (u : α) [he : EqT P t enc] (hx : ev n s x = enc u) (hy : ev n s y = enc u) (h : Ops P ro n all rest K (upd s d (.bool false)) w) :
    Ops P ro n all (⟨some d, .binOp .neq t x y t', ty, pos, af, none⟩ :: rest) K s w :=
  Ops.neqT u u hx hy (by rw [decide_eq_false (by simp)]; exact h)
end rules

theorem eqT_arr2 {P : Program} {t e bytes : Nat} {z : Value} (hu : P.underlying t = some (.array 2 e)) (u0 : TU P e (.int .i64)) (hz : TS P e z 1 bytes) (hg : P.eqGuardType P.depth t = false) : EqT P t encII where
  eq w a b := by
    obtain ⟨i, hi, _, hs, _⟩ := hz.info
    have hc : P.cellsOf e = 1 := by simp [Program.cellsOf, hi, hs]
    simp only [encII, Op.equal, Op.maxDepth]
    rw [run_equalIn_array w 9999 _ _ hu hi, hc]
    have e0 : (Op.equalIn 9999 e (.int .i64 a.1) (.int .i64 b.1)).run P w = .ok (a.1 == b.1) w := run_equalIn_int (P := P) w 9998 e .i64 .i64 a.1 b.1 u0.h
    have e1 : (Op.equalIn 9999 e (.int .i64 a.2) (.int .i64 b.2)).run P w = .ok (a.2 == b.2) w := run_equalIn_int (P := P) w 9998 e .i64 .i64 a.2 b.2 u0.h
    obtain ⟨a1, a2⟩ := a
    obtain ⟨b1, b2⟩ := b
    simp only at e0 e1
    have p0 : ∀ c1 c2 : Int, (part e #[Value.int .i64 c1, Value.int .i64 c2] 0).run P w = .ok (.int .i64 c1) w := fun c1 c2 => by simp [part, run_isAgg w u0, TypeDesc.isAgg]
    have p1 : ∀ c1 c2 : Int, (part e #[Value.int .i64 c1, Value.int .i64 c2] 1).run P w = .ok (.int .i64 c2) w := fun c1 c2 => by simp [part, run_isAgg w u0, TypeDesc.isAgg]
    have hr : List.range 2 = [0, 1] := by decide
    rw [hr]
    simp only [Op.eqItems, Nat.zero_mul, Nat.one_mul, Sem.run_bind, p0, Result.andThen_ok, e0]
    by_cases c0 : a1 = b1
    · subst c0
      by_cases c1 : a2 = b2
      · subst c1; simp [p1, e1]
      · have c1' : (a2 == b2) = false := by simpa using c1
        simp [c1, p1, e1, c1']
    · simp [c0]
  guard op x y w a b := by
    cases op <;> simp [encII, eqGuard, hg]
  kind a b := ⟨fun w => by simp [encII, binOp], fun w => by simp [encII, binOp]⟩

set_option maxHeartbeats 2000000 in
theorem EqualFunc_lines (a1 a2 : Option Addr) (c1 c2 : Nat) (xs ys : List Ln) (w : World) (hx : RowV w false 1 (.slice a1 xs.length c1) (xs.map encLn)) (hxw : ∀ y ∈ xs, RowV w false 1 (encLn y) (y.2.2.map strV))
    (hy : RowV w false 1 (.slice a2 ys.length c2) (ys.map encLn)) (hyw : ∀ y ∈ ys, RowV w false 1 (encLn y) (y.2.2.map strV)) :
    Ct Tryz.prog 107 [.slice a1 xs.length c1, .slice a2 ys.length c2, .func (.func 108) #[] #[]] w fun v _ => ∃ B, v = .bool B := by
  have hlx := hx.len
  have hly := hy.len
  rw [List.length_map] at hlx hly
  refine Ct.ofW (by simp) ?_
  by_cases hl : xs.length = ys.length
  rotate_left
  · (refine jjB (jjC (jJ (eB rfl) (jz (jjB (jjB ?_))))); refine jjC (jI (eS rfl) (jh rfl (jI (eS rfl) (jh rfl (jjj rfl rfl (by omega) ?_))))); refine jz (jjJ rfl (jjB (jjC (jJ (eB rfl) (jz ?_))))); refine jjF ?_; refine jB rfl rfl ⟨inferInstance, ?_⟩)
    exact ⟨_, rfl⟩
  (refine jjB (jjC (jJ (eB rfl) (jz (jjB (jjB ?_))))); refine jjC (jI (eS rfl) (jh rfl (jI (eS rfl) (jh rfl (jjk rfl rfl (by omega) ?_))))); refine jz (jjK rfl (jjG (jjB (jjB (jjC ?_))))); refine jI (eS rfl) (jh rfl (jI (eI rfl) (jz (jjD ?_)))))
  refine W.keep0 [(0, .slice a1 xs.length c1), (1, .slice a2 ys.length c2), (2, .func (.func 108) #[] #[]), (15, .slice a1 xs.length c1), (16, .int .i64 (xs.length : Int)), (17, .int .i64 ((0 : Nat) : Int))] ⟨eS rfl, eS rfl, eF rfl, eS rfl, eI rfl, eI rfl, trivial⟩ fun s0 => ?_
  refine W.loop (18 :: 19 :: 20 :: 21 :: 7 :: 8 :: 22 :: 23 :: 24 :: 25 :: 9 :: 26 :: 27 :: 28 :: 29 :: 30 :: 6 :: 31 :: 17 :: []) (fun g s' V => ∃ k : Nat, s' 17 = .int .i64 ((k : Nat) : Int) ∧ g = xs.length - k ∧ k ≤ xs.length) xs.length ⟨0, rfl, rfl, Nat.zero_le _⟩ ?_
  rintro _ sd w1 hS1 ⟨k, h17, rfl, hk⟩
  refine W.fix h17 ?_
  clear h17
  by_cases hk1 : k < xs.length
  rotate_left
  · (refine jjB (jjC (jja rfl rfl (by omega) (jz (jjB (jjK rfl ?_))))); refine jjE (jjB (jjC (jJ (eB rfl) (jz (jjF ?_))))); refine jB rfl rfl ⟨inferInstance, ?_⟩)
    exact ⟨_, rfl⟩
  have hk2 : k < ys.length := by omega
  have ix : RowI w1 (.slice a1 xs.length c1) false 1 (xs.map encLn) := ⟨hx.ext hS1.ext⟩
  have iy : RowI w1 (.slice a2 ys.length c2) false 1 (ys.map encLn) := ⟨hy.ext hS1.ext⟩
  have rx := (hxw _ (List.getElem_mem hk1)).ext hS1.ext
  have ry := (hyw _ (List.getElem_mem hk2)).ext hS1.ext
  obtain ⟨B, hB⟩ : ∃ B, decide (xs[k].2.2 = ys[k].2.2) = B := ⟨_, rfl⟩
  (refine jjB (jjC (jjZ rfl rfl (by omega) (jz (jjB (jjJ rfl ?_))))); refine jjG (jjB (jjD (jjB (jjC (jI (eI rfl) ?_))))); refine jF rfl rfl rfl (map_get (by omega)) ?_; intro _ _ _; refine jQ rfl rfl (jJ (eI rfl) (jJ (eS rfl) (jz (jjB (jjC ?_))))); refine jI (eS rfl) (jI (eI rfl) ?_); refine jF rfl rfl rfl (map_get (by omega)) ?_; intro _ _ _; refine jQ rfl rfl (jJ (eS rfl) (jz (jjB (jjC (jI (eF rfl) ?_))))); refine jI (eS rfl) (jI (eS rfl) ?_))
  refine jjQ ((Equal_str xs[k].1 ys[k].1 xs[k].2.1 ys[k].2.1 _ _ xs[k].2.2 ys[k].2.2 _ rfl rfl rx ry).mono fun v _ _ h => h.trans (by rw [hB])) rfl rfl ?_
  rintro _ w2 hS2 rfl
  cases B with
  | false =>
    (refine jq rfl (jz (jjJ rfl (jjB (jjC (jJ (eB rfl) ?_))))); refine jz (jjF ?_); refine jB rfl rfl ⟨inferInstance, ?_⟩)
    exact ⟨_, rfl⟩
  | true =>
    (refine jp rfl (jz (jjK rfl (jjG (jjC (jY rfl rfl (by omega) ?_))))); refine jI (eI rfl) (jz ?_))
    exact ⟨rfl, by (((iterate 19 refine Same.upd rfl ?_); exact Same.ovN)), xs.length - (k + 1), by omega, inferInstance, k + 1, congrArg (Value.int .i64) (by omega), rfl, by omega⟩
instance eqT_pair2 : EqT Tryz.prog 141 encII := eqT_arr2 Tryz.underlying141 inferInstance inferInstance (of_decide_eq_true (by kernel_rfl))
set_option maxHeartbeats 2000000 in
theorem Index_pairs (a : Option Addr) (c : Nat) (ps : List (Int × Int)) (q : Int × Int) (w : World) [hrow : RowI w (.slice a ps.length c) true 2 (ps.map encII)] :
    Ct Tryz.prog 111 [.slice a ps.length c, encII q] w fun v _ => ∃ i : Int, v = .int .i64 i := by
  have hl := hrow.h.len
  rw [List.length_map] at hl
  refine Ct.ofW (by simp) ?_
  (refine jjB (jjC ?_))
  (refine jy rfl ?_; intro b3 w_b3 hb_b3 hs_b3 hS_b3 hk_b3; have hA_b3 := At.ofBlock hk_b3)
  (refine jJ (eI rfl) (jz (jjB (jjB (jjC (jI (eS rfl) ?_))))); refine jh rfl (jI (eI rfl) (jz (jjD ?_))))
  refine W.keep0 [(0, .slice a ps.length c), (3, .pointer (some ⟨b3, 0, none⟩)), (6, .slice a ps.length c), (7, .int .i64 (ps.length : Int)), (8, .int .i64 ((0 : Nat) : Int))] ⟨eS rfl, eP rfl, eS rfl, eI rfl, eI rfl, trivial⟩ fun s0 => ?_
  refine W.loop (9 :: 10 :: 5 :: 11 :: 12 :: 13 :: 14 :: 15 :: 16 :: 17 :: 4 :: 18 :: 8 :: []) (fun g s' V => ∃ k : Nat, s' 8 = .int .i64 ((k : Nat) : Int) ∧ g = ps.length - k ∧ k ≤ ps.length) ps.length ⟨0, rfl, rfl, Nat.zero_le _⟩ ?_
  rintro _ sd w1 hS1 ⟨k, h8, rfl, hk⟩
  refine W.fix h8 ?_
  clear h8
  by_cases hk1 : k < ps.length
  rotate_left
  · (refine jjB (jjC (jja rfl rfl (by omega) (jz (jjB (jjK rfl ?_))))); refine jjE (jjB (jjC (jJ (eI rfl) (jz (jjF ?_))))); refine jB rfl rfl ⟨inferInstance, ?_⟩)
    exact ⟨_, rfl⟩
  have hS1' : Ext w w1 := inferInstance
  have i1 : RowI w1 (.slice a ps.length c) true 2 (ps.map encII) := ⟨hrow.h.ext hS1'⟩
  have gp : (ps.map encII)[k]? = some (encII ps[k]) := by rw [List.getElem?_map, List.getElem?_eq_getElem hk1]; rfl
  obtain ⟨pb, po, rfl, -⟩ := hrow.h.place' gp
  obtain ⟨B, hB⟩ : ∃ B, decide (q = ps[k]) = B := ⟨_, rfl⟩
  (refine jjB (jjC (jjZ rfl rfl (by omega) (jz (jjB (jjJ rfl ?_))))); refine jjG (jjB (jjD (jjB (jjC (jI (eI rfl) ?_))))); refine jJ (eI rfl) (jz (jjB ?_)))
  refine W.draw (fun w' => Ext w_b3 w') ?_
  intro w2 hS2
  have hE2 : Ext w_b3 w2 := hS1.ext.trans hS2.ext
  have A1 : ∀ V, Ext w_b3 V → At V pb (po + k * 2) (encII ps[k]).cells.toList := fun V hE => place_k (hrow.h.ext (hS_b3.ext.trans hE)) gp
  refine jjV [0, 1, 2] (by decide +kernel) hE2 ?_
  (((apply jjT; exact rfl; rintro w' hq; have := hq.toStep; refine jO rfl rfl rfl rfl (jz ?_); exact ⟨rfl, rfl⟩; refine jjT rfl (fun _ _ => jI (eS rfl) (jz ⟨rfl, rfl⟩)) (jjT rfl (fun _ _ => jI (eI rfl) (jz ⟨rfl, rfl⟩)) (jjU ?_)))))
  refine jjV [3] (by decide +kernel) hE2 (jjT (v := .pointer (some ⟨pb, po + k * 2, none⟩)) rfl (fun w' q1 => ?_) (jjU ?_)); (refine jH k rfl rfl rfl (by omega) ?_; refine jz ?_; exact ⟨rfl, rfl⟩)
  refine jjV [4] (by decide +kernel) hE2 (jjT (v := encII ps[k]) rfl (fun w' q1 => ?_) (jjU ?_)); (refine Ops.loadOA (off := 0) (A1 _ q1) rfl rfl rfl rfl ?_; refine jz ?_; exact ⟨rfl, rfl⟩)
  refine jjV [5] (by decide +kernel) hE2 (jjT (v := .bool B) rfl (fun w' q1 => ?_) (jjU ?_)); (refine Ops.eqlT (enc := encII) q ps[k] rfl rfl ?_; rw [hB]; refine jz ?_; exact ⟨rfl, rfl⟩)
  refine jjX (by decide +kernel) hE2 ?_
  cases B with
  | true =>
    (refine jjJ rfl (jjB (jjC (jI (eI rfl) (jJ (eI rfl) (jz ?_))))); refine jjF ?_; refine jB rfl rfl ⟨inferInstance, ?_⟩)
    exact ⟨_, rfl⟩
  | false =>
    (refine jjK rfl (jjG (jjC (jY rfl rfl (by omega) (jI (eI rfl) (jz ?_))))))
    exact ⟨rfl, by (((iterate 12 refine Same.upd rfl ?_); exact Same.ovN)), ps.length - (k + 1), by omega, inferInstance, k + 1, congrArg (Value.int .i64) (by omega), rfl, by omega⟩
theorem Contains_pairs (a : Option Addr) (c : Nat) (ps : List (Int × Int)) (q : Int × Int) (w : World) [hrow : RowI w (.slice a ps.length c) true 2 (ps.map encII)] :
    Ct Tryz.prog 69 [.slice a ps.length c, encII q] w fun v _ => ∃ B, v = .bool B := by
  refine Ct.ofW (by simp) ?_
  (refine jjB (jjC ?_))
  (refine jy rfl ?_; intro b3 w_b3 hb_b3 hs_b3 hS_b3 hk_b3; have hA_b3 := At.ofBlock hk_b3)
  (refine jJ (eB rfl) (jz (jjB (jjC (jI (eS rfl) (jO rfl rfl rfl rfl ?_))))))
  refine jjQ (Index_pairs a c ps q _) rfl rfl ?_
  rintro _ w1 hS1 ⟨i, rfl⟩
  (refine jf rfl rfl (jJ (eB rfl) (jz (jjF ?_))); refine jB rfl rfl ⟨inferInstance, ?_⟩)
  all_goals exact ⟨_, rfl⟩
set_option maxHeartbeats 2000000 in
theorem Index_ints (a : Option Addr) (c : Nat) (l : List Int) (x : Int) (w : World) [hrow : RowI w (.slice a l.length c) false 1 (l.map intV)] :
    Ct Tryz.prog 45 [.slice a l.length c, .int .i64 x] w fun v _ => ∃ i : Int, v = .int .i64 i := by
  have hl := hrow.h.len
  rw [List.length_map] at hl
  refine Ct.ofW (by simp) ?_
  (refine jjB (jjC (jJ (eI rfl) (jz (jjB (jjB ?_))))); refine jjC (jI (eS rfl) (jh rfl (jI (eI rfl) (jz (jjD ?_))))))
  refine W.loop (9 :: 10 :: 5 :: 11 :: 12 :: 13 :: 14 :: 15 :: 16 :: 17 :: 4 :: 18 :: 8 :: []) (fun g s' _ => ∃ j : Nat, s' 8 = .int .i64 ((j : Nat) : Int) ∧ g = l.length - j ∧ j ≤ l.length) l.length ⟨0, rfl, rfl, Nat.zero_le _⟩ ?_
  rintro _ sd w1 hS1 ⟨j, h8, rfl, hj⟩
  refine W.fix h8 ?_
  clear h8
  by_cases hjl : j < l.length
  rotate_left
  · (refine jjB (jjC (jja rfl rfl (by omega) (jz (jjB (jjK rfl ?_))))); refine jjE (jjB (jjC (jJ (eI rfl) (jz (jjF ?_))))); refine jB rfl rfl ⟨inferInstance, ?_⟩)
    exact ⟨_, rfl⟩
  (refine jjB (jjC (jjZ rfl rfl (by omega) (jz (jjB (jjJ rfl ?_))))); refine jjG (jjB (jjD (jjB (jjC (jI (eI rfl) ?_))))); refine jJ (eI rfl) (jz (jjB (jjC (jI (eI rfl) (jI (eS rfl) ?_))))); refine jI (eI rfl) ?_; refine jF rfl rfl rfl (map_get (by omega)) ?_; intro _ _ _; refine jQ rfl rfl (jb rfl rfl (jz ?_)))
  repeat' (first|((first|apply jI|apply jJ); exact eI rfl)|(refine jW (jY rfl rfl (by omega) ?_))|refine jz ?_|(refine jjA ?_; (first|refine jjB ?_|refine jjC ?_|refine jjF ?_|refine jjG ?_))|(refine jjA ?_; (refine jjN rfl ?_ ?_ <;> intro _))|refine jB rfl rfl ⟨inferInstance, ?_⟩)
  · exact ⟨_, rfl⟩
  · exact ⟨rfl, by (((iterate 12 refine Same.upd rfl ?_); exact Same.ovN)), l.length - (j + 1), by omega, inferInstance, j + 1, congrArg (Value.int .i64) (by omega), rfl, by omega⟩
theorem Contains_ints (a : Option Addr) (c : Nat) (l : List Int) (x : Int) (w : World) [hrow : RowI w (.slice a l.length c) false 1 (l.map intV)] :
    Ct Tryz.prog 31 [.slice a l.length c, .int .i64 x] w fun v _ => ∃ B, v = .bool B := by
  refine Ct.ofW (by simp) ?_
  (refine jjB (jjC (jJ (eB rfl) (jz (jjB (jjC ?_))))); refine jI (eS rfl) (jI (eI rfl) ?_))
  refine jjQ (Index_ints a c l x _) rfl rfl ?_
  rintro _ w1 hS1 ⟨i, rfl⟩
  (refine jf rfl rfl (jJ (eB rfl) (jz (jjF ?_))); refine jB rfl rfl ⟨inferInstance, ?_⟩)
  all_goals exact ⟨_, rfl⟩

section
variable {P : Program} {ro : Option Nat} {n : Nat} {all rest : List Oper} {K : Sl → World → Prop} {s : Sl} {w : World} {d : Nat} {ty : Nat} {pos : String} {af : Array Edge}
theorem Ops.sliceArr {x : Operand} {t m e k bytes b : Nat} {z : Value} (hx : ev n s x = .pointer (some ⟨b, 0, none⟩)) (h0 : Nat.blt 0 m = true) [ht : TArr P t m e] [hz : TS P e z k bytes]
    (h : Ops P ro n all rest K (upd s d (.slice (some ⟨b, 0, none⟩) m m)) w) : Ops P ro n all (⟨some d, .slice t x none none none, ty, pos, af, none⟩ :: rest) K s w := by
  have h1 : 0 < m := by simpa using h0
  have h2 : ¬ m = 0 := by omega
  refine Ops.ofRun (v := .slice (some ⟨b, 0, none⟩) m m) (w' := w) rfl ?_ h
  simp [execOp, Instr.sliceAt, Instr.sliceBounds, Instr.sureAddr, hx, run_underlying ht.h, run_sizeOf' w hz, h2, Addr.add]
end
theorem row_two {w : World} {b : Nat} {x y : Int} (h : At w b 0 [.int .i64 x, .int .i64 y]) : RowV w false 1 (.slice (some ⟨b, 0, none⟩) 2 2) [.int .i64 x, .int .i64 y] :=
  ⟨by simp, by simp [fitsV], .inr ⟨b, 0, 2, rfl, by simp, fun j v hv => by
    match j, hv with
    | 0, hv => cases hv; exact ⟨fun i u hu => by
        match i, hu with
        | 0, hu => cases hu; exact h.h 0 _ rfl⟩
    | 1, hv => cases hv; exact ⟨fun i u hu => by
        match i, hu with
        | 0, hu => cases hu; exact h.h 1 _ rfl⟩⟩⟩
section
variable (bd : Nat) (v0 v1 v4 v5 : Value) (sa : Option Addr) (sc : Nat) (ss : List Shr) (xa : Option Addr) (xc : Nat) (xs : List Sht) (w : World)
  [hd : At w bd 0 [v0, v1, .slice sa ss.length sc, .slice xa xs.length xc, v4, v5]] [hss : RowI w (.slice sa ss.length sc) true 4 (ss.map encShr)] [hxs : RowI w (.slice xa xs.length xc) true 2 (xs.map encSht)]
def difB (ss : List Shr) (xs : List Sht) (k : Nat) : Bool := !(xs.getD k (false, none, 0, [])).1 || isTorn ss xs k
include hd hss hxs in
set_option maxHeartbeats 4000000 in
theorem differ1_hand (b1 : Nat) [hb : At w b1 0 [.pointer (some ⟨bd, 0, none⟩)]] {nl : Nat} (hp : PartsOk nl ss xs) (k : Nat) (hk : k < ss.length) : Ct Tryz.prog 106 [.int .i64 (k : Int), .pointer (some ⟨b1, 0, none⟩)] w fun v _ => v = .bool (difB ss xs k) := by
  have hx : k < xs.length := by rw [hp.len]; exact hk
  have hxl := hxs.h.len
  rw [List.length_map] at hxl
  have gx : (xs.map encSht)[k]? = some (encSht xs[k]) := by rw [List.getElem?_map, List.getElem?_eq_getElem hx]; rfl
  have e1 : xs.getD k (false, none, 0, []) = xs[k] := by rw [List.getD_eq_getElem?_getD, List.getElem?_eq_getElem hx]; rfl
  have e2 : isTorn ss xs k = tornB ss[k] xs[k] := by
    rw [isTorn, List.getD_eq_getElem?_getD, List.getD_eq_getElem?_getD, List.getElem?_eq_getElem hk, List.getElem?_eq_getElem hx]; rfl
  obtain ⟨B, hB⟩ : ∃ B, xs[k].1 = B := ⟨_, rfl⟩
  obtain ⟨T, hT⟩ : ∃ T, tornB ss[k] xs[k] = T := ⟨_, rfl⟩
  obtain ⟨pb, po, rfl, -⟩ := hxs.h.place' gx
  have A1 : ∀ V, Ext w V → At V pb (po + k * 2) [.bool B, .slice xs[k].2.1 xs[k].2.2.2.length xs[k].2.2.1] := fun V hE => by
    have := place_k (hxs.h.ext hE) gx
    rw [← hB]; exact this
  rw [difB, e1, e2, hB, hT]
  have hx0 := hxs.h
  have A0 := A1 _ (.refl w)
  clear hxs
  refine Ct.ofW (by simp) ?_
  (refine jjB (jjC (jJ (eB rfl) (jz (jjB (jjC ?_))))); refine jN rfl rfl rfl (jw rfl (jm (jn rfl (jm (jn rfl ?_))))); refine jN rfl rfl rfl (jI (eI rfl) ?_))
  refine jH k rfl rfl rfl (by omega) ?_
  cases B with
  | false =>
    (refine jm (jn rfl (jP rfl rfl rfl (jq rfl (jI (eB rfl) (jU rfl rfl rfl rfl ?_))))); refine jU rfl rfl rfl rfl (jU rfl rfl rfl rfl (jK rfl (eB rfl) (jJ (eB rfl) (jz (jjF ?_))))); refine jB rfl rfl ⟨inferInstance, ?_⟩)
    exact rfl
  | true =>
    (refine jm (jn rfl (jP rfl rfl rfl (jp rfl (jI (eB rfl) (jT rfl rfl rfl ?_))))); refine jN rfl rfl rfl (jT rfl rfl rfl (jI (eI rfl) (jT rfl rfl rfl ?_))))
    refine jjQ ((torn_hand bd v0 v1 v4 v5 sa sc ss (some ⟨pb, po, none⟩) xc xs _ (hxs := ⟨hx0⟩) hp k hk hx).mono fun v _ _ h => h.trans (by rw [hT])) rfl rfl ?_
    rintro _ w2 hS2 rfl
    cases T
    · (refine jL rfl (eB rfl) (jJ (eB rfl) (jz (jjF ?_))); refine jB rfl rfl ⟨inferInstance, ?_⟩)
      exact rfl
    · (refine jL rfl (eB rfl) (jJ (eB rfl) (jz (jjF ?_))); refine jB rfl rfl ⟨inferInstance, ?_⟩)
      exact rfl
variable [hxi : ShtI w xs]
include hd hss hxs hxi in
set_option maxHeartbeats 8000000 in
theorem differ_hand {nl : Nat} {hs : List Hp} (hp : RoundOk nl hs ss xs) : Ct Tryz.prog 63 [.pointer (some ⟨bd, 0, none⟩)] w fun v w' => ∃ (ps : List (Int × Int)) (a : Option Addr) (c : Nat), v = .slice a ps.length c ∧ ps.length ≤ 8 ∧ (∀ p ∈ ps, (0 ≤ p.1 ∧ p.1 < (ss.length : Int)) ∧ 0 ≤ p.2 ∧ p.2 < (ss.length : Int)) ∧ RowV w' true 2 (.slice a ps.length c) (ps.map encII) := by
  have hs1 := hp.s1
  have hx1 := hp.x1
  refine Ct.ofW (by simp) ?_
  (refine jjB (jjC ?_))
  (refine jy rfl ?_; intro b1 w_b1 hb_b1 hs_b1 hS_b1 hk_b1; have hA_b1 := At.ofBlock hk_b1)
  (refine jJ (eS rfl) (jz (jjB (jjC (jJ (eS rfl) (jz ?_))))); refine jjB (jjB (jjC (jJ (eI rfl) (jz (jjD ?_))))))
  have z1 := hS_b1.size
  refine W.keep0 [(1, .pointer (some ⟨b1, 0, none⟩)), (3, .slice none 0 0), (4, .int .i64 ((1 : Nat) : Int))] ⟨eP rfl, eS rfl, eI rfl, trivial⟩ fun s0 => ?_
  refine W.loopG (9 :: 10 :: 11 :: 12 :: 13 :: 14 :: 15 :: 16 :: 19 :: 20 :: 21 :: 22 :: 5 :: 23 :: 24 :: 25 :: 26 :: 27 :: 28 :: 29 :: 30 :: 31 :: 32 :: 33 :: 34 :: 35 :: 36 :: 37 :: 38 :: 39 :: 40 :: 41 :: 42 :: 43 :: 44 :: 6 :: 7 :: 45 :: 46 :: 47 :: 48 :: 49 :: 50 :: 51 :: 52 :: 53 :: 54 :: 55 :: 56 :: 57 :: 58 :: 59 :: 60 :: 61 :: 62 :: 63 :: 64 :: 65 :: 66 :: 8 :: 67 :: 68 :: 69 :: 70 :: 71 :: 72 :: 73 :: 74 :: 75 :: 76 :: 77 :: 78 :: 79 :: 80 :: 81 :: 3 :: 17 :: 18 :: 4 :: []) (fun g s' V => ∃ (i : Nat) (lv : Value) (ps : List (Int × Int)), s' 4 = .int .i64 (i : Int) ∧ s' 3 = lv ∧ g = ss.length + 1 - i ∧ 1 ≤ i ∧ i ≤ ss.length + 1 ∧ ps.length + 1 ≤ i ∧ (∀ p ∈ ps, (0 ≤ p.1 ∧ p.1 < (ss.length : Int)) ∧ 0 ≤ p.2 ∧ p.2 < (ss.length : Int)) ∧ Ext w_b1 V ∧ OwnL V w_b1.heap.size 141 true 2 lv (ps.map encII)) ss.length ⟨1, _, [], rfl, rfl, by omega, by omega, by omega, by simp, by simp, .refl _, OwnL.nil _ _ _ _ _⟩ ?_
  rintro _ sd V ⟨i, lv, ps, h4, h3, rfl, hi1, hi2, hpl, hpb, hEV, hO⟩
  obtain ⟨la, lc, rfl⟩ := hO.slice
  rw [List.length_map] at hO h3
  refine W.fix h4 (W.fix (d := 3) h3 ?_)
  clear h4 h3
  have hEV' := hEV.toStep
  have hEw : Ext w V := hS_b1.ext.trans hEV
  have hEw' := hEw.toStep
  have zV := hEV.size
  by_cases hk : i < ss.length
  rotate_left
  · (refine jjB (jjB (jjC (jI (eI rfl) (jN rfl rfl rfl (jw rfl ?_))))); refine jm (jn rfl (jm (jn rfl (jN rfl rfl rfl (jh rfl ?_))))); refine jja rfl rfl (by omega) (jz (jjK rfl (jjE (jjB (jjC ?_))))); refine jI (eS rfl) (jJ (eS rfl) (jz (jjF ?_))); refine jB rfl rfl ⟨inferInstance, ?_⟩)
    exact ⟨ps, la, lc, rfl, by omega, hpb, hO.row⟩
  obtain ⟨j, rfl⟩ : ∃ j, i = j + 1 := ⟨i - 1, by omega⟩
  have hj : j < ss.length := by omega
  have ej : (((j + 1 : Nat) : Int) - 1) = (j : Int) := by omega
  (refine jjB (jjB (jjC (jI (eI rfl) (jN rfl rfl rfl (jw rfl ?_))))); refine jm (jn rfl (jm (jn rfl (jN rfl rfl rfl (jh rfl ?_))))); refine jjZ rfl rfl (by omega) (jz (jjJ rfl (jjG (jjB (jjD ?_))))); refine jjB (jjC (jI (eI rfl) (jZ rfl rfl (by omega) (jI (eI rfl) ?_)))))
  (refine jjS (cells := [.int .i64 (((j + 1 : Nat) : Int) - 1), .int .i64 ((j + 1 : Nat) : Int)]) ?_ ?_; exact rfl)
  (apply jjR rfl; (intro _; first|exact eI rfl|exact eB rfl|exact eP rfl|exact eS rfl|exact eT rfl|exact eA rfl|exact eU rfl|exact eF rfl|exact eM rfl|exact eN rfl|exact rfl); exact rfl; exact rfl; exact rfl; exact rfl; intro b5 w_b5 hb_b5 hs_b5 hS_b5 hk_b5; have hA_b5 := Bk.of hk_b5)
  have hE5 : Ext w_b1 w_b5 := hEV.trans hS_b5.ext
  have hE5' := hE5.toStep
  have hE5w : Ext w w_b5 := hS_b1.ext.trans hE5
  have hE5w' := hE5w.toStep
  have A5 : At w_b5 b5 0 [.int .i64 (((j + 1 : Nat) : Int) - 1), .int .i64 ((j + 1 : Nat) : Int)] := Bk.toAt (h := hA_b5)
  rw [ej] at A5
  have R5 : RowV w_b5 false 1 (.slice (some ⟨b5, 0, none⟩) [j, j + 1].length 2) ([j, j + 1].map natV) := row_two A5
  obtain ⟨C, hC⟩ : ∃ C, [j, j + 1].any (difB ss xs) = C := ⟨_, rfl⟩
  have A1 : At w_b5 b1 0 [.pointer (some ⟨bd, 0, none⟩)] := inferInstance
  have D5 : At w_b5 bd 0 [v0, v1, .slice sa ss.length sc, .slice xa xs.length xc, v4, v5] := inferInstance
  have S5 : RowI w_b5 (.slice sa ss.length sc) true 4 (ss.map encShr) := inferInstance
  have X5 : RowI w_b5 (.slice xa xs.length xc) true 2 (xs.map encSht) := inferInstance
  (refine jz (jjB (jjB (jjC ?_))))
  refine Ops.sliceArr rfl rfl ?_
  (refine jv ?_)
  refine jjQ ((ContainsFunc_int _ _ (.func (.func 106) #[] [Value.pointer (some ⟨b1, 0, none⟩)].toArray) natV [j, j + 1] (difB ss xs) R5 ⟨_, _, rfl, inferInstance, fun w' x hx hs' => differ1_hand bd v0 v1 v4 v5 sa sc ss xa xc xs w' (hd := D5.ext hs') (hss := ⟨S5.h.ext hs'⟩) (hxs := ⟨X5.h.ext hs'⟩) b1 (hb := A1.ext hs') hp.parts x (by simp only [List.mem_cons, List.not_mem_nil, or_false] at hx; omega)⟩).mono fun v _ _ h => h.trans (by rw [hC])) rfl rfl ?_
  rintro _ w6 hS6 rfl
  have hE6 : Ext w_b1 w6 := hE5.trans hS6.ext
  have hE6w : Ext w w6 := hS_b1.ext.trans hE6
  have hE6' := hE6.toStep
  cases C with
  | true =>
    (refine jz (jjJ rfl (jjE (jjC (jI (eI rfl) (jY rfl rfl (by omega) ?_))))); refine jJ (eI rfl) (jz ?_))
    exact ⟨rfl, by (((iterate 21 refine Same.upd rfl ?_); exact Same.ovN)), ss.length + 1 - (j + 1 + 1), by omega, j + 1 + 1, _, ps, congrArg (Value.int .i64) (by omega), rfl, by omega, by omega, by omega, by omega, hpb, hE6, hO.ext (hS_b5.ext.trans hS6.ext)⟩
  | false =>
  rw [List.any_cons, List.any_cons, List.any_nil, Bool.or_false, Bool.or_eq_false_iff] at hC
  obtain ⟨c1, c2⟩ := hC
  have hxj : j < xs.length := by omega
  have hxk : j + 1 < xs.length := by omega
  have big : ∀ k (h : k < ss.length) (hx : k < xs.length), difB ss xs k = false → (xs[k].2.2.2.length : Int) = sizeF ss[k] := fun k h hx hd => by
    rw [difB, Bool.or_eq_false_iff] at hd
    obtain ⟨d1, d2⟩ := hd
    rw [List.getD_eq_getElem?_getD, List.getElem?_eq_getElem hx, Option.getD_some] at d1
    rw [isTorn, List.getD_eq_getElem?_getD, List.getD_eq_getElem?_getD, List.getElem?_eq_getElem h, List.getElem?_eq_getElem hx, Option.getD_some, Option.getD_some, tornB] at d2
    have d3 : xs[k].1 = true := by simpa using d1
    rw [d3] at d2
    simpa using d2
  have lj := big j hj hxj c1
  have lk := big (j + 1) hk hxk c2
  have pj := hp.sp j hj
  have pk := hp.sp (j + 1) hk
  have po := hp.so (j + 1) hk (by omega)
  have few := hp.few
  simp only [Nat.add_sub_cancel] at po
  rw [sizeF] at lj lk
  obtain ⟨K, hK⟩ : ∃ K : Nat, max 0 (ss[j].2.1 - ss[j + 1].1 + 1) = (K : Int) := ⟨(max 0 (ss[j].2.1 - ss[j + 1].1 + 1)).toNat, by omega⟩
  obtain ⟨lo, hlo⟩ : ∃ lo : Nat, (xs[j].2.2.2.length : Int) - (K : Int) = (lo : Int) := ⟨((xs[j].2.2.2.length : Int) - (K : Int)).toNat, by omega⟩
  have hK2 : K ≤ xs[j + 1].2.2.2.length := by omega
  have gx : ∀ k (h : k < xs.length), (xs.map encSht)[k]? = some (encSht xs[k]) := fun k h => by rw [List.getElem?_map, List.getElem?_eq_getElem h]; rfl
  have gs : ∀ k (h : k < ss.length), (ss.map encShr)[k]? = some (encShr ss[k]) := fun k h => by rw [List.getElem?_map, List.getElem?_eq_getElem h]; rfl
  have AX : ∀ k (h : k < xs.length) b o, xa = some ⟨b, o, none⟩ → ∀ V, Ext w_b1 V → At V b (o + k * 2) [.bool xs[k].1, .slice xs[k].2.1 xs[k].2.2.2.length xs[k].2.2.1] := fun k h b o e V hE => by
    subst e
    exact place_k (hxs.h.ext (hS_b1.ext.trans hE)) (gx k h)
  have AS : ∀ k (h : k < ss.length) b o, sa = some ⟨b, o, none⟩ → ∀ V, Ext w_b1 V → At V b (o + k * 4) [.int .i64 ss[k].1, .int .i64 ss[k].2.1, .int .i64 ss[k].2.2.1, .int .i64 ss[k].2.2.2] := fun k h b o e V hE => by
    subst e
    exact place_k (hss.h.ext (hS_b1.ext.trans hE)) (gs k h)
  have gx0 := gx j hxj
  have gs0 := gs j hj
  obtain ⟨xb, xo, exa, -⟩ := hxs.h.place' gx0
  obtain ⟨sb, so, esa, -⟩ := hss.h.place' gs0
  have AY := fun k h => AX k h xb xo exa
  have AT := fun k h => AS k h sb so esa
  clear AX AS
  have rj := (hxi.line hxj).h
  have rk := (hxi.line hxk).h
  have wj := hxi.words _ (List.getElem_mem hxj)
  have wk := hxi.words _ (List.getElem_mem hxk)
  obtain ⟨Lj, hLj⟩ : ∃ L, xs[j].2.2.2 = L := ⟨_, rfl⟩
  obtain ⟨Lk, hLk⟩ : ∃ L, xs[j + 1].2.2.2 = L := ⟨_, rfl⟩
  clear gx gs gx0 gs0 big c1 c2
  subst exa esa
  (refine jz (jjK rfl (jjG (jjB ?_))))
  refine W.draw (fun w' => Ext w_b1 w') ?_
  intro w7 hS7
  have q7 := hE6.trans hS7.ext
  refine jjV [0, 1, 2, 3, 4, 5] (by decide +kernel) q7 ?_
  (((apply jjT; exact rfl; rintro w' hq; have := hq.toStep; have := (hS_b1.ext.trans hq).toStep; refine jN rfl rfl rfl (jz ?_); exact ⟨rfl, rfl⟩; apply jjT; exact rfl; rintro w' hq; have := hq.toStep; have := (hS_b1.ext.trans hq).toStep; refine jw rfl (jz ?_); exact ⟨rfl, rfl⟩; apply jjT; exact rfl; rintro w' hq; have := hq.toStep; have := (hS_b1.ext.trans hq).toStep; refine jm (jn rfl (jz ?_)); exact ⟨rfl, rfl⟩; apply jjT; exact rfl; rintro w' hq; have := hq.toStep; have := (hS_b1.ext.trans hq).toStep; refine jm (jn rfl (jz ?_)); exact ⟨rfl, rfl⟩; apply jjT; exact rfl; rintro w' hq; have := hq.toStep; have := (hS_b1.ext.trans hq).toStep; refine jN rfl rfl rfl (jz ?_); exact ⟨rfl, rfl⟩; apply jjT; exact rfl; rintro w' hq; have := hq.toStep; have := (hS_b1.ext.trans hq).toStep; refine jI (eI rfl) (jz ?_); exact ⟨rfl, rfl⟩; refine jjU ?_)))
  refine jjV [6] (by decide +kernel) q7 (jjT (v := .int .i64 (j : Int)) rfl (fun w' q1 => ?_) (jjU ?_)); (refine jZ rfl rfl (by omega) ?_; rw [ej]; refine jz ?_; exact ⟨rfl, rfl⟩)
  refine jjV [7] (by decide +kernel) q7 (jjT (v := .pointer (some ⟨xb, xo + j * 2, none⟩)) rfl (fun w' q1 => ?_) (jjU ?_)); (refine jH j rfl rfl rfl (by omega) ?_; refine jz ?_; exact ⟨rfl, rfl⟩)
  refine jjV [8] (by decide +kernel) q7 ?_
  (((apply jjT; exact rfl; rintro w' hq; refine jm (jn rfl (jz ?_)); exact ⟨rfl, rfl⟩; refine jjU ?_)))
  refine jjV [9] (by decide +kernel) q7 (jjT (v := .slice xs[j].2.1 xs[j].2.2.2.length xs[j].2.2.1) rfl (fun w' q1 => ?_) (jjU ?_)); (refine jR ((AY j hxj _ q1).get (i := 1) rfl) rfl rfl ?_; refine jz ?_; exact ⟨rfl, rfl⟩)
  refine jjV [10, 11, 12, 13, 14, 15] (by decide +kernel) q7 ?_
  (((apply jjT; exact rfl; rintro w' hq; have := hq.toStep; have := (hS_b1.ext.trans hq).toStep; refine jN rfl rfl rfl (jz ?_); exact ⟨rfl, rfl⟩; apply jjT; exact rfl; rintro w' hq; have := hq.toStep; have := (hS_b1.ext.trans hq).toStep; refine jw rfl (jz ?_); exact ⟨rfl, rfl⟩; apply jjT; exact rfl; rintro w' hq; have := hq.toStep; have := (hS_b1.ext.trans hq).toStep; refine jm (jn rfl (jz ?_)); exact ⟨rfl, rfl⟩; apply jjT; exact rfl; rintro w' hq; have := hq.toStep; have := (hS_b1.ext.trans hq).toStep; refine jm (jn rfl (jz ?_)); exact ⟨rfl, rfl⟩; apply jjT; exact rfl; rintro w' hq; have := hq.toStep; have := (hS_b1.ext.trans hq).toStep; refine jN rfl rfl rfl (jz ?_); exact ⟨rfl, rfl⟩; apply jjT; exact rfl; rintro w' hq; have := hq.toStep; have := (hS_b1.ext.trans hq).toStep; refine jI (eI rfl) (jz ?_); exact ⟨rfl, rfl⟩; refine jjU ?_)))
  refine jjV [16] (by decide +kernel) q7 (jjT (v := .pointer (some ⟨xb, xo + (j + 1) * 2, none⟩)) rfl (fun w' q1 => ?_) (jjU ?_)); (refine jH (j + 1) rfl rfl rfl (by omega) ?_; refine jz ?_; exact ⟨rfl, rfl⟩)
  refine jjV [17] (by decide +kernel) q7 ?_
  (((apply jjT; exact rfl; rintro w' hq; refine jm (jn rfl (jz ?_)); exact ⟨rfl, rfl⟩; refine jjU ?_)))
  refine jjV [18] (by decide +kernel) q7 (jjT (v := .slice xs[j + 1].2.1 xs[j + 1].2.2.2.length xs[j + 1].2.2.1) rfl (fun w' q1 => ?_) (jjU ?_)); (refine jR ((AY (j + 1) hxk _ q1).get (i := 1) rfl) rfl rfl ?_; refine jz ?_; exact ⟨rfl, rfl⟩)
  refine jjV [19, 20] (by decide +kernel) q7 ?_
  (((refine jjT rfl (fun _ _ => jJ (eS rfl) (jz ⟨rfl, rfl⟩)) (jjT rfl (fun _ _ => jJ (eS rfl) (jz ⟨rfl, rfl⟩)) (jjU ?_)))))
  refine jjX (by decide +kernel) q7 ?_
  (refine jjB ?_)
  refine W.draw (fun w' => Ext w_b1 w') ?_
  intro w8 hS8
  have q8 := q7.trans hS8.ext
  refine jjV [0, 1, 2, 3, 4, 5] (by decide +kernel) q8 ?_
  (((apply jjT; exact rfl; rintro w' hq; have := hq.toStep; have := (hS_b1.ext.trans hq).toStep; refine jN rfl rfl rfl (jz ?_); exact ⟨rfl, rfl⟩; apply jjT; exact rfl; rintro w' hq; have := hq.toStep; have := (hS_b1.ext.trans hq).toStep; refine jw rfl (jz ?_); exact ⟨rfl, rfl⟩; apply jjT; exact rfl; rintro w' hq; have := hq.toStep; have := (hS_b1.ext.trans hq).toStep; refine jm (jn rfl (jz ?_)); exact ⟨rfl, rfl⟩; apply jjT; exact rfl; rintro w' hq; have := hq.toStep; have := (hS_b1.ext.trans hq).toStep; refine jm (jn rfl (jz ?_)); exact ⟨rfl, rfl⟩; apply jjT; exact rfl; rintro w' hq; have := hq.toStep; have := (hS_b1.ext.trans hq).toStep; refine jN rfl rfl rfl (jz ?_); exact ⟨rfl, rfl⟩; apply jjT; exact rfl; rintro w' hq; have := hq.toStep; have := (hS_b1.ext.trans hq).toStep; refine jI (eI rfl) (jz ?_); exact ⟨rfl, rfl⟩; refine jjU ?_)))
  refine jjV [6] (by decide +kernel) q8 (jjT (v := .int .i64 (j : Int)) rfl (fun w' q1 => ?_) (jjU ?_)); (refine jZ rfl rfl (by omega) ?_; rw [ej]; refine jz ?_; exact ⟨rfl, rfl⟩)
  refine jjV [7] (by decide +kernel) q8 (jjT (v := .pointer (some ⟨sb, so + j * 4, none⟩)) rfl (fun w' q1 => ?_) (jjU ?_)); (refine jH j rfl rfl rfl (by omega) ?_; refine jz ?_; exact ⟨rfl, rfl⟩)
  refine jjV [8] (by decide +kernel) q8 ?_
  (((apply jjT; exact rfl; rintro w' hq; refine jm (jn rfl (jz ?_)); exact ⟨rfl, rfl⟩; refine jjU ?_)))
  refine jjV [9] (by decide +kernel) q8 (jjT (v := .int .i64 ss[j].2.1) rfl (fun w' q1 => ?_) (jjU ?_)); (refine jR ((AT j hj _ q1).get (i := 1) rfl) rfl rfl ?_; refine jz ?_; exact ⟨rfl, rfl⟩)
  refine jjV [10, 11, 12, 13, 14, 15] (by decide +kernel) q8 ?_
  (((apply jjT; exact rfl; rintro w' hq; have := hq.toStep; have := (hS_b1.ext.trans hq).toStep; refine jN rfl rfl rfl (jz ?_); exact ⟨rfl, rfl⟩; apply jjT; exact rfl; rintro w' hq; have := hq.toStep; have := (hS_b1.ext.trans hq).toStep; refine jw rfl (jz ?_); exact ⟨rfl, rfl⟩; apply jjT; exact rfl; rintro w' hq; have := hq.toStep; have := (hS_b1.ext.trans hq).toStep; refine jm (jn rfl (jz ?_)); exact ⟨rfl, rfl⟩; apply jjT; exact rfl; rintro w' hq; have := hq.toStep; have := (hS_b1.ext.trans hq).toStep; refine jm (jn rfl (jz ?_)); exact ⟨rfl, rfl⟩; apply jjT; exact rfl; rintro w' hq; have := hq.toStep; have := (hS_b1.ext.trans hq).toStep; refine jN rfl rfl rfl (jz ?_); exact ⟨rfl, rfl⟩; apply jjT; exact rfl; rintro w' hq; have := hq.toStep; have := (hS_b1.ext.trans hq).toStep; refine jI (eI rfl) (jz ?_); exact ⟨rfl, rfl⟩; refine jjU ?_)))
  refine jjV [16] (by decide +kernel) q8 (jjT (v := .pointer (some ⟨sb, so + (j + 1) * 4, none⟩)) rfl (fun w' q1 => ?_) (jjU ?_)); (refine jH (j + 1) rfl rfl rfl (by omega) ?_; refine jz ?_; exact ⟨rfl, rfl⟩)
  refine jjV [17] (by decide +kernel) q8 ?_
  (((apply jjT; exact rfl; rintro w' hq; refine jm (jn rfl (jz ?_)); exact ⟨rfl, rfl⟩; refine jjU ?_)))
  refine jjV [18] (by decide +kernel) q8 (jjT (v := .int .i64 ss[j + 1].1) rfl (fun w' q1 => ?_) (jjU ?_)); (refine jR ((AT (j + 1) hk _ q1).get (i := 0) rfl) rfl rfl ?_; refine jz ?_; exact ⟨rfl, rfl⟩)
  refine jjV [19] (by decide +kernel) q8 (jjT (v := .int .i64 (ss[j].2.1 - ss[j + 1].1)) rfl (fun w' q1 => ?_) (jjU ?_)); (refine jZ rfl rfl (by omega) (jz ?_); exact ⟨rfl, rfl⟩)
  refine jjV [20] (by decide +kernel) q8 (jjT (v := .int .i64 (ss[j].2.1 - ss[j + 1].1 + 1)) rfl (fun w' q1 => ?_) (jjU ?_)); (refine jY rfl rfl (by omega) (jz ?_); exact ⟨rfl, rfl⟩)
  refine jjV [21] (by decide +kernel) q8 (jjT (v := .int .i64 (K : Int)) rfl (fun w' q1 => ?_) (jjU ?_)); (refine jk rfl rfl ?_; rw [hK]; refine jz ?_; exact ⟨rfl, rfl⟩)
  refine jjV [22] (by decide +kernel) q8 ?_
  (((refine jjT rfl (fun _ _ => jJ (eI rfl) (jz ⟨rfl, rfl⟩)) (jjU ?_))))
  refine jjX (by decide +kernel) q8 ?_
  (refine jjB ?_)
  refine W.draw (fun w' => Ext w_b1 w') ?_
  intro w9 hS9
  have q9 := q8.trans hS9.ext
  refine jjV [0, 1, 2, 3] (by decide +kernel) q9 ?_
  (((refine jjT rfl (fun _ _ => jI (eS rfl) (jz ⟨rfl, rfl⟩)) (jjT rfl (fun _ _ => jI (eS rfl) (jz ⟨rfl, rfl⟩)) (jjT rfl (fun _ _ => jh rfl (jz ⟨rfl, rfl⟩)) (jjT rfl (fun _ _ => jI (eI rfl) (jz ⟨rfl, rfl⟩)) (jjU ?_)))))))
  refine jjV [4] (by decide +kernel) q9 (jjT (v := .int .i64 (lo : Int)) rfl (fun w' q1 => ?_) (jjU ?_)); (refine jZ rfl rfl (by omega) ?_; rw [hlo]; refine jz ?_; exact ⟨rfl, rfl⟩)
  refine jjV [5] (by decide +kernel) q9 (jjT (v := cutV xs[j].2.1 xs[j].2.2.1 1 lo xs[j].2.2.2.length) rfl (fun w' q1 => ?_) (jjU ?_)); (refine Ops.sliceXLv rfl rfl rfl (by omega) ?_; refine jz ?_; exact ⟨rfl, rfl⟩)
  refine jjV [6, 7] (by decide +kernel) q9 ?_
  (((refine jjT rfl (fun _ _ => jI (eS rfl) (jz ⟨rfl, rfl⟩)) (jjT rfl (fun _ _ => jI (eI rfl) (jz ⟨rfl, rfl⟩)) (jjU ?_)))))
  have kc := rk.cap
  rw [List.length_map] at kc
  refine jjV [8] (by decide +kernel) q9 (jjT (v := .slice xs[j + 1].2.1 K xs[j + 1].2.2.1) rfl (fun w' q1 => ?_) (jjU ?_)); (refine Ops.sliceXHv rfl rfl rfl (by omega) (by omega) ?_; refine jz ?_; exact ⟨rfl, rfl⟩)
  have r1 := rj.dropV (lo := lo) (by rw [List.length_map]; omega)
  have r2 := rk.takeV (hi := K) (by rw [List.length_map]; omega)
  rw [← List.map_drop] at r1
  rw [← List.map_take] at r2
  have n1 : xs[j].2.2.2.length - lo = (xs[j].2.2.2.drop lo).length := by rw [List.length_drop]
  have n2 : K = (xs[j + 1].2.2.2.take K).length := by rw [List.length_take]; omega
  have hEq := EqualFunc_lines (if xs[j].2.2.1 = lo then xs[j].2.1 else xs[j].2.1.map (·.add (lo * 1))) xs[j + 1].2.1 (xs[j].2.2.1 - lo) xs[j + 1].2.2.1 (xs[j].2.2.2.drop lo) (xs[j + 1].2.2.2.take K) w9 (by rw [← n1]; exact r1.ext (hS_b1.ext.trans q9)) (fun y hy => (wj y (List.mem_of_mem_drop hy)).ext (hS_b1.ext.trans q9)) (by rw [← n2]; exact r2.ext (hS_b1.ext.trans q9)) (fun y hy => (wk y (List.mem_of_mem_take hy)).ext (hS_b1.ext.trans q9))
  rw [← n1, ← n2] at hEq
  (apply jjW 9; (decide +kernel); exact rfl; (exact q9))
  refine jjQ hEq rfl rfl ?_
  rintro _ w10 hS10 ⟨B, rfl⟩
  have q10 := q9.trans hS10.ext
  refine jz ?_
  refine jjV [10] (by decide +kernel) q10 ?_
  (((refine jjT rfl (fun _ _ => js rfl (jz ⟨rfl, rfl⟩)) (jjU ?_))))
  refine jjX (by decide +kernel) q10 ?_
  have qO : Ext V w10 := hS_b5.ext.trans (hS6.ext.trans (hS7.ext.trans (hS8.ext.trans (hS9.ext.trans hS10.ext))))
  have q10w := hS_b1.ext.trans q10
  have zw := q10w.size
  have A10 : At w10 b5 0 [.int .i64 (j : Int), .int .i64 ((j + 1 : Nat) : Int)] := A5.ext (hS6.ext.trans (hS7.ext.trans (hS8.ext.trans (hS9.ext.trans hS10.ext))))
  cases B with
  | true =>
    (refine jjK rfl (jjG (jjC (jI (eI rfl) (jY rfl rfl (by omega) (jJ (eI rfl) ?_))))); refine jz ?_)
    exact ⟨rfl, by (((iterate 76 refine Same.upd rfl ?_); exact Same.ovN)), ss.length + 1 - (j + 1 + 1), by omega, j + 1 + 1, _, ps, congrArg (Value.int .i64) (by omega), rfl, by omega, by omega, by omega, by omega, hpb, q10, hO.ext qO⟩
  | false =>
    (refine jjJ rfl (jjC (jI (eS rfl) (jO rfl rfl rfl rfl ?_))))
    (refine jjP (v := .agg _) rfl (by exact rfl) (by exact rfl) (by exact rfl) (by exact rfl) ?_; intro b80 w_b80 hb_b80 hs_b80 hS_b80 hk_b80; have hR_b80 := RowV.one (agg := true) (k := 2) rfl hk_b80)
    have q80 := q10.trans hS_b80.ext
    have R80 : RowV w_b80 true 2 (.slice (some ⟨b80, 0, none⟩) 1 1) [encII ((j : Int), ((j + 1 : Nat) : Int))] := hR_b80
    refine Ops.appendL (hO.ext (qO.trans hS_b80.ext)) q80.size R80 rfl rfl rfl rfl rfl ?_ ?_ ?_
    · rw [List.length_map]; simp only [List.length_cons, List.length_nil]; omega
    · rw [List.length_map]; simp only [List.length_cons, List.length_nil]; omega
    intro v6 w11 hA11 hO11 _ _
    have e11 : ps.map encII ++ [encII ((j : Int), ((j + 1 : Nat) : Int))] = (ps ++ [((j : Int), ((j + 1 : Nat) : Int))]).map encII := by simp
    rw [e11] at hO11
    (refine jJ rfl (jz (jjC (jI (eI rfl) (jY rfl rfl (by omega) (jJ (eI rfl) ?_))))); refine jz ?_)
    refine ⟨rfl, by (((iterate 81 refine Same.upd rfl ?_); exact Same.ovN)), ss.length + 1 - (j + 1 + 1), by omega, j + 1 + 1, _, _, congrArg (Value.int .i64) (by omega), rfl, by omega, by omega, by omega, ?_, ?_, hA11.ext q80 (Nat.le_refl _), hO11⟩
    · rw [List.length_append]; simp only [List.length_cons, List.length_nil]; omega
    · intro p hp'
      rcases List.mem_append.1 hp' with h | h
      · exact hpb p h
      · rw [List.mem_singleton] at h
        subst h
        simp only
        omega
end
end Go.Proofs.YtgnkloloehlfnaaGreatDoor

namespace Go.Proofs.YtgnkloloehlfnaaGreatDoor

def lsF (b : Nat) : Nat → List Int → List (List Int)
  | 0, l => [l]
  | m + 1, l => (List.range b).flatMap fun (n : Nat) => lsF b m (l ++ [(n : Int)])
theorem lsF_mem {b : Nat} : ∀ {m : Nat} {l x : List Int}, x ∈ lsF b m l ↔ ∃ r : List Int, x = l ++ r ∧ r.length = m ∧ ∀ y ∈ r, 0 ≤ y ∧ y < (b : Int)
  | 0, l, x => by
    simp only [lsF, List.mem_singleton]
    constructor
    · rintro rfl; exact ⟨[], by simp⟩
    · rintro ⟨r, rfl, h, -⟩
      rw [List.length_eq_zero_iff] at h
      simp [h]
  | m + 1, l, x => by
    simp only [lsF, List.mem_flatMap, List.mem_range]
    constructor
    · rintro ⟨n, hn, hx⟩
      obtain ⟨r, rfl, hr, hy⟩ := lsF_mem.1 hx
      refine ⟨(n : Int) :: r, by simp, by simp [hr], fun y hy' => ?_⟩
      rcases List.mem_cons.1 hy' with rfl | h
      · omega
      · exact hy y h
    · rintro ⟨r, rfl, hr, hy⟩
      cases r with
      | nil => simp at hr
      | cons y r =>
        have h0 := hy y (by simp)
        refine ⟨y.toNat, by omega, lsF_mem.2 ⟨r, ?_, by simpa using hr, fun z hz => hy z (by simp [hz])⟩⟩
        have e : ((y.toNat : Nat) : Int) = y := by omega
        rw [e]; simp
end Go.Proofs.YtgnkloloehlfnaaGreatDoor
namespace Go.Proofs.YtgnkloloehlfnaaGreatDoor
open Go.RowKit

section
variable {P : Program} {ro : Option Nat} {n : Nat} {X : Ctx} {s : Sl} {ds : List Deferred} {w : World}
theorem W.rangeRQ {α : Type} {g : Operand} {ps : List Nat} {assign body : Code} (N : Nat) (xs : List α) (rel : α → List Value → World → Prop) {gf : Nat} {lb : List Value} (Gs : World → World → World → Prop)
    (hg : ev n s g = .func (.func gf) #[] lb.toArray) [he : Enters P gf] (hps : ∀ x vs V, rel x vs V → vs.length = ps.length) (hro : RoOk w ro) (hmk : Mks N w ds) (hN : N ≤ w.heap.size)
    (J : Nat → World → Prop) (Jx : Code → Nat → World → Prop) (hJ : ∀ i V V', J i V → Grow w.heap.size V V' → J i V') (hJx : ∀ c i V V', Jx c i V → Grow w.heap.size V V' → Jx c i V')
    (hJG : ∀ V1 i V V', Ext w V1 → V1.heap.size ≤ V.heap.size → J i V → Gs V1 V V' → J i V') (hJxG : ∀ V1 c i V V', Ext w V1 → V1.heap.size ≤ V.heap.size → Jx c i V → Gs V1 V V' → Jx c i V')
    (hGt : ∀ V1 V V', Ext w V1 → V1.heap.size ≤ V.heap.size → Gs V1 V V' → V.heap.size ≤ V'.heap.size ∧ ∀ (k : Nat) (o : Obj), k < V1.heap.size → V.heap[k]? = some o → Obj.loopy o = true → V'.heap[k]? = some o)
    (h0 : J 0 w) (M : World → Nat → Prop) (hW3 : ∀ i V V' k, J i V → Grow w.heap.size V V' → M V' k → M V k ∨ V.heap.size ≤ k)
    (hit : ∀ (l : Nat) (J' Jx' : Nat → World → Prop) (V1 : World), Ext w V1 → (∀ i V, J' i V → J i V ∧ V1.heap.size ≤ V.heap.size) → (∀ i V, Jx' i V → (∃ c, Jx c i V) ∧ V1.heap.size ≤ V.heap.size) →
      (∀ i V V', J' i V → Gs V1 V V' → J' i V') → (∀ i V V', Jx' i V → Gs V1 V V' → Jx' i V') →
      (∀ i x vs V, xs[i]? = some x → rel x vs V → J' i V → Yd P l vs V fun e V' => (e = .returned (.bool true) ∧ J' (i + 1) V' ∧ Fr M V V') ∨ (e = .returned (.bool false) ∧ Jx' (i + 1) V')) → J' 0 V1 →
      Calls P gf ([Value.func (.yield l) #[] #[]] ++ lb).toArray V1 fun e w' => (∃ v, e = .returned v) ∧ (J' xs.length w' ∨ ∃ i, i ≤ xs.length ∧ Jx' i w'))
    (A : α → Sl → World → Prop) (hA : ∀ x s V V', A x s V → Grow w.heap.size V V' → A x s V')
    (hassign : ∀ l i x vs V, xs[i]? = some x → rel x vs V → J i V → w.heap.size ≤ l → IsRec V l →
      W P (some l) n assign { nx := fun s' ds' V' => ds' = [] ∧ Tr V V' ∧ Fr M V V' ∧ J i V' ∧ A x s' V', rt := fun _ _ _ => False, ex := fun _ _ _ _ => False } (setPs s ps vs) [] V)
    (hbody : ∀ l i x s' V, xs[i]? = some x → J i V → A x s' V → w.heap.size ≤ l → IsRec V l →
      W P (some l) n body { nx := fun _ _ V' => Tr V V' ∧ Fr M V V' ∧ J (i + 1) V', rt := fun _ _ V' => Tr V V' ∧ Jx .ret (i + 1) V', ex := fun id _ _ V' => Tr V V' ∧ Jx (.exit id) (i + 1) V' } s' [] V)
    (hdone : ∀ ds' V, Mks N V ds' → Tr w V → J xs.length V → X.nx s ds' V)
    (hstop : ∀ ds' c i V, Mks N V ds' → Tr w V → i ≤ xs.length → Jx c i V → W P ro n c X s ds' V) :
    W P ro n (.rangeFunc g ps.toArray assign body) X s ds w := by
  unfold W at hassign hbody hstop ⊢
  refine wpIn_rangeFunc ?_
  intro fn hfn
  -- the world in which the iterator is called
  have enter : ∃ (l : Nat) (mark : List Deferred) (df : Nat) (V1 : World) (rec : LoopState → Option Code → Loop), (∀ st pe, (rec st pe).state = st ∧ (rec st pe).pending = pe ∧ (rec st pe).fn = fn ∧ (rec st pe).tmps = (mkA n s ds).tmps ∧ (rec st pe).params = ps.toArray ∧ (rec st pe).assign = assign ∧ (rec st pe).body = body ∧ (rec st pe).defers = df) ∧
      (Instr.enterLoop fn (mkA n s ds).tmps ps.toArray assign body (Fw ro).round).run P w = .ok (l, mark) V1 ∧ V1.heap[l]? = some (.loop (rec .ready none)) ∧ w.heap.size ≤ l ∧ Ext w V1 ∧ MksP N V1 (mark ++ ds) := by
    cases ro with
    | none =>
      refine ⟨_, _, w.heap.size, _, fun st pe => { state := st, pending := pe, fn, tmps := (mkA n s ds).tmps, params := ps.toArray, assign, body, defers := w.heap.size }, fun st pe => ⟨rfl, rfl, rfl, rfl, rfl, rfl, rfl, rfl⟩, run_enterLoop_outer _ _ _ _ _, ?_, by omega, ?_, ?_⟩
      · have := World.alloc_heap_new (w.alloc (.deferred (some []))) (.loop { state := .ready, pending := none, fn, tmps := (mkA n s ds).tmps, params := ps.toArray, assign, body, defers := w.heap.size })
        rwa [World.size_alloc] at this
      · exact ⟨((Below.refl _ w).alloc (Nat.le_refl _) _).alloc (by simp) _⟩
      · have hE : Ext w ((w.alloc (.deferred (some []))).alloc (.loop { state := .ready, pending := none, fn, tmps := (mkA n s ds).tmps, params := ps.toArray, assign, body, defers := w.heap.size })) := ⟨((Below.refl _ w).alloc (Nat.le_refl _) _).alloc (by simp) _⟩
        refine ⟨⟨w.heap.size, rfl, hN, ?_, fun d' hd' => ?_⟩, hmk.h.tr hE.tr⟩
        · exact (Below.heap_alloc _ _ _ (by simp)).trans (World.alloc_heap_new w _)
        · obtain ⟨D, rfl, hlt⟩ := hmk.h.lt d' hd'
          intro e
          simp only [Deferred.mk.injEq, Target.collected.injEq, and_true] at e
          omega
    | some l0 =>
      obtain ⟨r0, hr0⟩ := (show IsRec w l0 from hro).h
      have hE : ∀ o, Ext w (w.alloc o) := fun o => ⟨(Below.refl _ w).alloc (Nat.le_refl _) _⟩
      exact ⟨_, _, r0.defers, _, fun st pe => { state := st, pending := pe, fn, tmps := (mkA n s ds).tmps, params := ps.toArray, assign, body, defers := r0.defers }, fun st pe => ⟨rfl, rfl, rfl, rfl, rfl, rfl, rfl, rfl⟩, run_enterLoop_inner hr0 _ _ _ _ _, World.alloc_heap_new w _, by omega, hE _, hmk.h.tr (hE _).tr⟩
  obtain ⟨l, mark, df, V1, rec, hrec, hent, hL1, hl, hE1, hM1⟩ := enter
  have hE1' : w.heap.size ≤ V1.heap.size := hE1.size
  have hl1 : l < V1.heap.size := (Array.getElem?_eq_some_iff.1 hL1).1
  have eN : ∀ st pe st' pe', ({ rec st pe with state := st', pending := pe' } : Loop) = rec st' pe' := fun st pe st' pe' => by
    obtain ⟨a1, a2, a3, a4, a5, a6, a7, a8⟩ := hrec st pe
    obtain ⟨b1, b2, b3, b4, b5, b6, b7, b8⟩ := hrec st' pe'
    generalize hx : rec st' pe' = y at *
    generalize hy : rec st pe = x at *
    cases x; cases y
    simp_all
  refine ⟨l, mark, V1, { target := .fn (.func gf) lb.toArray, args := #[.func (.yield l) #[] #[]] }, V1, gf, ([Value.func (.yield l) #[] #[]] ++ lb).toArray, V1, hent, ?_, fun _ _ => trivial, ?_, fun h => by simp [Fw, Fence.wide] at h, ?_⟩
  · simp only [resolve, mkA_eval, hg]
    simp [Deferred.ofValue, ev]
  · have e : (#[Value.func (.yield l) #[] #[]] ++ lb.toArray : Array Value) = ([Value.func (.yield l) #[] #[]] ++ lb).toArray := by simp
    simp only [invoke]
    rw [e]
    exact he.h _ _
  have hcalls := hit l (fun i V => J i V ∧ V.heap[l]? = some (.loop (rec .ready none)) ∧ MksP N V (mark ++ ds) ∧ Tr V1 V)
      (fun i V => ∃ c, Jx c i V ∧ V.heap[l]? = some (.loop (rec .done (some c))) ∧ MksP N V (mark ++ ds) ∧ V1.heap.size ≤ V.heap.size ∧ ∀ k, k ≠ l → ∀ o, V1.heap[k]? = some o → Obj.loopy o = true → V.heap[k]? = some o) V1 hE1
      (fun i V h => ⟨h.1, h.2.2.2.size⟩) (fun i V h => by obtain ⟨c, h1, _, _, h5, _⟩ := h; exact ⟨⟨c, h1⟩, h5⟩)
      (fun i V V' h g => by
        have hs : V1.heap.size ≤ V.heap.size := h.2.2.2.size
        obtain ⟨t1, t2⟩ := hGt V1 V V' hE1 hs g
        exact ⟨hJG V1 i V V' hE1 hs h.1 g, t2 l _ hl1 h.2.1 rfl, h.2.2.1.trB t2 hM1.lt, ⟨Nat.le_trans hs t1, fun k o hk ho => t2 k o (Array.getElem?_eq_some_iff.1 hk).1 (h.2.2.2.keep k o hk ho) ho⟩⟩)
      (fun i V V' h g => by
        obtain ⟨c, h1, h2, h3, h5, h4⟩ := h
        obtain ⟨t1, t2⟩ := hGt V1 V V' hE1 h5 g
        exact ⟨c, hJxG V1 c i V V' hE1 h5 h1 g, t2 l _ hl1 h2 rfl, h3.trB t2 hM1.lt, Nat.le_trans h5 t1, fun k hk o ho hlo => t2 k o (Array.getElem?_eq_some_iff.1 ho).1 (h4 k hk o ho hlo) hlo⟩)
      ?round ⟨hJ 0 _ _ h0 (hE1.grow (Nat.le_refl _)), hL1, hM1, Tr.refl _⟩
  case round =>
    rintro i x vs V hx hrel ⟨hj, hL, hM, hT⟩
    obtain ⟨c1, c2, c3, c4, c5, c6, c7, c8⟩ := hrec .ready none
    have hy := run_yield (P := P) (args := vs.toArray) hL (by rw [c5]; simpa using hps x vs V hrel)
    rw [c3, c4, c5, c6, c7] at hy
    have hNl : N ≤ l := by omega
    -- the record's own turns
    have turn : ∀ (V : World) (st st' : LoopState) (pe pe' : Option Code), V.heap[l]? = some (.loop (rec st pe)) → Grow w.heap.size V (V.putObj l (.loop (rec st' pe'))) ∧ (V.putObj l (.loop (rec st' pe'))).heap[l]? = some (.loop (rec st' pe')) ∧
        (∀ k, k ≠ l → (V.putObj l (.loop (rec st' pe'))).heap[k]? = V.heap[k]?) := fun V st st' pe pe' h =>
      ⟨Grow.putObj _ h rfl hl, World.putObj_heap_same (Array.getElem?_eq_some_iff.1 h).1, fun k hk => World.putObj_heap_other hk⟩
    have mks : ∀ (V : World) (o' : Loop), (∃ r, V.heap[l]? = some (.loop r)) → ∀ (dds : List Deferred), MksP N V dds → MksP N (V.putObj l (.loop o')) dds := by
      intro V o' hW dds
      induction dds with
      | nil => exact fun _ => trivial
      | cons d dds ih =>
        rintro ⟨⟨D, e, hD, hb, hne⟩, h⟩
        refine ⟨⟨D, e, hD, ?_, hne⟩, ih h⟩
        have : D ≠ l := by
          rintro rfl
          obtain ⟨r, hr⟩ := hW
          rw [hb] at hr; cases hr
        exact (World.putObj_heap_other this).trans hb
    refine ⟨fn, _, assign, body, hy, ?_⟩
    have hround : RoundIn (Fw none) 0 P l fn ((ps.toArray.zip vs.toArray).foldl (fun t (p, v) => t.setIfInBounds p v) (mkA n s ds).tmps) assign body V
        (fun e w' => (e = .returned (.bool true) ∧ (J (i + 1) w' ∧ w'.heap[l]? = some (.loop (rec .ready none)) ∧ MksP N w' (mark ++ ds) ∧ Tr V1 w') ∧ Fr M V w') ∨
          (e = .returned (.bool false) ∧ ∃ c, Jx c (i + 1) w' ∧ w'.heap[l]? = some (.loop (rec .done (some c))) ∧ MksP N w' (mark ++ ds) ∧ V1.heap.size ≤ w'.heap.size ∧ ∀ k, k ≠ l → ∀ o, V1.heap[k]? = some o → Obj.loopy o = true → w'.heap[k]? = some o)) := by
      refine roundIn_of_wpIn trivial ?_
      have hact := setPs_mkA n ps vs s ds
      rw [hact]
      refine wpIn_mono (hassign l i x vs V hx hrel hj hl ⟨_, hL⟩) fun e a w1 hp => ?_
      cases e with
      | ret => obtain ⟨_, _, _, h⟩ := hp; exact h.elim
      | exit i => obtain ⟨_, _, _, h⟩ := hp; exact h.elim
      | goto l => exact hp.elim
      | panic c => exact hp.elim
      | outgrown => exact hp.elim
      | normal =>
        obtain ⟨s', ds', rfl, rfl, ht1, hf1, hj1, hA1⟩ := hp
        have hLw1 := ht1.keep l _ hL rfl
        have hb := run_beginRound (P := P) hLw1 c1
        have hb' : ({ rec .ready none with state := .busy } : Loop) = rec .busy none := by
          have := eN .ready none .busy none
          rw [← this]; simp [c2]
        rw [hb'] at hb
        obtain ⟨g2, hL2, ho2⟩ := turn w1 .ready .busy none none hLw1
        refine ⟨_, hb, ?_⟩
        have hM2 := mks w1 (rec .busy none) ⟨_, hLw1⟩ _ (hM.tr ht1)
        refine wpIn_mono (hbody l i x s' _ hx (hJ _ _ _ hj1 g2) (hA _ _ _ _ hA1 g2) hl ⟨_, hL2⟩) fun e a w3 hp => ?_
        have fin : ∀ (jump : Option Code), Tr (w1.putObj l (.loop (rec .busy none))) w3 →
            (Instr.endRound l jump).run P w3 = .ok (.bool jump.isNone) (w3.putObj l (.loop (rec (if jump.isNone then .ready else .done) jump))) ∧
            Grow w.heap.size w3 (w3.putObj l (.loop (rec (if jump.isNone then .ready else .done) jump))) ∧
            (w3.putObj l (.loop (rec (if jump.isNone then .ready else .done) jump))).heap[l]? = some (.loop (rec (if jump.isNone then .ready else .done) jump)) ∧
            MksP N (w3.putObj l (.loop (rec (if jump.isNone then .ready else .done) jump))) (mark ++ ds) ∧
            (∀ k, k ≠ l → ∀ o, V1.heap[k]? = some o → Obj.loopy o = true → (w3.putObj l (.loop (rec (if jump.isNone then .ready else .done) jump))).heap[k]? = some o) := fun jump ht3 => by
          have hL3 := ht3.keep l _ hL2 rfl
          have hr := run_endRound (P := P) jump hL3
          rw [eN] at hr
          obtain ⟨g4, hL4, ho4⟩ := turn w3 .busy (if jump.isNone then .ready else .done) none jump hL3
          refine ⟨hr, g4, hL4, mks _ _ ⟨_, hL3⟩ _ (hM2.tr ht3), fun k hk o ho hlo => ?_⟩
          rw [ho4 k hk]
          refine ht3.keep k o ?_ hlo
          rw [ho2 k hk]
          exact ht1.keep k o (hT.keep k o ho hlo) hlo
        cases e with
        | normal =>
          obtain ⟨_, _, _, ht3, hf3, hj3⟩ := hp
          obtain ⟨hr, g4, hL4, hM4, ho4⟩ := fin none ht3
          refine ⟨_, _, hr, .inl ⟨rfl, ⟨hJ _ _ _ hj3 g4, hL4, hM4, ⟨?_, fun k o ho hlo => ?_⟩⟩, hf1.trans ((Fr.ofGrow g2 fun k => hW3 i _ _ k hj1 g2).trans (hf3.trans (Fr.ofGrow g4 fun k => hW3 (i + 1) _ _ k hj3 g4)))⟩⟩
          · exact Nat.le_trans hT.size (Nat.le_trans ht1.size (Nat.le_trans g2.size (Nat.le_trans ht3.size g4.size)))
          · by_cases e : k = l
            · subst e
              rw [hL1] at ho; cases ho
              exact hL4
            · exact ho4 k e o ho hlo
        | ret =>
          obtain ⟨_, _, _, ht3, hj3⟩ := hp
          obtain ⟨hr, g4, hL4, hM4, ho4⟩ := fin (some .ret) ht3
          exact ⟨_, _, hr, .inr ⟨rfl, .ret, hJx _ _ _ _ hj3 g4, hL4, hM4, Nat.le_trans hT.size (Nat.le_trans ht1.size (Nat.le_trans g2.size (Nat.le_trans ht3.size g4.size))), ho4⟩⟩
        | exit id =>
          obtain ⟨_, _, _, ht3, hj3⟩ := hp
          obtain ⟨hr, g4, hL4, hM4, ho4⟩ := fin (some (.exit id)) ht3
          exact ⟨_, _, hr, .inr ⟨rfl, .exit id, hJx _ _ _ _ hj3 g4, hL4, hM4, Nat.le_trans hT.size (Nat.le_trans ht1.size (Nat.le_trans g2.size (Nat.le_trans ht3.size g4.size))), ho4⟩⟩
        | goto l => exact hp.elim
        | panic c => exact hp.elim
        | outgrown => exact hp.elim
    exact hround
  have hc := (callsIn_wide (n := 0)).2 hcalls
  refine CallsIn.mono (F := Fw ro) (n := 0 - 1) hc fun e V2 hR => ?_
  obtain ⟨⟨v, rfl⟩, hR⟩ := hR
  have trw : ∀ (o : Loop) (V2 : World), V1.heap.size ≤ V2.heap.size → (∀ k, k ≠ l → ∀ o, V1.heap[k]? = some o → Obj.loopy o = true → V2.heap[k]? = some o) → Tr w (V2.putObj l (.loop o)) := fun o V2 hsz h4 =>
    ⟨by simp; omega, fun k ob hk hlo => by
      have hkw : k < w.heap.size := (Array.getElem?_eq_some_iff.1 hk).1
      have : k ≠ l := by omega
      rw [World.putObj_heap_other this]
      exact h4 k this ob (hE1.block' hk) hlo⟩
  have mks2 : ∀ (V : World) (o' : Loop), (∃ r, V.heap[l]? = some (.loop r)) → ∀ (dds : List Deferred), MksP N V dds → MksP N (V.putObj l (.loop o')) dds := by
    intro V o' hW dds
    induction dds with
    | nil => exact fun _ => trivial
    | cons d dds ih =>
      rintro ⟨⟨D, e, hD, hb, hne⟩, h⟩
      refine ⟨⟨D, e, hD, ?_, hne⟩, ih h⟩
      have : D ≠ l := by
        rintro rfl
        obtain ⟨r, hr⟩ := hW
        rw [hb] at hr; cases hr
      exact (World.putObj_heap_other this).trans hb
  rcases hR with ⟨hj, hL, hM, hT⟩ | ⟨i, hi, c, hj, hL, hM, hsz, hT⟩
  · have hr := run_endLoop (P := P) hL (by rw [(hrec .ready none).1]; simp)
    rw [(hrec .ready none).2.1] at hr
    refine ⟨none, _, hr, ?_⟩
    have g : ∀ o' : Loop, Grow w.heap.size V2 (V2.putObj l (.loop o')) := fun o' => Grow.putObj _ hL rfl hl
    exact ⟨s, _, rfl, hdone _ _ ⟨mks2 _ _ ⟨_, hL⟩ _ hM⟩ (trw _ _ hT.size (fun k _ o ho hlo => hT.keep k o ho hlo)) (hJ _ _ _ hj (g _))⟩
  · have hr := run_endLoop (P := P) hL (by rw [(hrec .done (some c)).1]; simp)
    rw [(hrec .done (some c)).2.1] at hr
    refine ⟨some c, _, hr, ?_⟩
    have g : ∀ o' : Loop, Grow w.heap.size V2 (V2.putObj l (.loop o')) := fun o' => Grow.putObj _ hL rfl hl
    exact hstop _ c i _ ⟨mks2 _ _ ⟨_, hL⟩ _ hM⟩ (trw _ _ hsz hT) hi (hJx _ _ _ _ hj (g _))

end

section
variable {P : Program} {ro : Option Nat} {n : Nat} {all : List Oper} {S : World → Prop} {K : Sl → World → Prop}
theorem Ops1.mono {o : Oper} {s : Sl} {w : World} {K K' : Sl → World → Prop} (h : Ops P ro n all [o] K s w) (hk : ∀ s w, K s w → K' s w) : Ops P ro n all [o] K' s w := by
  rw [op1_ops] at h ⊢
  exact h.mono fun v w' h => hk _ _ h
theorem upd_swap {s : Sl} {d1 d2 : Nat} {v1 v2 : Value} (h : d1 ≠ d2) : upd (upd s d2 v2) d1 v1 = upd (upd s d1 v1) d2 v2 := by
  funext i
  simp only [upd]
  cases h1 : Nat.beq i d1 <;> cases h2 : Nat.beq i d2 <;> simp only [cond_true, cond_false]
  rw [Nat.eq_of_beq_eq_true h1] at h2
  exact absurd (Nat.eq_of_beq_eq_true h2) h
end

theorem Clone_int (a : Option Addr) (c : Nat) (l : List Int) (w : World) (hl : l.length ≤ 1000000) [hrow : RowI w (.slice a l.length c) false 1 (l.map intV)] :
    Ct Tryz.prog 88 [.slice a l.length c] w fun v w' => OwnL w' w.heap.size 3 false 1 v (l.map intV) := by
  refine Ct.ofW (by simp) ?_
  (refine jjB (jjC (jJ (eS rfl) (jz (jjB (jjB ?_))))); refine jjC (jI (eS rfl) ?_))
  refine Ops.eqlNil rfl rfl ?_
  repeat' (first|(apply jJ; exact eS rfl)|refine jz ?_|(refine jjA ?_; (first|refine jjB ?_|refine jjC ?_|refine jjF ?_|refine jjG ?_))|(refine jjA ?_; (refine jjO rfl ?_ ?_ <;> intro _))|refine jB rfl rfl ⟨inferInstance, ?_⟩)
  · obtain rfl : a = none := by cases a with
      | none => rfl
      | some x => cases ‹(some x).isNone = true›
    have e : l = [] := by have := row_none hrow.h; simpa using this
    subst e
    exact OwnL.nil _ _ _ _ _
  · refine Ops.buildSlice0 ?_
    intro b3 w4 hb3 hs4 hS4 hk4
    have hO4 := OwnL.empty (agg := false) (k := 1) (B := w.heap.size) (by omega) hk4
    (apply jI; exact eS rfl)
    refine Ops.appendL hO4 (by omega) (hrow.h.ext inferInstance) rfl rfl rfl rfl (all_ints' l) ?_ ?_ ?_
    · simp only [List.length_map, List.length_nil]; omega
    · simp only [List.length_map, List.length_nil]; omega
    intro v5 w5 hA hO5 _ _
    rw [List.nil_append] at hO5
    have hE5 : Ext w w5 := hA.ext inferInstance (Nat.le_refl _)
    have hS5 := hE5.toStep
    (refine jJ rfl (jz (jjF ?_)); refine jB rfl rfl ⟨inferInstance, ?_⟩)
    exact hO5

section
variable {P : Program} {ro : Option Nat} {n : Nat} {all : List Oper} {S : World → Prop} {K : Sl → World → Prop}
theorem AnyS.joinT {α β : Type} (i j : Nat) {o q : Oper} {fuel : Nat} {listed : Array Bool} {s : Sl} {w : World} {d1 d2 : Nat} (hne : d1 ≠ d2) (f1 : α → Value) (f2 : β → Value) (F : α → β → World → Prop)
    (hr : (Nat.blt 1 fuel && (Region.ready .any all.toArray listed == [i, j]) && (Region.ready .any all.toArray (listed.setIfInBounds i true) == [j]) && (Region.ready .any all.toArray (listed.setIfInBounds j true) == [i]) && ((listed.setIfInBounds j true).setIfInBounds i true == (listed.setIfInBounds i true).setIfInBounds j true)) = true)
    (ho : all[i]? = some o) (hq : all[j]? = some q) (hS : S w)
    (h1 : Ops P ro n all [o] (fun s1 w1 => S w1 ∧ Ops P ro n all [q] (fun s2 w2 => ∃ b1 b2, s2 = upd (upd s d1 (f1 b1)) d2 (f2 b2) ∧ F b1 b2 w2) s1 w1) s w)
    (h2 : Ops P ro n all [q] (fun s1 w1 => S w1 ∧ Ops P ro n all [o] (fun s2 w2 => ∃ b1 b2, s2 = upd (upd s d2 (f2 b2)) d1 (f1 b1) ∧ F b1 b2 w2) s1 w1) s w)
    (hk : ∀ b1 b2 w2, F b1 b2 w2 → AnyS P ro n all S K (fuel - 1 - 1) ((listed.setIfInBounds i true).setIfInBounds j true) (upd (upd s d1 (f1 b1)) d2 (f2 b2)) w2) : AnyS P ro n all S K fuel listed s w := by
  simp only [Bool.and_eq_true, beq_iff_eq] at hr
  obtain ⟨⟨⟨⟨hf, r1⟩, r2⟩, r3⟩, r4⟩ := hr
  have hf : 1 < fuel := by simpa using hf
  refine jjl i j (by simp [r1]; omega) ho hq hS (Ops1.mono h1 fun s1 w1 ⟨g1, g2⟩ => jjW j (by simp [r2]; omega) hq g1 (Ops1.mono g2 ?_)) (Ops1.mono h2 fun s1 w1 ⟨g1, g2⟩ => jjW i (by simp [r3]; omega) ho g1 (Ops1.mono g2 ?_))
  · rintro s2 w2 ⟨b1, b2, rfl, hF⟩
    exact hk b1 b2 w2 hF
  · rintro s2 w2 ⟨b1, b2, rfl, hF⟩
    rw [r4, upd_swap hne]
    exact hk b1 b2 w2 hF
end
def IterN {α : Type} (P : Program) (gf : Nat) (lb : List Value) (xs : List α) (rel : α → List Value → World → Prop) (Fct : World → Prop) : Prop :=
  ∀ (l : Nat) (J : Nat → World → Prop) (M : World → Nat → Prop) (w : World), (∀ i w w', J i w → Ext w w' → J i w') → (∀ i w, J i w → Fct w) →
    (∀ i w k, J i w → M w k → k < w.heap.size) → (∀ i w w' k, J i w → Ext w w' → M w' k → M w k) →
    (∀ i x vs w, xs[i]? = some x → rel x vs w → J i w → Yd P l vs w fun e w' => e = .returned (.bool true) ∧ J (i + 1) w' ∧ Fr M w w') → J 0 w →
    Calls P gf ([Value.func (.yield l) #[] #[]] ++ lb).toArray w fun e w' => (∃ v, e = .returned v) ∧ J xs.length w'
theorem Yd.mono' {P : Program} {l : Nat} {args : List Value} {w : World} {R R' : Ending → World → Prop} (h : Yd P l args w R) (hr : ∀ e w', R e w' → R' e w') : Yd P l args w R' := by
  obtain ⟨fn, tmps, assign, body, h1, h2⟩ := h
  exact ⟨fn, tmps, assign, body, h1, h2.mono hr⟩
section
variable {P : Program} {ro : Option Nat} {n : Nat} {X : Ctx} {s : Sl} {ds : List Deferred} {w : World}
theorem W.rangeMN {α : Type} {g : Operand} {ps : List Nat} {assign body : Code} (N : Nat) (xs : List α) (rel : α → List Value → World → Prop) {Fct : World → Prop} {gf : Nat} {lb : List Value}
    (hit : IterN P gf lb xs rel Fct) (hg : ev n s g = .func (.func gf) #[] lb.toArray) [he : Enters P gf] (hps : ∀ x vs V, rel x vs V → vs.length = ps.length) (hro : RoOk w ro) (hmk : Mks N w ds) (hN : N ≤ w.heap.size)
    (J : Nat → World → Prop) (hJ : ∀ i V V', J i V → Grow w.heap.size V V' → J i V')
    (hF : ∀ i V, J i V → Fct V) (h0 : J 0 w) (M : World → Nat → Prop) (hW1 : ∀ i V k, J i V → M V k → k < V.heap.size) (hW2 : ∀ i V V' k, J i V → Grow w.heap.size V V' → M V' k → M V k) (hW3 : ∀ V V' k, Grow w.heap.size V V' → M V' k → M V k ∨ V.heap.size ≤ k)
    (A : α → Sl → World → Prop) (hA : ∀ x s V V', A x s V → Grow w.heap.size V V' → A x s V')
    (hassign : ∀ l i x vs V, xs[i]? = some x → rel x vs V → J i V → w.heap.size ≤ l → IsRec V l →
      W P (some l) n assign { nx := fun s' ds' V' => ds' = [] ∧ Tr V V' ∧ Fr M V V' ∧ J i V' ∧ A x s' V', rt := fun _ _ _ => False, ex := fun _ _ _ _ => False } (setPs s ps vs) [] V)
    (hbody : ∀ l i x s' V, xs[i]? = some x → J i V → A x s' V → w.heap.size ≤ l → IsRec V l →
      W P (some l) n body { nx := fun _ _ V' => Tr V V' ∧ Fr M V V' ∧ J (i + 1) V', rt := fun _ _ V' => Tr V V' ∧ False, ex := fun _ _ _ V' => Tr V V' ∧ False } s' [] V)
    (hdone : ∀ ds' V, Mks N V ds' → Tr w V → J xs.length V → X.nx s ds' V) :
    W P ro n (.rangeFunc g ps.toArray assign body) X s ds w :=
  W.rangeRQ N xs rel (fun _ V V' => Ext V V') hg hps hro hmk hN J (fun _ _ _ => False) hJ (fun _ _ _ _ h _ => h) (fun V1 i V V' hE hs h e => hJ i V V' h (e.grow (Nat.le_trans hE.size hs))) (fun _ _ _ _ _ _ _ h _ => h)
    (fun V1 V V' hE hs e => ⟨e.size, fun k o _ hk _ => e.block' hk⟩) h0 M (fun _ V V' k _ e h => hW3 V V' k e h)
    (fun l J' Jx' V1 hE h1 h2 h3 h4 hY h0' => (hit l J' M V1 h3 (fun i V h => hF i V (h1 i V h).1) (fun i V k h hm => hW1 i V k (h1 i V h).1 hm) (fun i V V' k h e hm => hW2 i V V' k (h1 i V h).1 (e.grow (Nat.le_trans hE.size (h1 i V h).2)) hm)
      (fun i x vs V hx hr hj => (hY i x vs V hx hr hj).mono' fun e V' h => h.resolve_right fun h' => (h2 _ _ h'.2).1.elim fun _ h => h) h0').mono fun e w' h => ⟨h.1, .inl h.2⟩)
    A hA hassign hbody hdone (fun _ _ _ _ _ _ _ h => h.elim)
end
def flK (b m : Nat) (x : List Int) (k : Nat) : List (List Int) := (List.range k).flatMap fun (n : Nat) => lsF b m (x ++ [(n : Int)])
theorem flK_succ (b m : Nat) (x : List Int) (k : Nat) : flK b m x (k + 1) = flK b m x k ++ lsF b m (x ++ [(k : Int)]) := by simp [flK, List.range_succ]
theorem flK_pre (b m : Nat) (x : List Int) (k : Nat) : ∀ j, k ≤ j → ∃ r, flK b m x j = flK b m x k ++ r := fun j => by
  induction j with
  | zero => intro h; obtain rfl : k = 0 := by omega
            exact ⟨[], by simp⟩
  | succ j ih =>
    intro h
    by_cases e : k = j + 1
    · subst e; exact ⟨[], by simp⟩
    · obtain ⟨r, hr⟩ := ih (by omega)
      exact ⟨r ++ lsF b m (x ++ [(j : Int)]), by rw [flK_succ, hr, List.append_assoc]⟩
theorem flK_get {b m : Nat} {x : List Int} {k t : Nat} {y : List Int} (hk : k < b) (h : (lsF b m (x ++ [(k : Int)]))[t]? = some y) : (lsF b (m + 1) x)[(flK b m x k).length + t]? = some y := by
  obtain ⟨r, hr⟩ := flK_pre b m x (k + 1) b (by omega)
  have e : lsF b (m + 1) x = flK b m x b := rfl
  have ht := (List.getElem?_eq_some_iff.1 h).1
  rw [e, hr, flK_succ, List.append_assoc, List.getElem?_append_right (Nat.le_add_right _ _), Nat.add_sub_cancel_left, List.getElem?_append_left ht]
  exact h
structure MoreF (M : World → Nat → Prop) (l b1 by_ b2 bm : Nat) (w : World) : Prop where
  ay : At w by_ 0 [.func (.yield l) #[] #[]]
  am : At w bm 0 [.func (.func 110) #[] [Value.pointer (some ⟨b1, 0, none⟩), .pointer (some ⟨by_, 0, none⟩), .pointer (some ⟨b2, 0, none⟩), .pointer (some ⟨bm, 0, none⟩)].toArray]
  ny : ¬ M w by_
  nm : ¬ M w bm
theorem At.fr {M : World → Nat → Prop} {w w' : World} {b o : Nat} {cs : List Value} (h : At w b o cs) (f : Fr M w w') (hn : ¬ M w b) : At w' b o cs := ⟨fun i v hv => by
  have hc := h.h i v hv
  obtain ⟨ob, hb, hd⟩ := cell_block hc
  have := f.keep b ob hb hd hn
  rw [← hc]
  exact World.cell?_of_block (a := ⟨b, o + i, none⟩) (this.trans hb.symm)⟩
theorem MoreF.fr {M : World → Nat → Prop} {l b1 by_ b2 bm : Nat} {w w' : World} (h : MoreF M l b1 by_ b2 bm w) (f : Fr M w w') : MoreF M l b1 by_ b2 bm w' := by
  have lt : ∀ {b cs}, At w b 0 cs → cs ≠ [] → ¬ M w b → ¬ M w' b := fun {b cs} hA hne hn hM => by
    rcases f.own b hM with h1 | h1
    · exact hn h1
    · cases cs with
      | nil => exact hne rfl
      | cons c cs => have := hA.lt; omega
  exact ⟨h.ay.fr f h.ny, h.am.fr f h.nm, lt h.ay (by simp) h.ny, lt h.am (by simp) h.nm⟩
abbrev relL (N : Nat) (x : List Int) (vs : List Value) (w : World) : Prop := ∃ a c, vs = [.slice a x.length c] ∧ OwnL w N 3 false 1 (.slice a x.length c) (x.map intV)
section
variable {xs : List (List Int)} (N l b1 by_ b2 bm size bound : Nat) (J : Nat → World → Prop) (M : World → Nat → Prop)
set_option maxHeartbeats 4000000 in
theorem more_hand (hsz : size ≤ 1000) (hbd : bound ≤ 1000) (hJ : ∀ i w w', J i w → Ext w w' → J i w') (hFc : ∀ i w, J i w → (At w b1 0 [.int .i64 (size : Int)] ∧ At w b2 0 [.int .i64 (bound : Int)]) ∧ N ≤ w.heap.size)
    (hM1 : ∀ i w k, J i w → M w k → k < w.heap.size) (hM2 : ∀ i w w' k, J i w → Ext w w' → M w' k → M w k)
    (hY : ∀ i x vs w, xs[i]? = some x → relL N x vs w → J i w → Yd Tryz.prog l vs w fun e w' => e = .returned (.bool true) ∧ J (i + 1) w' ∧ Fr M w w') :
    ∀ (m : Nat) (x : List Int) (i0 : Nat) (a : Option Addr) (c : Nat) (V : World), x.length + m = size → (∀ t y, (lsF bound m x)[t]? = some y → xs[i0 + t]? = some y) → J i0 V → MoreF M l b1 by_ b2 bm V →
      OwnL V N 3 false 1 (.slice a x.length c) (x.map intV) → (∀ g, (Value.slice a x.length c).ownBlock = some g → ¬ M V g) →
      Calls Tryz.prog 110 [.slice a x.length c, .pointer (some ⟨b1, 0, none⟩), .pointer (some ⟨by_, 0, none⟩), .pointer (some ⟨b2, 0, none⟩), .pointer (some ⟨bm, 0, none⟩)].toArray V fun e V' =>
        e = .returned (.bool true) ∧ J (i0 + (lsF bound m x).length) V' ∧ Fr M V V'
  | 0, x, i0, a, c, V, hl, hx, hj, hF, hO, hn => by
    have h0 := hx 0 x rfl
    have := (hFc _ _ hj).1.1
    have := hF.ay
    refine Calls.ofW (by simp) ?_
    have hxl : (x.length : Int) = (size : Int) := by omega
    (refine jjB (jjC (jJ (eB rfl) (jz (jjB (jjB ?_))))); refine jjC (jI (eS rfl) (jh rfl (jN rfl rfl rfl (jjh rfl rfl (by omega) (jz ?_))))); refine jjJ rfl (jjB (jjC (jN rfl rfl rfl (jI (eS rfl) ?_)))))
    refine Ops.yield (hY _ _ _ _ h0 ⟨_, _, rfl, hO⟩ hj) rfl rfl ?_
    rintro e V' ⟨rfl, h1, h2⟩
    refine ⟨_, rfl, ?_⟩
    (refine jJ (eB rfl) (jz (jjF ?_)))
    exact jB rfl rfl ⟨rfl, h1, h2⟩
  | m + 1, x, i0, a, c, V, hl, hx, hj, hF, hO, hn => by
    have ih := more_hand hsz hbd hJ hFc hM1 hM2 hY m
    have := (hFc _ _ hj).1.1
    have := (hFc _ _ hj).1.2
    refine Calls.ofW (by simp) ?_
    have hxl : ¬ (x.length : Int) = (size : Int) := by omega
    (refine jjB (jjC (jJ (eB rfl) (jz (jjB (jjB ?_))))); refine jjC (jI (eS rfl) (jh rfl (jN rfl rfl rfl (jji rfl rfl (by omega) (jz ?_))))); refine jjK rfl (jjG (jjB (jjB (jjC (jN rfl rfl rfl ?_))))); refine jI (eI rfl) (jz (jjD ?_)))
    refine W.keep0 [(0, .slice a x.length c), (1, .pointer (some ⟨b1, 0, none⟩)), (2, .pointer (some ⟨by_, 0, none⟩)), (3, .pointer (some ⟨b2, 0, none⟩)), (4, .pointer (some ⟨bm, 0, none⟩)), (15, .int .i64 (bound : Int)), (16, .int .i64 ((0 : Nat) : Int))] ⟨eS rfl, eP rfl, eP rfl, eP rfl, eP rfl, eI rfl, eI rfl, trivial⟩ fun s0 => ?_
    refine W.loopG (17 :: 18 :: 7 :: 19 :: 20 :: 21 :: 22 :: 23 :: 24 :: 25 :: 26 :: 6 :: 27 :: 16 :: []) (fun g s' V2 => ∃ k : Nat, s' 16 = .int .i64 (k : Int) ∧ g = bound - k ∧ k ≤ bound ∧ J (i0 + (flK bound m x k).length) V2 ∧ Fr M V V2) bound ⟨0, rfl, rfl, Nat.zero_le _, hj, Fr.refl _ _⟩ ?_
    rintro _ sd V2 ⟨k, h16, rfl, hk, hj2, hf2⟩
    refine W.fix h16 ?_
    clear h16
    by_cases hk1 : k < bound
    rotate_left
    · obtain rfl : k = bound := by omega
      (refine jjB (jjC (jja rfl rfl (by omega) (jz (jjB (jjK rfl ?_))))); refine jjE (jjB (jjC (jJ (eB rfl) (jz (jjF ?_))))))
      exact jB rfl rfl ⟨rfl, hj2, hf2⟩
    have hF2 := hF.fr hf2
    have := (hFc _ _ hj2).1.1
    have := (hFc _ _ hj2).1.2
    have zN := (hFc _ _ hj2).2
    have := hF2.am
    have hO2 : OwnL V2 N 3 false 1 (.slice a x.length c) (x.map intV) := hO.fr hf2 hn
    have i2 : RowI V2 (.slice a x.length c) false 1 (x.map intV) := ⟨hO2.row⟩
    (refine jjB (jjC (jjZ rfl rfl (by omega) (jz (jjB (jjJ rfl ?_))))); refine jjG (jjB (jjD (jjB (jjC (jI (eI rfl) ?_))))); refine jJ (eI rfl) (jz (jjB ?_)))
    have fE : ∀ w', Ext V2 w' → Fr M V2 w' := fun w' e => Fr.ofExt e fun g hg => .inl (hM2 _ _ _ _ hj2 e hg)
    refine W.draw (fun w' => Fr M V2 w') ?_
    intro w1 hS1
    refine jjV [0, 1, 3] (by decide +kernel) (fE _ hS1.ext) ?_
    (((apply jjT; exact rfl; rintro w' hq; have := hF2.am.fr hq hF2.nm; refine jN rfl rfl rfl (jz ?_); exact ⟨rfl, rfl⟩; apply jjT; exact rfl; rintro w' hq; have := hF2.am.fr hq hF2.nm; refine jI (eS rfl) (jz ?_); exact ⟨rfl, rfl⟩; apply jjT; exact rfl; rintro w' hq; have := hF2.am.fr hq hF2.nm; refine jI (eI rfl) (jz ?_); exact ⟨rfl, rfl⟩; refine jjU ?_)))
    refine AnyS.joinT 2 4 (d1 := 21) (d2 := 23) (by decide) (fun p : Option Addr × Nat => .slice p.1 x.length p.2) (fun b : Nat => .slice (some ⟨b, 0, none⟩) 1 1) (fun p b w2 => Ext V2 w2 ∧ OwnL w2 V2.heap.size 3 false 1 (.slice p.1 x.length p.2) (x.map intV) ∧ RowV w2 false 1 (.slice (some ⟨b, 0, none⟩) 1 1) [.int .i64 (k : Int)]) (by decide +kernel) rfl rfl (fE _ hS1.ext) ?_ ?_ ?_
    · refine jjQ (Clone_int a c x _ (by omega)) rfl rfl ?_
      rintro v3 w3 hS3 hO3
      obtain ⟨a3, c3, rfl⟩ := hO3.slice
      rw [List.length_map] at hO3 ⊢
      have z1 := hS1.size
      refine jz ⟨fE _ (hS1.ext.trans hS3.ext), ?_⟩
      (refine jjP (v := .int _ _) rfl (by exact rfl) (by exact rfl) (by exact rfl) (by exact rfl) ?_; intro b23 w_b23 hb_b23 hs_b23 hS_b23 hk_b23; have hR_b23 := RowV.one (agg := false) (k := 1) rfl hk_b23)
      exact jz ⟨(a3, c3), b23, rfl, hS1.ext.trans (hS3.ext.trans hS_b23.ext), (hO3.ext hS_b23.ext).mono (by omega), hR_b23⟩
    · (refine jjP (v := .int _ _) rfl (by exact rfl) (by exact rfl) (by exact rfl) (by exact rfl) ?_; intro b23 w_b23 hb_b23 hs_b23 hS_b23 hk_b23; have hR_b23 := RowV.one (agg := false) (k := 1) rfl hk_b23)
      have z1 := hS1.size
      have z2 := hS_b23.size
      refine jz ⟨fE _ (hS1.ext.trans hS_b23.ext), ?_⟩
      refine jjQ (Clone_int a c x _ (by omega)) rfl rfl ?_
      rintro v3 w3 hS3 hO3
      obtain ⟨a3, c3, rfl⟩ := hO3.slice
      rw [List.length_map] at hO3 ⊢
      exact jz ⟨(a3, c3), b23, rfl, hS1.ext.trans (hS_b23.ext.trans hS3.ext), hO3.mono (by omega), hR_b23.ext hS3.ext⟩
    rintro ⟨a3, c3⟩ b23 w2 ⟨hE2, hO3, hR23⟩
    have zE2 := hE2.size
    (apply jjW 5; (decide +kernel); exact rfl; (exact (fE _ hE2)))
    refine Ops.appendL hO3 (by omega) hR23 rfl rfl rfl rfl rfl ?_ ?_ ?_
    · rw [List.length_map]; simp only [List.length_cons, List.length_nil]; omega
    · rw [List.length_map]; simp only [List.length_cons, List.length_nil]; omega
    intro v5 w5 hA5 hO5 _ _
    obtain ⟨a5, c5, rfl⟩ := hO5.slice
    have hE5 : Ext V2 w5 := hA5.ext hE2 (Nat.le_refl _)
    have ek : x.map intV ++ [Value.int .i64 (k : Int)] = (x ++ [(k : Int)]).map intV := by simp
    have el : (x.map intV ++ [Value.int .i64 (k : Int)]).length = (x ++ [(k : Int)]).length := by simp
    rw [el, ek] at hO5
    rw [el]
    have hj5 := hJ _ _ _ hj2 hE5
    have hn5 : ∀ g, M w5 g → g < V2.heap.size := fun g hg => hM1 _ _ _ hj2 (hM2 _ _ _ _ hj2 hE5 hg)
    have f5 := fE _ hE5
    refine jz ?_
    (apply jjW 6; (decide +kernel); exact rfl; (exact (fE _ hE5)))
    refine Ops.callR rfl (Enters.h (P := Tryz.prog) (g := 110)) rfl (ih (x ++ [(k : Int)]) (i0 + (flK bound m x k).length) a5 c5 w5 (by rw [List.length_append]; simp only [List.length_cons, List.length_nil]; omega) (fun t y h => by rw [Nat.add_assoc]; exact hx _ _ (flK_get hk1 h)) hj5 (hF2.fr f5) (hO5.mono (by omega)) (fun g hg hM => by have := hn5 g hM; have := (hO5.block g hg).1; omega)) ?_
    rintro e V' ⟨rfl, h1, h2⟩
    refine ⟨_, rfl, ?_⟩
    refine jz ?_
    have f6 := f5.trans h2
    refine jjV [7] (by decide +kernel) f6 ?_
    (((refine jjT rfl (fun _ _ => jp rfl (jz ⟨rfl, rfl⟩)) (jjU ?_))))
    refine jjX (by decide +kernel) f6 ?_
    (refine jjK rfl (jjG (jjC (jY rfl rfl (by omega) (jI (eI rfl) (jz ?_))))))
    refine ⟨rfl, by (((iterate 14 refine Same.upd rfl ?_); exact Same.ovN)), bound - (k + 1), by omega, k + 1, congrArg (Value.int .i64) (by omega), rfl, by omega, ?_, hf2.trans f6⟩
    rw [flK_succ, List.length_append, ← Nat.add_assoc]
    exact h1
end
set_option maxHeartbeats 4000000 in
theorem lists1_hand (N b1 b2 size bound : Nat) (hsz : size ≤ 1000) (hbd : bound ≤ 1000) : IterN Tryz.prog 109 [.pointer (some ⟨b1, 0, none⟩), .pointer (some ⟨b2, 0, none⟩)] (lsF bound size []) (relL N) (fun w => (At w b1 0 [.int .i64 (size : Int)] ∧ At w b2 0 [.int .i64 (bound : Int)]) ∧ N ≤ w.heap.size) := by
  intro l J M w hJ hF hM1 hM2 hY h0
  refine Calls.ofW (by simp) ?_
  (refine jjB (jjC ?_))
  (refine jy rfl ?_; intro b3 w_b3 hb_b3 hs_b3 hS_b3 hk_b3; have hA_b3 := At.ofBlock hk_b3)
  (refine jz (jjB (jjC ?_)))
  ((skip); refine jjY ?_; intro b4 w_b4 hb_b4 hs_b4 hS_b4 hk_b4; have hA_b4 := Bk.of hk_b4)
  (refine jz (jjB (jjC (jv ?_))))
  refine Ops.store rfl rfl rfl rfl rfl ?_
  intro w5 hp5
  have hA4 : At w5 b4 0 [.func (.func 110) #[] [Value.pointer (some ⟨b1, 0, none⟩), .pointer (some ⟨b3, 0, none⟩), .pointer (some ⟨b2, 0, none⟩), .pointer (some ⟨b4, 0, none⟩)].toArray] := Bk.toAt (h := ⟨hp5.new⟩)
  have z4 := hS_b4.size
  have hE5 : Ext w w5 := hp5.ext (hS_b3.ext.trans hS_b4.ext) (by have := hS_b3.size; omega)
  have hA3 : At w5 b3 0 [.func (.yield l) #[] #[]] := hp5.at_ ((At.ofBlock hk_b3).ext hS_b4.ext) (by omega)
  (refine jz (jjC (jN rfl rfl rfl ?_)))
  have hj5 := hJ _ _ _ h0 hE5
  have hn5 : ∀ g, M w5 g → g < w.heap.size := fun g hg => hM1 _ _ _ h0 (hM2 _ _ _ _ h0 hE5 hg)
  refine Ops.callR rfl (Enters.h (P := Tryz.prog) (g := 110)) rfl (more_hand N l b1 b3 b2 b4 size bound J M hsz hbd hJ hF hM1 hM2 hY size [] 0 none 0 w5 (by simp) (fun t y h => by rw [Nat.zero_add]; exact h) hj5 ⟨hA3, hA4, fun h => by have := hn5 _ h; omega, fun h => by have := hn5 _ h; omega⟩ (OwnL.nil _ _ _ _ _) (fun g hg => by cases hg)) ?_
  rintro e V' ⟨rfl, h1, h2⟩
  refine ⟨_, rfl, ?_⟩
  (refine jz ?_; refine jA rfl ⟨⟨_, rfl⟩, ?_⟩)
  rw [Nat.zero_add] at h1
  exact h1

set_option maxHeartbeats 8000000 in
theorem best_hand (gf : Nat) (lb : List Value) (xs : List (List Int)) (cg : Nat) (cl : List Value) (Fct : Nat → World → Prop) (w : World) (hit : ∀ N, IterN Tryz.prog gf lb xs (relL N) (fun w => Fct N w)) [he : Enters Tryz.prog gf] [hc : Enters Tryz.prog cg] (hF : ∀ N w', Ext w w' → N ≤ w'.heap.size → Fct N w')
    (hcost : ∀ x ∈ xs, ∀ (V : World) (a : Option Addr) (c : Nat), Ext w V → RowV V false 1 (.slice a x.length c) (x.map intV) → Ct Tryz.prog cg ([.slice a x.length c] ++ cl) V fun r _ => ∃ (n : Int) (b : Bool), r = .tuple #[.int .i64 n, .bool b]) :
    Ct Tryz.prog 64 [.func (.func gf) #[] lb.toArray, .func (.func cg) #[] cl.toArray] w fun v w' => ∃ (l : List Int) (a : Option Addr) (c : Nat), v = .slice a l.length c ∧ RowV w' false 1 (.slice a l.length c) (l.map intV) ∧ (l = [] ∨ l ∈ xs) := by
  refine Ct.ofWM (by simp) ?_
  (refine jjB (jjC ?_))
  (refine jy rfl ?_; intro b3 w_b3 hb_b3 hs_b3 hS_b3 hk_b3; have hA_b3 := At.ofBlock hk_b3)
  (refine jJ (eS rfl) (jz (jjB (jjC ?_))))
  ((skip); refine jjY ?_; intro b5 w_b5 hb_b5 hs_b5 hS_b5 hk_b5; have hA_b5 := Bk.of hk_b5)
  (refine jz (jjB (jjC ?_)))
  (apply jjR rfl; (intro _; first|exact eI rfl|exact eB rfl|exact eP rfl|exact eS rfl|exact eT rfl|exact eA rfl|exact eU rfl|exact eF rfl|exact eM rfl|exact eN rfl|exact rfl); exact rfl; exact rfl; exact rfl; exact rfl; intro b6 w_b6 hb_b6 hs_b6 hS_b6 hk_b6; have hA_b6 := Bk.of hk_b6)
  (refine jz (jjB (jjB (jjC (jI (eF rfl) (jz ?_))))); refine jjD ?_)
  have z5 := hS_b5.size
  have z6 := hS_b6.size
  have z3 := hS_b3.size
  have hE6 : Ext w w_b6 := inferInstance
  have hB3 : At w_b6 b3 0 [.func (.func cg) #[] cl.toArray] := inferInstance
  have hB5 : Bk w_b6 b5 [.slice none 0 0] 50 := inferInstance
  have hB6 : Bk w_b6 b6 [.int .i64 (-1)] 3 := inferInstance
  refine W.rangeMN w.heap.size xs (relL w_b6.heap.size) (hit w_b6.heap.size) rfl (fun x vs V ⟨a, c, h, _⟩ => by rw [h]; rfl) trivial inferInstance hE6.size
    (fun _ V => Ext w V ∧ w_b6.heap.size ≤ V.heap.size ∧ At V b3 0 [.func (.func cg) #[] cl.toArray] ∧ ∃ (l : List Int) (a : Option Addr) (c : Nat) (n : Int), Bk V b5 [.slice a l.length c] 50 ∧ Bk V b6 [.int .i64 n] 3 ∧ OwnL V w_b6.heap.size 3 false 1 (.slice a l.length c) (l.map intV) ∧ (l = [] ∨ l ∈ xs))
    ?hJ ?hF ⟨hE6, Nat.le_refl _, hB3, [], none, 0, -1, hB5, hB6, OwnL.nil _ _ _ _ _, .inl rfl⟩
    (fun _ k => k = b5 ∨ k = b6) ?hW1 (fun _ _ _ _ _ _ h => h) (fun _ _ _ _ h => .inl h) (fun x s' V => ∃ (a : Option Addr) (c : Nat), s' 3 = .pointer (some ⟨b3, 0, none⟩) ∧ s' 5 = .pointer (some ⟨b5, 0, none⟩) ∧ s' 6 = .pointer (some ⟨b6, 0, none⟩) ∧ s' 7 = .slice a x.length c ∧ OwnL V w_b6.heap.size 3 false 1 (.slice a x.length c) (x.map intV))
    (fun x s V V' ⟨a, c, h1, h2, h3, h4, h5⟩ g => ⟨a, c, h1, h2, h3, h4, h5.grow g⟩) ?hassign ?hbody ?hdone
  case hJ =>
    rintro i V V' ⟨h1, h2, h3, l, a, c, n, k5, k6, hO, hl⟩ g
    exact ⟨h1.ofGrow g hE6.size, Nat.le_trans h2 g.size, h3.grow g, l, a, c, n, k5.grow g, k6.grow g, hO.grow g, hl⟩
  case hF =>
    rintro i V ⟨h1, h2, -⟩
    exact hF _ _ h1 h2
  case hW1 =>
    rintro i V k ⟨h1, h2, h3, l, a, c, n, k5, k6, hO, hl⟩ (rfl | rfl)
    · exact Bk.lt (h := k5)
    · exact Bk.lt (h := k6)
  case hassign =>
    rintro l' i x vs V hx ⟨a', c', rfl, hO'⟩ ⟨h1, h2, h3, l, a, c, n, k5, k6, hO, hl⟩ hl' hr
    (refine jjC (jJ (eS rfl) (jz ?_)))
    exact ⟨rfl, Tr.refl _, Fr.refl _ _, ⟨h1, h2, h3, l, a, c, n, k5, k6, hO, hl⟩, a', c', rfl, rfl, rfl, rfl, hO'⟩
  case hbody =>
    rintro l' i x s' V hx ⟨h1, h2, h3, l, a, c, n, k5, k6, hO, hl⟩ ⟨a', c', hs3, hs5, hs6, hs7, hO'⟩ hl' hr
    refine W.fix (d := 3) hs3 (W.fix (d := 5) hs5 (W.fix (d := 6) hs6 (W.fix (d := 7) hs7 ?_)))
    clear hs3 hs5 hs6 hs7
    have hxm := List.mem_of_getElem? hx
    (refine jjD (jjB (jjC (jN rfl rfl rfl (jI (eS rfl) ?_)))))
    refine jjQ (hcost x hxm _ a' c' h1 hO'.row) rfl rfl ?_
    rintro _ V2 hS2 ⟨m, B, rfl⟩
    have e2 := hS2.ext
    have k5' := k5.ext e2
    have k6' := k6.ext e2
    have A6 : At V2 b6 0 [.int .i64 n] := Bk.toAt (h := k6')
    cases B with
    | false =>
      (refine jI (eU rfl) (ju rfl rfl (ju rfl rfl (jJ (eI rfl) (jJ (eB rfl) (jz ?_))))); refine jjB (jjC (jI (eB rfl) (jI (eB rfl) (jU rfl rfl rfl rfl (jU rfl rfl rfl rfl ?_))))); refine jU rfl rfl rfl rfl (jV rfl rfl (jV rfl rfl (jV rfl rfl (jU rfl rfl rfl rfl (jL rfl (eB rfl) ?_))))); refine jz (jjK rfl (jjG ?_)))
      exact ⟨e2.tr, Fr.ext e2, h1.trans e2, by have := e2.size; omega, h3.ext e2, l, a, c, n, k5', k6', hO.ext e2, hl⟩
    | true =>
    have nb : ∀ b, b < w_b6.heap.size → (Value.slice a' x.length c').ownBlock ≠ some b := fun b hb e => by have := (hO'.block b e).1; omega
    rcases (by omega : (¬ n < 0 ∧ ¬ m < n) ∨ n < 0 ∨ (¬ n < 0 ∧ m < n)) with ⟨hn, hm⟩ | hn | ⟨hn, hm⟩
    · (refine jI (eU rfl) (ju rfl rfl (ju rfl rfl (jJ (eI rfl) (jJ (eB rfl) (jz ?_))))); refine jjB (jjC (jI (eB rfl) (jI (eB rfl) (jT rfl rfl rfl (jN rfl rfl rfl ?_))))); refine jT rfl rfl rfl (jja rfl rfl (by omega) (jT rfl rfl rfl (jI (eB rfl) (jT rfl rfl rfl (jI (eI rfl) ?_))))); refine jT rfl rfl rfl (jN rfl rfl rfl (jT rfl rfl rfl (jja rfl rfl (by omega) (jT rfl rfl rfl (jL rfl (eB rfl) ?_))))); refine jK rfl (eB rfl) (jz (jjK rfl (jjG ?_))))
      exact ⟨e2.tr, Fr.ext e2, h1.trans e2, by have := e2.size; omega, h3.ext e2, l, a, c, n, k5', k6', hO.ext e2, hl⟩
    all_goals
      repeat' (first|(refine jW ?_; (first|refine jjZ rfl rfl (by omega) ?_|refine jja rfl rfl (by omega) ?_))|((first|apply jI|apply jJ|apply jK rfl|apply jL rfl); (first|exact eI rfl|exact eB rfl|exact eS rfl|exact eU rfl))|(refine jM (jN rfl rfl rfl ?_))|(refine jS ?_; (first|refine jT rfl rfl rfl ?_|refine jU rfl rfl rfl rfl ?_))|refine ju rfl rfl ?_|refine jz ?_|(refine jjA ?_; (first|refine jjB ?_|refine jjC ?_|refine jjJ rfl ?_)))
      refine Ops.store rfl rfl rfl rfl rfl ?_
      intro V3 hp3
      have k63 : Bk V3 b6 [.int .i64 n] 3 := hp3.bk k6' (by omega)
      skip
      refine Ops.store rfl rfl rfl rfl rfl ?_
      intro V4 hp4
      repeat' (first|refine jz ?_)
      refine ⟨(e2.tr.trans (hp3.tr ⟨_, k5'.h, rfl⟩)).trans (hp4.tr ⟨_, k63.h, rfl⟩), ((Fr.ext e2).trans (hp3.frS (M := fun k => k = b5 ∨ k = b6) (.inl rfl))).trans (hp4.frS (M := fun k => k = b5 ∨ k = b6) (.inr rfl)), hp4.ext (hp3.ext (h1.trans e2) (by omega)) (by omega), ?_, hp4.at_ (hp3.at_ (h3.ext e2) (by omega)) (by omega), x, a', c', m, hp4.bk ⟨hp3.new⟩ (by omega), ⟨hp4.new⟩, ((hO'.ext e2).put hp3 (nb _ (by omega))).put hp4 (nb _ (by omega)), .inr hxm⟩
      rw [hp4.size, hp3.size]
      exact Nat.le_trans h2 e2.size
  case hdone =>
    rintro ds' V hmk htr ⟨h1, h2, h3, l, a, c, n, k5, k6, hO, hl⟩
    have A5 : At V b5 0 [.slice a l.length c] := Bk.toAt (h := k5)
    (refine jjB (jjC (jN rfl rfl rfl (jJ (eS rfl) (jz (jjF ?_))))))
    exact fin1M rfl rfl hmk fun w' g => ⟨h1.ofGrow g (Nat.le_refl _), l, a, c, rfl, (hO.grow g).row, hl⟩

theorem lists_hand (size bound : Nat) (w : World) : Ct Tryz.prog 65 [.int .i64 (size : Int), .int .i64 (bound : Int)] w fun v w' => ∃ b1 b2, v = .func (.func 109) #[] [Value.pointer (some ⟨b1, 0, none⟩), .pointer (some ⟨b2, 0, none⟩)].toArray ∧ At w' b1 0 [.int .i64 (size : Int)] ∧ At w' b2 0 [.int .i64 (bound : Int)] := by
  refine Ct.ofW (by simp) ?_
  (refine jjB (jjC ?_))
  (refine jy rfl ?_; intro b2 w_b2 hb_b2 hs_b2 hS_b2 hk_b2; have hA_b2 := At.ofBlock hk_b2)
  skip
  (refine jy rfl ?_; intro b3 w_b3 hb_b3 hs_b3 hS_b3 hk_b3; have hA_b3 := At.ofBlock hk_b3)
  (refine jJ rfl (jz (jjB (jjC (jv (jJ (eF rfl) ?_))))); refine jz (jjF ?_); refine jB rfl rfl ⟨inferInstance, ?_⟩)
  exact ⟨b2, b3, rfl, inferInstance, inferInstance⟩
section
variable (b3 : Nat) (a : Option Addr) (c : Nat) (out : List Int) (w : World) [h3 : At w b3 0 [.slice a out.length c]] [hout : RowI w (.slice a out.length c) false 1 (out.map intV)]
include h3 hout in
theorem again11_hand (i : Nat) (hi : i < out.length) : Ct Tryz.prog 68 [.int .i64 (i : Int), .pointer (some ⟨b3, 0, none⟩)] w fun v _ => v = .bool (decide (out.getD i 0 = 1)) := by
  have hl := hout.h.len
  rw [List.length_map] at hl
  have e : out.getD i 0 = out[i] := by rw [List.getD_eq_getElem?_getD, List.getElem?_eq_getElem hi]; rfl
  rw [e]
  refine Ct.ofW (by simp) ?_
  by_cases h : out[i] = 1
  · rw [decide_eq_true h]
    (refine jjB (jjC (jJ (eB rfl) (jz (jjB (jjC ?_))))); refine jN rfl rfl rfl (jI (eI rfl) ?_); refine jF rfl rfl rfl (map_get (by omega)) ?_; intro _ _ _; refine jQ rfl rfl (jjh rfl rfl (by omega) (jJ (eB rfl) (jz (jjF ?_)))); refine jB rfl rfl ⟨inferInstance, ?_⟩)
    exact rfl
  · rw [decide_eq_false h]
    (refine jjB (jjC (jJ (eB rfl) (jz (jjB (jjC ?_))))); refine jN rfl rfl rfl (jI (eI rfl) ?_); refine jF rfl rfl rfl (map_get (by omega)) ?_; intro _ _ _; refine jQ rfl rfl (jji rfl rfl (by omega) (jJ (eB rfl) (jz (jjF ?_)))); refine jB rfl rfl ⟨inferInstance, ?_⟩)
    exact rfl
end
def PairsB (n : Nat) (ps : List (Int × Int)) : Prop := ∀ p ∈ ps, (0 ≤ p.1 ∧ p.1 < (n : Int)) ∧ 0 ≤ p.2 ∧ p.2 < (n : Int)
section
variable (pa : Option Addr) (pc : Nat) (ps : List (Int × Int)) (a : Option Addr) (c : Nat) (out : List Int) (w : World) [hps : RowI w (.slice pa ps.length pc) true 2 (ps.map encII)] [hout : RowI w (.slice a out.length c) false 1 (out.map intV)]
set_option maxHeartbeats 4000000 in
theorem pairsOf_hand (hB : PairsB out.length ps) (hl : ps.length ≤ 1000) : Ct Tryz.prog 70 [.slice pa ps.length pc, .slice a out.length c] w fun v w' => ∃ (qs : List (Int × Int)) (qa : Option Addr) (qc : Nat), v = .slice qa qs.length qc ∧ RowV w' true 2 (.slice qa qs.length qc) (qs.map encII) := by
  have hlo := hout.h.len
  rw [List.length_map] at hlo
  refine Ct.ofW (by simp) ?_
  (refine jjB (jjC (jJ (eS rfl) (jz (jjB (jjC ?_))))); refine jJ (eS rfl) (jz (jjB (jjB (jjC (jI (eS rfl) ?_))))); refine jh rfl (jI (eI rfl) (jz (jjD ?_))))
  refine W.keep0 [(0, .slice pa ps.length pc), (1, .slice a out.length c), (5, .slice none 0 0), (8, .slice pa ps.length pc), (9, .int .i64 (ps.length : Int)), (10, .int .i64 ((0 : Nat) : Int))] ⟨eS rfl, eS rfl, eS rfl, eS rfl, eI rfl, eI rfl, trivial⟩ fun s0 => ?_
  refine W.loopG (11 :: 12 :: 13 :: 7 :: 14 :: 15 :: 16 :: 17 :: 18 :: 19 :: 20 :: 21 :: 22 :: 23 :: 24 :: 25 :: 26 :: 27 :: 5 :: 28 :: 10 :: []) (fun g s' V => ∃ (k : Nat) (lv : Value) (qs : List (Int × Int)), s' 10 = .int .i64 (k : Int) ∧ s' 5 = lv ∧ g = ps.length - k ∧ k ≤ ps.length ∧ qs.length = k ∧ Ext w V ∧ OwnL V w.heap.size 141 true 2 lv (qs.map encII)) ps.length ⟨0, _, [], rfl, rfl, rfl, Nat.zero_le _, rfl, .refl _, OwnL.nil _ _ _ _ _⟩ ?_
  rintro _ sd V ⟨k, lv, qs, h10, h5, rfl, hk, hq, hEV, hO⟩
  obtain ⟨la, lc, rfl⟩ := hO.slice
  rw [List.length_map] at hO h5
  refine W.fix h10 (W.fix (d := 5) h5 ?_)
  clear h10 h5
  have hEV' := hEV.toStep
  have zV := hEV.size
  by_cases hk1 : k < ps.length
  rotate_left
  · (refine jjB (jjC (jja rfl rfl (by omega) (jz (jjB (jjK rfl ?_))))); refine jjE (jjB (jjC (jI (eS rfl) (jJ (eS rfl) (jz ?_))))); refine jjF ?_; refine jB rfl rfl ⟨inferInstance, ?_⟩)
    exact ⟨qs, la, lc, rfl, hO.row⟩
  have gp : (ps.map encII)[k]? = some (encII ps[k]) := by rw [List.getElem?_map, List.getElem?_eq_getElem hk1]; rfl
  obtain ⟨⟨b1, b2⟩, b3, b4⟩ := hB _ (List.getElem_mem hk1)
  obtain ⟨x, y, hxy⟩ : ∃ x y, ps[k] = (x, y) := ⟨_, _, rfl⟩
  rw [hxy] at b1 b2 b3 b4 gp
  simp only at b1 b2 b3 b4
  obtain ⟨i, rfl⟩ : ∃ i : Nat, x = (i : Int) := ⟨x.toNat, by omega⟩
  obtain ⟨j, rfl⟩ : ∃ j : Nat, y = (j : Int) := ⟨y.toNat, by omega⟩
  have gi : (out.map intV)[i]? = some (intV (out[i]'(by omega))) := by rw [List.getElem?_map, List.getElem?_eq_getElem (by omega)]; rfl
  have gj : (out.map intV)[j]? = some (intV (out[j]'(by omega))) := by rw [List.getElem?_map, List.getElem?_eq_getElem (by omega)]; rfl
  obtain ⟨ob, oo, rfl, -⟩ := hout.h.place' gi
  have Ai : ∀ V, Ext w V → At V ob (oo + i * 1) [intV (out[i]'(by omega))] := fun V hE => place_k (hout.h.ext hE) gi
  have Aj : ∀ V, Ext w V → At V ob (oo + j * 1) [intV (out[j]'(by omega))] := fun V hE => place_k (hout.h.ext hE) gj
  (refine jjB (jjC (jjZ rfl rfl (by omega) (jz (jjB (jjJ rfl ?_))))); refine jjG (jjB (jjD (jjB (jjC ?_)))); refine jF rfl rfl rfl (map_get (by omega)) ?_; intro _ _ _; refine jQ rfl rfl ?_)
  (apply jjR rfl; (intro _; first|exact eI rfl|exact eB rfl|exact eP rfl|exact eS rfl|exact eT rfl|exact eA rfl|exact eU rfl|exact eF rfl|exact eM rfl|exact eN rfl|exact rfl); exact rfl; exact rfl; exact rfl; exact rfl; intro b7 w_b7 hb_b7 hs_b7 hS_b7 hk_b7; have hA_b7 := Bk.of hk_b7)
  have hE7 : Ext w w_b7 := hEV.trans hS_b7.ext
  have A7 : At w_b7 b7 0 [.int .i64 ps[k].1, .int .i64 ps[k].2] := Bk.toAt (h := hA_b7)
  rw [hxy] at A7
  (refine jz ?_)
  refine W.draw (fun w' => Ext w w' ∧ At w' b7 0 [.int .i64 (i : Int), .int .i64 (j : Int)]) ?_
  intro w1 hS1
  have hq1 : Ext w w1 ∧ At w1 b7 0 [.int .i64 (i : Int), .int .i64 (j : Int)] := ⟨hE7.trans hS1.ext, A7.ext hS1.ext⟩
  refine jjV [0, 1] (by decide +kernel) hq1 ?_
  (((refine jjT rfl (fun _ _ => jI (eS rfl) (jz ⟨rfl, rfl⟩)) (jjT rfl (fun _ _ => jI (eS rfl) (jz ⟨rfl, rfl⟩)) (jjU ?_)))))
  refine jjV [2] (by decide +kernel) hq1 (jjT (v := .pointer (some ⟨b7, 0, none⟩)) rfl (fun w' q1 => ?_) (jjU ?_)); (refine Ops.indexAP 0 rfl rfl rfl rfl ?_; refine jz ?_; exact ⟨rfl, rfl⟩)
  refine jjV [3] (by decide +kernel) hq1 (jjT (v := .int .i64 (i : Int)) rfl (fun w' q1 => ?_) (jjU ?_)); (refine jR (q1.2.get (i := 0) rfl) rfl rfl ?_; refine jz ?_; exact ⟨rfl, rfl⟩)
  refine jjV [4] (by decide +kernel) hq1 (jjT (v := .pointer (some ⟨ob, oo + i * 1, none⟩)) rfl (fun w' q1 => ?_) (jjU ?_)); (refine jH i rfl rfl rfl (by omega) ?_; refine jz ?_; exact ⟨rfl, rfl⟩)
  refine jjV [5] (by decide +kernel) hq1 (jjT (v := intV (out[i]'(by omega))) rfl (fun w' q1 => ?_) (jjU ?_)); (refine jR ((Ai _ q1.1).get (i := 0) rfl) rfl rfl ?_; refine jz ?_; exact ⟨rfl, rfl⟩)
  refine jjV [6] (by decide +kernel) hq1 ?_
  (((refine jjT rfl (fun _ _ => jI (eS rfl) (jz ⟨rfl, rfl⟩)) (jjU ?_))))
  refine jjV [7] (by decide +kernel) hq1 (jjT (v := .pointer (some ⟨b7, 1, none⟩)) rfl (fun w' q1 => ?_) (jjU ?_)); (refine Ops.indexAP 1 rfl rfl rfl rfl ?_; refine jz ?_; exact ⟨rfl, rfl⟩)
  refine jjV [8] (by decide +kernel) hq1 (jjT (v := .int .i64 (j : Int)) rfl (fun w' q1 => ?_) (jjU ?_)); (refine jR (q1.2.get (i := 1) rfl) rfl rfl ?_; refine jz ?_; exact ⟨rfl, rfl⟩)
  refine jjV [9] (by decide +kernel) hq1 (jjT (v := .pointer (some ⟨ob, oo + j * 1, none⟩)) rfl (fun w' q1 => ?_) (jjU ?_)); (refine jH j rfl rfl rfl (by omega) ?_; refine jz ?_; exact ⟨rfl, rfl⟩)
  refine jjV [10] (by decide +kernel) hq1 (jjT (v := intV (out[j]'(by omega))) rfl (fun w' q1 => ?_) (jjU ?_)); (refine jR ((Aj _ q1.1).get (i := 0) rfl) rfl rfl ?_; refine jz ?_; exact ⟨rfl, rfl⟩)
  refine jjV [11] (by decide +kernel) hq1 (jjT (v := encII (out[i]'(by omega), out[j]'(by omega))) rfl (fun w' q1 => ?_) (jjU ?_)); (refine jjS (cells := [intV (out[i]'(by omega)), intV (out[j]'(by omega))]) ?_ ?_; exact rfl; refine jz ?_; exact ⟨rfl, rfl⟩)
  (apply jjW 12; (decide +kernel); exact rfl; (exact hq1))
  (refine jjP (v := .agg _) rfl (by exact rfl) (by exact rfl) (by exact rfl) (by exact rfl) ?_; intro b26 w_b26 hb_b26 hs_b26 hS_b26 hk_b26; have hR_b26 := RowV.one (agg := true) (k := 2) rfl hk_b26)
  have hE26 : Ext w_b7 w_b26 := hS1.ext.trans hS_b26.ext
  have hR26 : RowV w_b26 true 2 (.slice (some ⟨b26, 0, none⟩) 1 1) [encII (out[i]'(by omega), out[j]'(by omega))] := hR_b26
  have zA := (hE7.trans hE26).size
  refine jz ?_
  (apply jjW 13; (decide +kernel); exact rfl; (exact ⟨hE7.trans hE26, A7.ext hE26⟩))
  refine Ops.appendL (hO.ext (hS_b7.ext.trans hE26)) zA hR26 rfl rfl rfl rfl rfl ?_ ?_ ?_
  · rw [List.length_map]; simp only [List.length_cons, List.length_nil]; omega
  · rw [List.length_map]; simp only [List.length_cons, List.length_nil]; omega
  intro v6 w6 hA6 hO6 _ _
  have hE6 : Ext w w6 := hA6.ext (hE7.trans hE26) (Nat.le_refl _)
  have hq6 : Ext w w6 ∧ At w6 b7 0 [.int .i64 (i : Int), .int .i64 (j : Int)] := ⟨hE6, hA6.at_ (A7.ext hE26) (fun e => by have := (hO.block b7 e).2; omega)⟩
  refine jz ?_
  have e6 : qs.map encII ++ [encII (out[i]'(by omega), out[j]'(by omega))] = (qs ++ [(out[i]'(by omega), out[j]'(by omega))]).map encII := by simp
  rw [e6] at hO6
  refine jjV [14] (by decide +kernel) hq6 ?_
  (((apply jjT; exact rfl; rintro w' hq; refine jJ rfl (jz ?_); exact ⟨rfl, rfl⟩; refine jjU ?_)))
  refine jjX (by decide +kernel) hq6 ?_
  (refine jjC (jY rfl rfl (by omega) (jI (eI rfl) (jz ?_))))
  exact ⟨rfl, by (((iterate 23 refine Same.upd rfl ?_); exact Same.ovN)), ps.length - (k + 1), by omega, k + 1, _, _, congrArg (Value.int .i64) (by omega), rfl, rfl, by omega, by rw [List.length_append]; simp only [List.length_cons, List.length_nil]; omega, hE6, hO6⟩
end
section
variable (b1 b2 : Nat) (ta : Option Addr) (tc : Nat) (ts : List Nat) (pa : Option Addr) (pc : Nat) (ps : List (Int × Int)) (a : Option Addr) (c : Nat) (out : List Int) (w : World) [h1 : At w b1 0 [.slice ta ts.length tc]] [h2 : At w b2 0 [.slice pa ps.length pc]]
  [hts : RowI w (.slice ta ts.length tc) false 1 (ts.map natV)] [hps : RowI w (.slice pa ps.length pc) true 2 (ps.map encII)] [hout : RowI w (.slice a out.length c) false 1 (out.map intV)]
include h1 h2 hts hps hout
set_option maxHeartbeats 8000000 in
theorem again1_hand (hT : ∀ t ∈ ts, t < out.length) (hB : PairsB out.length ps) (hl : ps.length ≤ 1000) (ho : ∀ y ∈ out, 0 ≤ y ∧ y < 2) (hlo : out.length ≤ 1000) : Ct Tryz.prog 66 [.slice a out.length c, .pointer (some ⟨b1, 0, none⟩), .pointer (some ⟨b2, 0, none⟩)] w fun r _ => ∃ (n : Int) (b : Bool), r = .tuple #[.int .i64 n, .bool b] := by
  refine Ct.ofW (by simp) ?_
  (refine jjB (jjC ?_))
  (refine jy rfl ?_; intro b3 w_b3 hb_b3 hs_b3 hS_b3 hk_b3; have hA_b3 := At.ofBlock hk_b3)
  (refine jJ (eI rfl) (jJ (eB rfl) (jz (jjB (jjC (jJ (eI rfl) ?_))))); refine jz (jjB (jjB (jjC (jN rfl rfl rfl (jh rfl ?_))))); refine jI (eI rfl) (jz (jjD ?_)))
  refine W.keep0 [(1, .pointer (some ⟨b1, 0, none⟩)), (2, .pointer (some ⟨b2, 0, none⟩)), (3, .pointer (some ⟨b3, 0, none⟩)), (6, .int .i64 0), (10, .slice a out.length c), (11, .int .i64 (out.length : Int)), (12, .int .i64 ((0 : Nat) : Int))] ⟨eP rfl, eP rfl, eP rfl, eI rfl, eS rfl, eI rfl, eI rfl, trivial⟩ fun s0 => ?_
  refine W.loop (13 :: 14 :: 15 :: 8 :: 16 :: 17 :: 18 :: 19 :: 6 :: 20 :: 12 :: []) (fun g s' V => ∃ (k : Nat) (n : Int), s' 12 = .int .i64 ((k : Nat) : Int) ∧ s' 6 = .int .i64 n ∧ g = out.length - k ∧ k ≤ out.length ∧ 0 ≤ n ∧ n ≤ k) out.length ⟨0, 0, rfl, rfl, rfl, Nat.zero_le _, Int.le_refl _, Int.le_refl _⟩ ?_
  rintro _ sd V hSV ⟨k, n, h12, h6, rfl, hk, hn0, hn1⟩
  refine W.fix h12 (W.fix (d := 6) h6 ?_)
  clear h12 h6
  by_cases hk1 : k < out.length
  · have hy := ho _ (List.getElem_mem hk1)
    (refine jjB (jjC (jjZ rfl rfl (by omega) (jz (jjB (jjJ rfl ?_))))); refine jjG (jjB (jjD (jjB (jjC ?_)))); refine jF rfl rfl rfl (map_get (by omega)) ?_; intro _ _ _; refine jQ rfl rfl (jJ (eI rfl) (jz (jjC (jI (eI rfl) (jI (eI rfl) ?_))))); refine jZ rfl rfl (by omega) (jY rfl rfl (by omega) (jJ (eI rfl) (jz (jjC (jY rfl rfl (by omega) ?_))))); refine jI (eI rfl) (jz ?_))
    exact ⟨rfl, by (((iterate 13 refine Same.upd rfl ?_); exact Same.ovN)), out.length - (k + 1), by omega, inferInstance, k + 1, n + (1 - out[k]), congrArg (Value.int .i64) (by omega), rfl, rfl, by omega, by omega, by omega⟩
  obtain ⟨T, hTT⟩ : ∃ T, ts.any (fun t => decide (out.getD t 0 = 1)) = T := ⟨_, rfl⟩
  have iT : RowI V (.slice ta ts.length tc) false 1 (ts.map natV) := inferInstance
  have iO : RowI V (.slice a out.length c) false 1 (out.map intV) := inferInstance
  have i3 : At V b3 0 [.slice a out.length c] := inferInstance
  (refine jjB (jjC (jja rfl rfl (by omega) (jz (jjB (jjK rfl ?_))))); refine jjE (jjB (jjC (jN rfl rfl rfl (jv ?_)))))
  refine jjQ ((ContainsFunc_int _ _ (.func (.func 68) #[] [Value.pointer (some ⟨b3, 0, none⟩)].toArray) natV ts (fun t => decide (out.getD t 0 = 1)) iT.h ⟨_, _, rfl, inferInstance, fun w' x hx hs' => again11_hand b3 a c out w' (h3 := i3.ext hs') (hout := ⟨iO.h.ext hs'⟩) x (hT x hx)⟩).mono fun v _ _ h => h.trans (by rw [hTT])) rfl rfl ?_
  rintro _ w2 hS2 rfl
  cases T with
  | true =>
    (refine jI (eB rfl) (jU rfl rfl rfl rfl (jU rfl rfl rfl rfl (jU rfl rfl rfl rfl (jU rfl rfl rfl rfl (jU rfl rfl rfl rfl ?_))))); refine jK rfl (eB rfl) (jJ (eB rfl) (jz (jjB (jjC (jI (eI rfl) ?_))))); refine jI (eB rfl) (jp rfl (jJ (eI rfl) (jJ (eB rfl) (jz (jjF ?_))))); refine jC rfl rfl rfl ⟨inferInstance, ?_⟩)
    exact ⟨_, _, rfl⟩
  | false =>
    (refine jI (eB rfl) (jT rfl rfl rfl (jN rfl rfl rfl (jT rfl rfl rfl (jN rfl rfl rfl (jT rfl rfl rfl ?_))))))
    refine jjQ (pairsOf_hand pa pc ps a c out _ hB hl) rfl rfl ?_
    rintro _ w3 hS3 ⟨qs, qa, qc, rfl, hQ⟩
    have iQ : RowI w3 (.slice qa qs.length qc) true 2 (qs.map encII) := ⟨hQ⟩
    (refine jT rfl rfl rfl ?_)
    (refine jjS (cells := [.int .i64 1, .int .i64 1]) ?_ ?_; exact rfl)
    (refine jT rfl rfl rfl ?_)
    refine jjQ (Contains_pairs qa qc qs (1, 1) _) rfl rfl ?_
    rintro _ w4 hS4 ⟨B, rfl⟩
    cases B with
    | true =>
      (refine jL rfl (eB rfl) (jJ (eB rfl) (jz (jjB (jjC (jI (eI rfl) ?_))))); refine jI (eB rfl) (jp rfl (jJ (eI rfl) (jJ (eB rfl) (jz (jjF ?_))))); refine jC rfl rfl rfl ⟨inferInstance, ?_⟩)
      exact ⟨_, _, rfl⟩
    | false =>
      (refine jL rfl (eB rfl) (jJ (eB rfl) (jz (jjB (jjC (jI (eI rfl) ?_))))); refine jI (eB rfl) (jq rfl (jJ (eI rfl) (jJ (eB rfl) (jz (jjF ?_))))); refine jC rfl rfl rfl ⟨inferInstance, ?_⟩)
      exact ⟨_, _, rfl⟩
end
section
variable (bd : Nat) (v0 v1 v4 v5 : Value) (sa : Option Addr) (sc : Nat) (ss : List Shr) (xa : Option Addr) (xc : Nat) (xs : List Sht) (w : World)
  [hd : At w bd 0 [v0, v1, .slice sa ss.length sc, .slice xa xs.length xc, v4, v5]] [hss : RowI w (.slice sa ss.length sc) true 4 (ss.map encShr)] [hxs : RowI w (.slice xa xs.length xc) true 2 (xs.map encSht)] [hxi : ShtI w xs]
include hd hss hxs hxi in
set_option maxHeartbeats 8000000 in
theorem again_hand {nl : Nat} {hs : List Hp} (hp : RoundOk nl hs ss xs) : Ct Tryz.prog 28 [.pointer (some ⟨bd, 0, none⟩)] w fun v w' => ∃ (l : List Int) (a : Option Addr) (c : Nat), v = .slice a l.length c ∧ RowV w' false 1 (.slice a l.length c) (l.map intV) := by
  have hs1 := hp.s1
  refine Ct.ofW (by simp) ?_
  (refine jjB (jjC (jJ (eS rfl) (jz (jjB (jjC ?_))))); refine jI (eP rfl) ?_)
  refine jjQ (allTorn_hand bd v0 v1 v4 v5 sa sc ss xa xc xs _ hp.parts (by omega)) rfl rfl ?_
  rintro _ w1 hS1 ⟨ta, tc, rfl, hOt⟩
  (apply jI; exact eP rfl)
  refine jjQ (differ_hand bd v0 v1 v4 v5 sa sc ss xa xc xs _ hp) rfl rfl ?_
  rintro _ w2 hS2 ⟨ps, pa, pc, rfl, hpl, hpb, hRp⟩
  have hRt := hOt.row.ext hS2.ext
  ((skip); refine jjY ?_; intro b3 w_b3 hb_b3 hs_b3 hS_b3 hk_b3; have hA_b3 := Bk.of hk_b3)
  ((skip); refine jjY ?_; intro b4 w_b4 hb_b4 hs_b4 hS_b4 hk_b4; have hA_b4 := Bk.of hk_b4)
  skip
  refine Ops.store rfl rfl rfl rfl rfl ?_
  intro w5 hp5
  have k4 : Bk w5 b4 [.slice none 0 0] 133 := hp5.bk hA_b4 (by have := hS_b3.size; omega)
  skip
  refine Ops.store rfl rfl rfl rfl rfl ?_
  intro w6 hp6
  have hE4 : Ext w2 w_b4 := hS_b3.ext.trans hS_b4.ext
  have z2 := (hS1.ext.trans hS2.ext).size
  have z3 := hS_b3.size
  have z4 := hS_b4.size
  have hE6 : Ext w2 w6 := hp6.ext (hp5.ext hE4 (by omega)) (by omega)
  have hE6w : Ext w w6 := (hS1.ext.trans hS2.ext).trans hE6
  have hE6' := hE6w.toStep
  have A3 : At w6 b3 0 [.slice ta (tornL ss xs ss.length).length tc] := hp6.at_ (Bk.toAt (h := ⟨hp5.new⟩)) (by omega)
  have A4 : At w6 b4 0 [.slice pa ps.length pc] := Bk.toAt (h := ⟨hp6.new⟩)
  have T6 := hRt.ext hE6
  have P6 := hRp.ext hE6
  (refine jz (jjB (jjC (jI (eP rfl) (jw rfl (jm ?_))))); refine jn rfl (jm (jn rfl (jN rfl rfl rfl (jh rfl ?_)))))
  refine jjQ (lists_hand ss.length 2 _) rfl rfl ?_
  rintro _ w7 hS7 ⟨b1, b2, rfl, hA1, hA2⟩
  (refine jv ?_)
  refine jjQ (best_hand 109 [.pointer (some ⟨b1, 0, none⟩), .pointer (some ⟨b2, 0, none⟩)] (lsF 2 ss.length []) 66 [.pointer (some ⟨b3, 0, none⟩), .pointer (some ⟨b4, 0, none⟩)] (fun N w => (At w b1 0 [.int .i64 ((ss.length : Nat) : Int)] ∧ At w b2 0 [.int .i64 ((2 : Nat) : Int)]) ∧ N ≤ w.heap.size) _ (fun N => lists1_hand N b1 b2 ss.length 2 (by omega) (by omega)) (fun N w' e hN => ⟨⟨hA1.ext e, hA2.ext e⟩, hN⟩) ?hcost) rfl rfl ?_
  case hcost =>
    intro x hx V a c hV hR
    obtain ⟨r, hr, hrl, hr2⟩ := lsF_mem.1 hx
    rw [List.nil_append] at hr
    subst hr
    have e7 := hS7.ext.trans hV
    exact again1_hand b3 b4 ta tc (tornL ss xs ss.length) pa pc ps a c x V (h1 := A3.ext e7) (h2 := A4.ext e7) (hts := ⟨T6.ext e7⟩) (hps := ⟨P6.ext e7⟩) (hout := ⟨hR⟩) (fun t ht => by
      rw [tornL, List.mem_filter, List.mem_range] at ht
      omega) (fun p hp' => by have := hpb p hp'; omega) (by omega) hr2 (by omega)
  rintro _ w8 hS8 ⟨l, a, c, rfl, hR8, hl8⟩
  have hll : l.length ≤ 8 := by
    rcases hl8 with rfl | h
    · simp
    · obtain ⟨r, hr, hrl, -⟩ := lsF_mem.1 h
      rw [hr, List.nil_append]; omega
  have i8 : RowI w8 (.slice a l.length c) false 1 (l.map intV) := ⟨hR8⟩
  have hE8 : Ext w w8 := hE6w.trans (hS7.ext.trans hS8.ext)
  (refine jJ (eS rfl) (jz (jjB (jjC (jJ (eS rfl) (jz ?_))))); refine jjB (jjB (jjC (jI (eS rfl) (jh rfl (jI (eI rfl) ?_))))); refine jz (jjD ?_))
  refine W.keep0 [(6, .slice none 0 0), (22, .slice a l.length c), (23, .int .i64 (l.length : Int)), (24, .int .i64 ((0 : Nat) : Int))] ⟨eS rfl, eS rfl, eI rfl, eI rfl, trivial⟩ fun s0 => ?_
  refine W.loopG (25 :: 26 :: 27 :: 28 :: 7 :: 8 :: 29 :: 30 :: 31 :: 32 :: 33 :: 34 :: 6 :: 35 :: 24 :: []) (fun g s' V => ∃ (k : Nat) (lv : Value) (out : List Int), s' 24 = .int .i64 (k : Int) ∧ s' 6 = lv ∧ g = l.length - k ∧ k ≤ l.length ∧ out.length ≤ k ∧ Ext w8 V ∧ OwnL V w8.heap.size 3 false 1 lv (out.map intV)) l.length ⟨0, _, [], rfl, rfl, rfl, Nat.zero_le _, Nat.le_refl _, .refl _, OwnL.nil _ _ _ _ _⟩ ?_
  rintro _ sd V ⟨k, lv, out, h24, h6, rfl, hk, hlo, hEV, hO⟩
  obtain ⟨la, lc, rfl⟩ := hO.slice
  rw [List.length_map] at hO h6
  refine W.fix h24 (W.fix (d := 6) h6 ?_)
  clear h24 h6
  have hEV' := hEV.toStep
  by_cases hk1 : k < l.length
  rotate_left
  · (refine jjB (jjC (jja rfl rfl (by omega) (jz (jjB (jjK rfl ?_))))); refine jjE (jjB (jjC (jI (eS rfl) (jJ (eS rfl) (jz ?_))))); refine jjF ?_; refine jB rfl rfl ⟨inferInstance, ?_⟩)
    exact ⟨out, la, lc, rfl, hO.row⟩
  by_cases h0 : l[k] = 0
  rotate_left
  · (refine jjB (jjC (jjZ rfl rfl (by omega) (jz (jjB (jjJ rfl ?_))))); refine jjG (jjB (jjD (jjB (jjC (jI (eI rfl) ?_))))); refine jF rfl rfl rfl (map_get (by omega)) ?_; intro _ _ _; refine jQ rfl rfl (jJ (eI rfl) (jJ (eI rfl) (jz (jjB (jjC ?_))))); refine jI (eI rfl) (jji rfl rfl (by omega) (jz (jjK rfl (jjG (jjC ?_))))); refine jY rfl rfl (by omega) (jI (eI rfl) (jz ?_)))
    exact ⟨rfl, by (((iterate 12 refine Same.upd rfl ?_); exact Same.ovN)), l.length - (k + 1), by omega, k + 1, _, out, congrArg (Value.int .i64) (by omega), rfl, rfl, by omega, by omega, hEV, hO⟩
  (refine jjB (jjC (jjZ rfl rfl (by omega) (jz (jjB (jjJ rfl ?_))))); refine jjG (jjB (jjD (jjB (jjC (jI (eI rfl) ?_))))); refine jF rfl rfl rfl (map_get (by omega)) ?_; intro _ _ _; refine jQ rfl rfl (jJ (eI rfl) (jJ (eI rfl) (jz (jjB (jjC ?_))))); refine jI (eI rfl) (jjh rfl rfl (by omega) (jz (jjJ rfl (jjC (jI (eS rfl) ?_))))); refine jI (eI rfl) ?_)
  (refine jjP (v := .int _ _) rfl (by exact rfl) (by exact rfl) (by exact rfl) (by exact rfl) ?_; intro b33 w_b33 hb_b33 hs_b33 hS_b33 hk_b33; have hR_b33 := RowV.one (agg := false) (k := 1) rfl hk_b33)
  have hE33 := hEV.trans hS_b33.ext
  refine Ops.appendL (hO.ext hS_b33.ext) hE33.size hR_b33 rfl rfl rfl rfl rfl ?_ ?_ ?_
  · rw [List.length_map]; simp only [List.length_cons, List.length_nil]; omega
  · rw [List.length_map]; simp only [List.length_cons, List.length_nil]; omega
  intro v6 w11 hA11 hO11 _ _
  have e11 : out.map intV ++ [Value.int .i64 (k : Int)] = (out ++ [(k : Int)]).map intV := by simp
  rw [e11] at hO11
  (refine jJ rfl (jz (jjC (jY rfl rfl (by omega) (jI (eI rfl) (jz ?_))))))
  exact ⟨rfl, by (((iterate 17 refine Same.upd rfl ?_); exact Same.ovN)), l.length - (k + 1), by omega, k + 1, _, _, congrArg (Value.int .i64) (by omega), rfl, rfl, by omega, by rw [List.length_append]; simp only [List.length_cons, List.length_nil]; omega, hA11.ext hE33 (Nat.le_refl _), hO11⟩
end

section
variable {P : Program} {ro : Option Nat} {n : Nat} {X : Ctx} {s : Sl} {ds : List Deferred} {w : World}
theorem W.loopD (D : List Nat) {c : Code} (Q : List Deferred → World → Prop) (I : Nat → Sl → World → Prop) (g0 : Nat) (hq : Q ds w) (h0 : I g0 s w)
    (hr : ∀ g d ds' w', Q ds' w' → I g (ovN D d s) w' → W P ro n c { X with nx := fun s' ds'' w'' => Q ds'' w'' ∧ Same D s s' ∧ ∃ g', g' < g ∧ I g' s' w'' } (ovN D d s) ds' w') :
    W P ro n (.loop c) X s ds w := by
  unfold W at hr ⊢
  refine wpIn_loopJ (fun j a w' => ∃ s' ds', a = mkA n s' ds' ∧ Q ds' w' ∧ Same D s s' ∧ I j s' w') g0 ⟨s, ds, rfl, hq, Same.refl D s, h0⟩ ?_
  rintro j a w' ⟨s', ds', rfl, hq', hs, hI⟩
  have hr' := hr j s' ds' w' hq'
  rw [hs.ov_eq] at hr'
  refine wpIn_mono (hr' hI) fun e a w'' hp => ?_
  cases e with
  | normal =>
    obtain ⟨s'', ds'', rfl, hq'', hs', g', hlt, hI'⟩ := hp
    exact ⟨g', hlt, s'', ds'', rfl, hq'', hs', hI'⟩
  | ret => exact hp
  | exit i => exact hp
  | goto l => exact hp
  | panic c => exact hp
  | outgrown => exact hp
end
theorem mem_mset {κ : Type} [DecidableEq κ] {m : List (κ × Value)} {k : κ} {v : Value} {p : κ × Value} (h : p ∈ mset m k v) : p.2 = v ∨ p ∈ m := by
  induction m with
  | nil => simp [mset] at h; subst h; exact .inl rfl
  | cons q m ih =>
    obtain ⟨x, u⟩ := q
    by_cases e : k = x
    · simp only [mset, e, if_true, List.mem_cons] at h
      rcases h with rfl | h
      · exact .inl rfl
      · exact .inr (List.mem_cons_of_mem _ h)
    · simp only [mset, e, if_false, List.mem_cons] at h
      rcases h with rfl | h
      · exact .inr List.mem_cons_self
      · exact (ih h).imp id (List.mem_cons_of_mem _)
theorem mem_mdel {κ : Type} [DecidableEq κ] {m : List (κ × Value)} {k : κ} {p : κ × Value} (h : p ∈ mdel m k) : p ∈ m := by
  induction m with
  | nil => simp [mdel] at h
  | cons q m ih =>
    obtain ⟨x, u⟩ := q
    by_cases e : k = x
    · simp only [mdel, e, if_true] at h
      exact List.mem_cons_of_mem _ h
    · simp only [mdel, e, if_false, List.mem_cons] at h
      rcases h with rfl | h
      · exact List.mem_cons_self
      · exact List.mem_cons_of_mem _ (ih h)
theorem mget_mem {κ : Type} [DecidableEq κ] {m : List (κ × Value)} {k : κ} {v : Value} (h : mget m k = some v) : (k, v) ∈ m := by
  induction m with
  | nil => simp [mget] at h
  | cons q m ih =>
    obtain ⟨x, u⟩ := q
    by_cases e : k = x
    · subst e
      simp only [mget, if_true, Option.some.injEq] at h
      subst h; exact List.mem_cons_self
    · simp only [mget, e, if_false] at h
      exact List.mem_cons_of_mem _ (ih h)
theorem of_hand (bd i : Nat) (w : World) : Ct Tryz.prog 71 [.pointer (some ⟨bd, 0, none⟩), .int .i64 (i : Int)] w fun v w' => ∃ b1 b2, v = .func (.func 112) #[] [Value.pointer (some ⟨b1, 0, none⟩), .pointer (some ⟨b2, 0, none⟩)].toArray ∧ w.heap.size ≤ b1 ∧ w.heap.size ≤ b2 ∧ At w' b1 0 [.pointer (some ⟨bd, 0, none⟩)] ∧ At w' b2 0 [.int .i64 (i : Int)] := by
  refine Ct.ofW (by simp) ?_
  (refine jjB (jjC ?_))
  (refine jy rfl ?_; intro b2 w_b2 hb_b2 hs_b2 hS_b2 hk_b2; have hA_b2 := At.ofBlock hk_b2)
  skip
  (refine jy rfl ?_; intro b3 w_b3 hb_b3 hs_b3 hS_b3 hk_b3; have hA_b3 := At.ofBlock hk_b3)
  (refine jJ rfl (jz (jjB (jjC (jv (jJ (eF rfl) ?_))))); refine jz (jjF ?_); refine jB rfl rfl ⟨inferInstance, ?_⟩)
  exact ⟨b2, b3, rfl, by omega, by have := hS_b2.size; omega, inferInstance, inferInstance⟩
abbrev relU (n : Nat) (vs : List Value) (_ : World) : Prop := ∃ u, vs = [.int .i64 (n : Int), u]
structure DskF (b1 b2 bd i : Nat) (v0 v1 v3 v5 : Value) (sa : Option Addr) (sc : Nat) (ss : List Shr) (la : Option Addr) (lc : Nat) (L : List Ln) (w : World) : Prop where
  a1 : At w b1 0 [.pointer (some ⟨bd, 0, none⟩)]
  a2 : At w b2 0 [.int .i64 (i : Int)]
  d : At w bd 0 [v0, v1, .slice sa ss.length sc, v3, .slice la L.length lc, v5]
  s : RowV w true 4 (.slice sa ss.length sc) (ss.map encShr)
  l : RowV w false 1 (.slice la L.length lc) (L.map encLn)
set_option maxHeartbeats 8000000 in
theorem of1_hand (b1 b2 bd i : Nat) (v0 v1 v3 v5 : Value) (sa : Option Addr) (sc : Nat) (ss : List Shr) (la : Option Addr) (lc : Nat) (L : List Ln) (hi : i < ss.length) (f t : Nat) (hf : ss[i].1 = (f : Int)) (ht : ss[i].2.1 = (t : Int)) (hft : f ≤ t) (htl : t < L.length) (hL : L.length ≤ 1000000) :
    IterN Tryz.prog 112 [.pointer (some ⟨b1, 0, none⟩), .pointer (some ⟨b2, 0, none⟩)] (List.range' f (t + 1 - f)) relU (DskF b1 b2 bd i v0 v1 v3 v5 sa sc ss la lc L) := by
  intro l J M w hJ hF hM1 hM2 hY h0
  have gs : (ss.map encShr)[i]? = some (encShr ss[i]) := by rw [List.getElem?_map, List.getElem?_eq_getElem hi]; rfl
  have f0 := hF 0 w h0
  obtain ⟨pb, po, rfl, -⟩ := f0.s.place' gs
  have A1 : ∀ k V, J k V → At V pb (po + i * 4) [.int .i64 (f : Int), .int .i64 (t : Int), .int .i64 ss[i].2.2.1, .int .i64 ss[i].2.2.2] := fun k V hj => by
    have := place_k (hF k V hj).s gs
    rw [← hf, ← ht]; exact this
  have := f0.a1
  have := f0.a2
  have := f0.d
  refine Calls.ofW (by simp) ?_
  (refine jjB ?_)
  refine W.draw (fun w' => Ext w w') ?_
  intro w1 hS1
  refine jjV [0, 1, 2, 3, 4, 5] (by decide +kernel) hS1.ext ?_
  (((apply jjT; exact rfl; rintro w' hq; have := hq.toStep; refine jN rfl rfl rfl (jz ?_); exact ⟨rfl, rfl⟩; apply jjT; exact rfl; rintro w' hq; have := hq.toStep; refine jw rfl (jz ?_); exact ⟨rfl, rfl⟩; apply jjT; exact rfl; rintro w' hq; have := hq.toStep; refine jm (jn rfl (jz ?_)); exact ⟨rfl, rfl⟩; apply jjT; exact rfl; rintro w' hq; have := hq.toStep; refine jm (jn rfl (jz ?_)); exact ⟨rfl, rfl⟩; apply jjT; exact rfl; rintro w' hq; have := hq.toStep; refine jN rfl rfl rfl (jz ?_); exact ⟨rfl, rfl⟩; apply jjT; exact rfl; rintro w' hq; have := hq.toStep; refine jN rfl rfl rfl (jz ?_); exact ⟨rfl, rfl⟩; refine jjU ?_)))
  refine jjV [6] (by decide +kernel) hS1.ext (jjT (v := .pointer (some ⟨pb, po + i * 4, none⟩)) rfl (fun w' q1 => ?_) (jjU ?_)); (refine jH i rfl rfl rfl (by omega) ?_; refine jz ?_; exact ⟨rfl, rfl⟩)
  refine jjV [7] (by decide +kernel) hS1.ext ?_
  (((apply jjT; exact rfl; rintro w' hq; refine jm (jn rfl (jz ?_)); exact ⟨rfl, rfl⟩; refine jjU ?_)))
  refine jjV [8] (by decide +kernel) hS1.ext (jjT (v := .int .i64 (f : Int)) rfl (fun w' q1 => ?_) (jjU ?_)); (refine jR ((A1 0 _ (hJ _ _ _ h0 q1)).get (i := 0) rfl) rfl rfl ?_; refine jz ?_; exact ⟨rfl, rfl⟩)
  refine jjV [9] (by decide +kernel) hS1.ext ?_
  (((refine jjT rfl (fun _ _ => jJ (eI rfl) (jz ⟨rfl, rfl⟩)) (jjU ?_))))
  refine jjX (by decide +kernel) hS1.ext ?_
  (refine jjD ?_)
  refine W.keep0 [(0, .func (.yield l) #[] #[]), (1, .pointer (some ⟨b1, 0, none⟩)), (2, .pointer (some ⟨b2, 0, none⟩)), (4, .int .i64 ((f + 0 : Nat) : Int))] ⟨eF rfl, eP rfl, eP rfl, eI rfl, trivial⟩ fun s0 => ?_
  refine W.loopG (14 :: 15 :: 16 :: 17 :: 18 :: 19 :: 20 :: 21 :: 22 :: 23 :: 24 :: 27 :: 28 :: 29 :: 30 :: 31 :: 32 :: 33 :: 34 :: 35 :: 36 :: 37 :: 25 :: 26 :: 4 :: []) (fun g s' V => ∃ k : Nat, s' 4 = .int .i64 ((f + k : Nat) : Int) ∧ g = t + 1 - f - k ∧ k ≤ t + 1 - f ∧ J k V) (t + 1 - f) ⟨0, rfl, rfl, Nat.zero_le _, hJ _ _ _ h0 hS1.ext⟩ ?_
  rintro _ sd V ⟨k, h4, rfl, hk, hj⟩
  refine W.fix h4 ?_
  clear h4
  have fk := hF k V hj
  have := fk.a1
  have := fk.a2
  have := fk.d
  (refine jjB (jjB ?_))
  refine W.draw (fun w' => Ext V w') ?_
  intro w2 hS2
  refine jjV [0, 1, 2, 3, 4, 5, 6] (by decide +kernel) hS2.ext ?_
  (((refine jjT rfl (fun _ _ => jI (eI rfl) (jz ⟨rfl, rfl⟩)) ?_; apply jjT; exact rfl; rintro w' hq; have := hq.toStep; refine jN rfl rfl rfl (jz ?_); exact ⟨rfl, rfl⟩; apply jjT; exact rfl; rintro w' hq; have := hq.toStep; refine jw rfl (jz ?_); exact ⟨rfl, rfl⟩; apply jjT; exact rfl; rintro w' hq; have := hq.toStep; refine jm (jn rfl (jz ?_)); exact ⟨rfl, rfl⟩; apply jjT; exact rfl; rintro w' hq; have := hq.toStep; refine jm (jn rfl (jz ?_)); exact ⟨rfl, rfl⟩; apply jjT; exact rfl; rintro w' hq; have := hq.toStep; refine jN rfl rfl rfl (jz ?_); exact ⟨rfl, rfl⟩; apply jjT; exact rfl; rintro w' hq; have := hq.toStep; refine jN rfl rfl rfl (jz ?_); exact ⟨rfl, rfl⟩; refine jjU ?_)))
  refine jjV [7] (by decide +kernel) hS2.ext (jjT (v := .pointer (some ⟨pb, po + i * 4, none⟩)) rfl (fun w' q1 => ?_) (jjU ?_)); (refine jH i rfl rfl rfl (by omega) ?_; refine jz ?_; exact ⟨rfl, rfl⟩)
  refine jjV [8] (by decide +kernel) hS2.ext ?_
  (((apply jjT; exact rfl; rintro w' hq; refine jm (jn rfl (jz ?_)); exact ⟨rfl, rfl⟩; refine jjU ?_)))
  refine jjV [9] (by decide +kernel) hS2.ext (jjT (v := .int .i64 (t : Int)) rfl (fun w' q1 => ?_) (jjU ?_)); (refine jR ((A1 k _ (hJ _ _ _ hj q1)).get (i := 1) rfl) rfl rfl ?_; refine jz ?_; exact ⟨rfl, rfl⟩)
  have hj2 := hJ _ _ _ hj hS2.ext
  by_cases hk1 : k < t + 1 - f
  rotate_left
  · obtain rfl : k = t + 1 - f := by omega
    refine jjV [10] (by decide +kernel) hS2.ext (jjT (v := .bool false) rfl (fun w' q1 => ?_) (jjU ?_)); (refine jjc rfl rfl (by omega) (jz ?_); exact ⟨rfl, rfl⟩)
    refine jjX (by decide +kernel) hS2.ext ?_
    (refine jjK rfl (jjE ?_); refine jA rfl ⟨⟨_, rfl⟩, ?_⟩)
    rw [List.length_range']
    exact hj2
  refine jjV [10] (by decide +kernel) hS2.ext (jjT (v := .bool true) rfl (fun w' q1 => ?_) (jjU ?_)); (refine jjb rfl rfl (by omega) (jz ?_); exact ⟨rfl, rfl⟩)
  refine jjX (by decide +kernel) hS2.ext ?_
  have f2 := hF k w2 hj2
  have := f2.a1
  have := f2.a2
  have := f2.d
  have i2 : RowI w2 (.slice la L.length lc) false 1 (L.map encLn) := ⟨f2.l⟩
  have hfl : f + k < L.length := by omega
  (refine jjJ rfl (jjG (jjB (jjD (jjB (jjC ?_))))); refine jI (eF rfl) (jI (eI rfl) (jN rfl rfl rfl (jw rfl (jm (jn rfl ?_))))); refine jN rfl rfl rfl (jI (eI rfl) ?_); refine jF rfl rfl rfl (map_get (by omega)) ?_; intro _ _ _; refine jQ rfl rfl ?_)
  refine Ops.yield (hY k (f + k) _ _ (by rw [List.getElem?_range' (by omega)]; simp) ⟨_, rfl⟩ hj2) rfl rfl ?_
  rintro e V' ⟨rfl, h1, h2⟩
  refine ⟨_, rfl, ?_⟩
  (refine jp rfl (jz (jjK rfl (jjG (jjC (jI (eI rfl) ?_))))); refine jY rfl rfl (by omega) (jJ (eI rfl) (jz ?_)))
  exact ⟨rfl, by (((iterate 26 refine Same.upd rfl ?_); exact Same.ovN)), t + 1 - f - (k + 1), by omega, k + 1, congrArg (Value.int .i64) (by omega), rfl, by omega, h1⟩

def LinM (m : List (Int × Value)) : Prop := ∀ p ∈ m, p.2 = .bool true
theorem LinM.get {m : List (Int × Value)} (h : LinM m) (n : Int) : (mget m n).getD (.bool false) = .bool (mget m n).isSome := by
  cases e : mget m n with
  | none => rfl
  | some v => exact h _ (mget_mem e)
section
variable (bd : Nat) (v0 v1 v3 v5 : Value) (sa : Option Addr) (sc : Nat) (ss : List Shr) (la : Option Addr) (lc : Nat) (L : List Ln) (pg : Nat) (pl : List Value) (w : World)
  [hd : At w bd 0 [v0, v1, .slice sa ss.length sc, v3, .slice la L.length lc, v5]] [hss : RowI w (.slice sa ss.length sc) true 4 (ss.map encShr)] [hll : RowI w (.slice la L.length lc) false 1 (L.map encLn)]
include hd hss hll in
set_option maxHeartbeats 8000000 in
theorem uncovered_hand [hpg : Enters Tryz.prog pg] (hp : ∀ V, Ext w V → ∀ i, i < ss.length → Ct Tryz.prog pg ([.int .i64 (i : Int)] ++ pl) V fun v _ => ∃ B, v = .bool B) (hL : L.length ≤ 1000000) (hs1 : ss.length ≤ 8) (hsp : ∀ i (h : i < ss.length), 0 ≤ ss[i].1 ∧ ss[i].1 ≤ ss[i].2.1 ∧ ss[i].2.1 < (L.length : Int)) :
    Ct Tryz.prog 29 [.pointer (some ⟨bd, 0, none⟩), .func (.func pg) #[] pl.toArray] w fun v w' => ∃ mb m, v = .map (some mb) ∧ MapE (Value.int .i64) w' mb m ∧ LinM m ∧ (ss = [] → ∀ n : Nat, n < L.length → (mget m (n : Int)).isSome = true) := by
  refine Ct.ofWM (by simp) ?_
  (refine jjB (jjC (jJ (eM rfl) (jz (jjB (jjC ?_))))))
  refine Ops.makeMap (Value.int .i64) ?_
  intro mb w1 hmb hs1' hS1 hM1
  skip
  (apply jjR rfl; (intro _; first|exact eI rfl|exact eB rfl|exact eP rfl|exact eS rfl|exact eT rfl|exact eA rfl|exact eU rfl|exact eF rfl|exact eM rfl|exact eN rfl|exact rfl); exact rfl; exact rfl; exact rfl; exact rfl; intro b5 w_b5 hb_b5 hs_b5 hS_b5 hk_b5; have hA_b5 := Bk.of hk_b5)
  have hE5 : Ext w w_b5 := hS1.ext.trans hS_b5.ext
  have hM5 := hM1.ext hS_b5.ext
  have A5 : At w_b5 b5 0 [.map (some mb)] := Bk.toAt (h := hA_b5)
  have hne : b5 ≠ mb := by omega
  (refine jz (jjB (jjB (jjC (jI (eP rfl) (jw rfl ?_))))); refine jm (jn rfl (jN rfl rfl rfl (jh rfl (jI (eI rfl) (jz ?_))))); refine jjD ?_)
  refine W.keep0 [(0, .pointer (some ⟨bd, 0, none⟩)), (1, .func (.func pg) #[] pl.toArray), (5, .pointer (some ⟨b5, 0, none⟩)), (14, .int .i64 (L.length : Int)), (15, .int .i64 ((0 : Nat) : Int))] ⟨eP rfl, eF rfl, eP rfl, eI rfl, eI rfl, trivial⟩ fun s0 => ?_
  refine W.loopG (16 :: 17 :: 6 :: 18 :: 19 :: 20 :: 15 :: []) (fun g s' V => ∃ (k : Nat) (m : List (Int × Value)), s' 15 = .int .i64 (k : Int) ∧ g = L.length - k ∧ k ≤ L.length ∧ Ext w V ∧ At V b5 0 [.map (some mb)] ∧ MapE (Value.int .i64) V mb m ∧ LinM m ∧ ∀ n : Nat, n < k → (mget m (n : Int)).isSome = true) L.length ⟨0, [], rfl, rfl, Nat.zero_le _, hE5, A5, hM5, fun p h => absurd h List.not_mem_nil, fun n h => absurd h (Nat.not_lt_zero _)⟩ ?_
  rintro _ sd V ⟨k, m, h15, rfl, hk, hEV, hA, hM, hSet, hAll⟩
  refine W.fix h15 ?_
  clear h15
  have hEV' := hEV.toStep
  by_cases hk1 : k < L.length
  · (refine jjB (jjC (jjZ rfl rfl (by omega) (jz (jjB (jjJ rfl ?_))))); refine jjG (jjB (jjD (jjB (jjC (jI (eI rfl) ?_))))); refine jJ (eI rfl) (jz (jjC (jN rfl rfl rfl (jI (eI rfl) ?_)))))
    refine Ops.mapUpdate (k := (k : Int)) (v := .bool true) hM rfl rfl rfl ?_
    intro w3 o3 hp3 hM3
    (refine jz (jjC (jY rfl rfl (by omega) (jI (eI rfl) (jz ?_)))))
    refine ⟨rfl, by (((iterate 8 refine Same.upd rfl ?_); exact Same.ovN)), L.length - (k + 1), by omega, k + 1, _, congrArg (Value.int .i64) (by omega), rfl, by omega, hp3.ext hEV (by omega), hp3.at_ hA hne, hM3, fun p h => (mem_mset h).elim id (hSet p), fun n h => ?_⟩
    by_cases e : n = k
    · subst e; rw [mget_set_same]; rfl
    · rw [mget_set_other _ _ (by omega)]; exact hAll n (by omega)
  obtain rfl : k = L.length := by omega
  (refine jjB (jjC (jja rfl rfl (by omega) (jz (jjB (jjK rfl ?_))))); refine jjE (jjB (jjB (jjC (jI (eP rfl) (jw rfl ?_))))); refine jm (jn rfl (jm (jn rfl (jN rfl rfl rfl (jh rfl ?_))))); refine jI (eI rfl) (jz (jjD ?_)))
  refine W.keep0 [(0, .pointer (some ⟨bd, 0, none⟩)), (1, .func (.func pg) #[] pl.toArray), (5, .pointer (some ⟨b5, 0, none⟩)), (26, .int .i64 (ss.length : Int)), (27, .int .i64 ((0 : Nat) : Int))] ⟨eP rfl, eF rfl, eP rfl, eI rfl, eI rfl, trivial⟩ fun s1 => ?_
  refine W.loopD (28 :: 29 :: 7 :: 30 :: 31 :: 32 :: 33 :: 34 :: 35 :: 36 :: 8 :: 39 :: 40 :: 41 :: 27 :: []) (fun ds V => Mks w.heap.size V ds) (fun g s' V => ∃ (k : Nat) (m : List (Int × Value)), s' 27 = .int .i64 (k : Int) ∧ g = ss.length - k ∧ k ≤ ss.length ∧ Ext w V ∧ At V b5 0 [.map (some mb)] ∧ MapE (Value.int .i64) V mb m ∧ LinM m ∧ (ss = [] → ∀ n : Nat, n < L.length → (mget m (n : Int)).isSome = true)) ss.length inferInstance ⟨0, m, rfl, rfl, Nat.zero_le _, hEV, hA, hM, hSet, fun _ => hAll⟩ ?_
  clear hEV hA hM hSet hAll hEV' hk1 hk
  rintro _ sd2 ds V hmk ⟨k, m, h27, rfl, hk, hEV, hA, hM, hSet, hAll⟩
  refine W.fix h27 ?_
  clear h27
  have hEV' := hEV.toStep
  by_cases hk1 : k < ss.length
  rotate_left
  · (refine jjB (jjC (jja rfl rfl (by omega) (jz (jjB (jjK rfl ?_))))); refine jjE (jjB (jjC (jN rfl rfl rfl (jJ (eM rfl) (jz ?_))))); refine jjF ?_)
    exact fin1M rfl rfl hmk fun w' g => ⟨hEV.ofGrow g (Nat.le_refl _), mb, m, rfl, hM.grow g, hSet, hAll⟩
  have sp := hsp k hk1
  obtain ⟨f, hf⟩ : ∃ f : Nat, ss[k].1 = (f : Int) := ⟨ss[k].1.toNat, by omega⟩
  obtain ⟨t, ht⟩ : ∃ t : Nat, ss[k].2.1 = (t : Int) := ⟨ss[k].2.1.toNat, by omega⟩
  (refine jjB (jjC (jjZ rfl rfl (by omega) (jz (jjB (jjJ rfl ?_))))); refine jjG (jjB (jjD (jjB (jjC (jI (eI rfl) ?_))))); refine jJ (eI rfl) (jz (jjB (jjB (jjC (jI (eF rfl) ?_))))); refine jI (eI rfl) ?_)
  refine jjQ (hp V hEV k hk1) rfl rfl ?_
  rintro _ w4 hS4 ⟨B, rfl⟩
  have hE4 := hEV.trans hS4.ext
  cases B with
  | false =>
    (refine jq rfl (jz (jjJ rfl (jjE (jjC (jY rfl rfl (by omega) ?_))))); refine jI (eI rfl) (jz ?_))
    exact ⟨inferInstance, by (((iterate 10 refine Same.upd rfl ?_); exact Same.ovN)), ss.length - (k + 1), by omega, k + 1, m, congrArg (Value.int .i64) (by omega), rfl, by omega, hE4, hA.ext hS4.ext, hM.ext hS4.ext, hSet, hAll⟩
  | true =>
  (refine jp rfl (jz (jjK rfl (jjG (jjB (jjC ?_))))); refine jI (eP rfl) (jI (eI rfl) ?_))
  refine jjQ (of_hand bd k _) rfl rfl ?_
  rintro _ w5 hS5 ⟨b1, b2, rfl, hb1, hb2, hA1, hA2⟩
  have hE5' := hE4.trans hS5.ext
  have hA5 := hA.ext (hS4.ext.trans hS5.ext)
  have hM5' := hM.ext (hS4.ext.trans hS5.ext)
  have zmb : mb < w4.heap.size := (hM.ext hS4.ext).lt
  (refine jz (jjD ?_))
  refine W.rangeMN w.heap.size (List.range' f (t + 1 - f)) relU (of1_hand b1 b2 bd k v0 v1 v3 v5 sa sc ss la lc L hk1 f t hf ht (by omega) (by omega) hL) rfl (fun x vs V ⟨u, h⟩ => by rw [h]; rfl) trivial inferInstance hE5'.size
    (fun _ V => Ext w V ∧ w5.heap.size ≤ V.heap.size ∧ At V b5 0 [.map (some mb)] ∧ (At V b1 0 [.pointer (some ⟨bd, 0, none⟩)] ∧ At V b2 0 [.int .i64 (k : Int)]) ∧ ∃ m, MapE (Value.int .i64) V mb m ∧ LinM m)
    ?hJ ?hF ⟨hE5', Nat.le_refl _, hA5, ⟨hA1, hA2⟩, m, hM5', hSet⟩ (fun _ k => k = mb) ?hW1 (fun _ _ _ _ _ _ h => h) (fun _ _ _ _ h => .inl h) (fun n s' V => s' 8 = .int .i64 (n : Int) ∧ s' 5 = .pointer (some ⟨b5, 0, none⟩)) (fun x s V V' h g => h) ?hassign ?hbody ?hdone
  case hJ =>
    rintro i V V' ⟨h1, h2, h3, ⟨h4, h5⟩, m, h6, h7⟩ g
    exact ⟨h1.ofGrow g hE5'.size, Nat.le_trans h2 g.size, h3.grow g, ⟨h4.grow g, h5.grow g⟩, m, h6.grow g, h7⟩
  case hF =>
    rintro i V ⟨h1, h2, h3, ⟨h4, h5⟩, m, h6, h7⟩
    exact ⟨h4, h5, hd.ext h1, hss.h.ext h1, hll.h.ext h1⟩
  case hW1 =>
    rintro i V k ⟨h1, h2, h3, ⟨h4, h5⟩, m, h6, h7⟩ rfl
    exact h6.lt
  case hassign =>
    rintro l' i x vs V hx ⟨u, rfl⟩ hj hl' hr
    (refine jjC (jJ (eI rfl) (jz ?_)))
    exact ⟨rfl, Tr.refl _, Fr.refl _ _, hj, rfl, rfl⟩
  case hbody =>
    rintro l' i x s' V hx ⟨h1, h2, h3, ⟨h4, h5⟩, m, h6, h7⟩ ⟨hs8, hs5⟩ hl' hr
    refine W.fix (d := 8) hs8 (W.fix (d := 5) hs5 ?_)
    clear hs8 hs5
    (refine jjD (jjC (jN rfl rfl rfl (jI (eI rfl) ?_))))
    refine Ops.deleteN (k := (x : Int)) h6 rfl rfl ?_
    intro w7 o7 hp7 hM7
    obtain ⟨ob, hob, hol⟩ := h6.loopy
    (refine jz ?_)
    exact ⟨hp7.tr ⟨ob, hob, hol⟩, hp7.frS (M := fun k => k = mb) rfl, hp7.ext h1 (by omega), by rw [hp7.size]; exact h2, hp7.at_ h3 hne, ⟨hp7.at_ h4 (by omega), hp7.at_ h5 (by omega)⟩, _, hM7, fun p h => h7 p (mem_mdel h)⟩
  case hdone =>
    rintro ds' V' hmk' htr ⟨h1, h2, h3, ⟨h4, h5⟩, m', h6, h7⟩
    (refine jjC (jY rfl rfl (by omega) (jI (eI rfl) (jz ?_))))
    exact ⟨hmk', by (((iterate 13 refine Same.upd rfl ?_); exact Same.ovN)), ss.length - (k + 1), by omega, k + 1, m', congrArg (Value.int .i64) (by omega), rfl, by omega, h1, h3, h6, h7, fun e => by rw [e] at hk1; exact absurd hk1 (Nat.not_lt_zero _)⟩
end

theorem inOne_hand (lo hi n : Int) (b : Nat) (w : World) (h : lo ≤ n ∧ n ≤ hi) (hR : RowV w false 1 (.slice (some ⟨b, 0, none⟩) 1 1) [.int .i64 n]) : Ct Tryz.prog 100 [.int .i64 lo, .int .i64 hi, .slice (some ⟨b, 0, none⟩) 1 1] w fun v _ => v = .bool true :=
  (in_hand lo hi _ [n] w hR).mono fun v _ _ e => e.trans (by rw [all_1, inB, decide_eq_true h])
set_option maxHeartbeats 4000000 in
theorem single_hand (ln : Ln) (w : World) (hw : RowV w false 1 (encLn ln) (ln.2.2.map strV)) : Ct Tryz.prog 103 [encLn ln] w fun v w' => ∃ a c cs, v = .agg #[.slice a cs.length c] ∧ RowV w' true 2 (.slice a cs.length c) (cs.map encCh) ∧ TextI w' cs ∧ txF cs = [(0, [ln.2.2])] := by
  refine Ct.ofW (by simp) ?_
  (((refine jjB (jjC ?_))); refine jjY ?_; intro b2 w_b2 hb_b2 hs_b2 hS_b2 hk_b2; have hA_b2 := Bk.of hk_b2)
  (refine jz (jjB (jjC (jI (eS rfl) ?_))))
  (refine jjP (v := .slice _ _ _) rfl (by exact rfl) (by exact rfl) (by exact rfl) (by exact rfl) ?_; intro b4 w_b4 hb_b4 hs_b4 hS_b4 hk_b4; have hR_b4 := RowV.one (agg := false) (k := 1) rfl hk_b4)
  skip
  (refine jjS (cells := [.int .i64 0, .slice (some ⟨b4, 0, none⟩) 1 1]) ?_ ?_; exact rfl)
  (refine jjP (v := .agg _) rfl (by exact rfl) (by exact rfl) (by exact rfl) (by exact rfl) ?_; intro b6 w_b6 hb_b6 hs_b6 hS_b6 hk_b6; have hR_b6 := RowV.one (agg := true) (k := 2) rfl hk_b6)
  (refine jjS (cells := [.slice (some ⟨b6, 0, none⟩) 1 1]) ?_ ?_; exact rfl)
  have hb0 : Bk w_b6 b2 [.slice none 0 0] 24 := inferInstance
  have hR4 : RowV w_b6 false 1 (.slice (some ⟨b4, 0, none⟩) 1 1) [encLn ln] := hR_b4.ext hS_b6.ext
  have hR6 : RowV w_b6 true 2 (.slice (some ⟨b6, 0, none⟩) 1 1) [encCh (0, some ⟨b4, 0, none⟩, 1, [ln])] := hR_b6
  have hE6 : Ext w w_b6 := inferInstance
  refine Ops.store rfl rfl rfl rfl rfl ?_
  intro V2 hp2
  have := Bk.toAt (h := Bk.of hp2.new)
  have z2 := hS_b2.size
  have z4 := hS_b4.size
  (refine jz (jjF ?_))
  refine fin1C rfl rfl rfl rfl rfl ⟨hp2.ext hE6 (by omega), some ⟨b6, 0, none⟩, 1, [(0, some ⟨b4, 0, none⟩, 1, [ln])], rfl, hp2.row hR6 (fun e => by simp [Value.ownBlock] at e; omega), ⟨?_, ?_⟩, rfl⟩
  · intro x hx
    rw [List.mem_singleton] at hx
    subst hx
    exact hp2.row hR4 (fun e => by simp [Value.ownBlock] at e; omega)
  · intro x hx
    rw [List.mem_singleton] at hx
    subst hx
    intro y hy
    rw [List.mem_singleton] at hy
    subst hy
    exact hw.ext (hp2.ext hE6 (by omega))
theorem word_small {s : ByteArray} (h : wordB s = true) : s.size ≤ 1000 := by
  simp only [wordB, Bool.and_eq_true, decide_eq_true_eq] at h
  omega
set_option maxHeartbeats 4000000 in
theorem right1_hand (ln : Ln) (w : World) (hw : RowV w false 1 (encLn ln) (ln.2.2.map strV)) (hok : lineB ln.2.2 = true) : Ct Tryz.prog 102 [encLn ln] w fun v _ => v = .bool false := by
  refine Ct.ofW (by simp) ?_
  (refine jjB (jjC (jJ (eB rfl) (jz (jjB (jjC ?_))))); refine jI (eS rfl) ?_)
  refine jjQ (single_hand ln _ hw) rfl rfl ?_
  rintro _ w1 hS1 ⟨a, c, cs, rfl, hR, hT, ht⟩
  have hl := hok
  simp only [lineB, Bool.and_eq_true, inB, decide_eq_true_eq, List.all_eq_true] at hl
  have hsm : SmallT cs := by
    have hlen : cs.length = 1 := by rw [← txF_len, ht]; rfl
    have hx : ∀ x ∈ cs, x.2.2.2.map (·.2.2) = [ln.2.2] := fun x hx => by
      have : txC x ∈ txF cs := List.mem_map.2 ⟨x, hx, rfl⟩
      rw [ht, List.mem_singleton] at this
      exact congrArg Prod.snd this
    refine ⟨by omega, fun x h => ⟨?_, fun y hy => ?_⟩⟩
    · have := congrArg List.length (hx x h)
      rw [List.length_map] at this
      simp only [List.length_cons, List.length_nil] at this
      omega
    · have : y.2.2 ∈ x.2.2.2.map (·.2.2) := List.mem_map.2 ⟨y, hy, rfl⟩
      rw [hx x h, List.mem_singleton] at this
      rw [this]
      exact ⟨by omega, fun s hs => word_small (hl.2 s hs)⟩
  have htx : textB (txF cs) = true := by
    rw [ht]
    simp [textB, chapB, hok, inB]
  have i1 : RowI w1 (.slice a cs.length c) true 2 (cs.map encCh) := ⟨hR⟩
  skip
  refine jjQ ((Check_leaf a c cs _ hsm).mono fun v _ _ h => h.trans (by rw [htx])) rfl rfl ?_
  rintro _ w2 hS2 rfl
  (refine jc rfl rfl (jJ (eB rfl) (jz (jjF ?_))); refine jB rfl rfl ⟨inferInstance, ?_⟩)
  exact rfl
end Go.Proofs.YtgnkloloehlfnaaGreatDoor
