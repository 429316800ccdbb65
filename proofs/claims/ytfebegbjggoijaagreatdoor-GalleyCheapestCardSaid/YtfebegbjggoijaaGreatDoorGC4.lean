/- Texts of the proof, part 4: PlE, Sw2, Sw3, MpK, Sw4, PlG, PlL, PlM, PlO, VoP, Lg1, Eng29, Lg2, Eng32, Ix1, Vo1, GsP, PlQ, PlX, GalL1, Gal4, Gal5, Gal6, GalT, Gal7, Gal8, GalL2, GalX, Gal13, Gal14, Gal15, PlR, Gal9. -/
import Derived.KernelRfl
import Derived.Test.YtfebegbjggoijaaGreatDoorGC3
/- Plain law: the places of a text are in order; parts of it. -/
namespace Go.Proofs.YtfebegbjggoijaaGreatDoor
open Go.RowKit

theorem lnP_sorted (k n q : Nat) : (lnP k n q).Pairwise fun a b => befP a b = true := by
  unfold lnP
  rw [List.pairwise_map]
  refine List.Pairwise.imp (R := (· < ·)) ?_ List.pairwise_lt_range
  intro a b h
  rw [befP_iff]; simp; omega
theorem runA_sorted (k : Nat) (x : List (List ByteArray)) : (runA k x).Pairwise fun a b => befP a b = true := by
  unfold runA runAn
  rw [List.pairwise_flatMap]
  refine ⟨fun i _ => lnP_sorted _ _ _, ?_⟩
  refine List.Pairwise.imp (R := (· < ·)) ?_ List.pairwise_lt_range
  intro a b h p hp q hq
  simp only [lnP, List.mem_map] at hp hq
  obtain ⟨_, _, rfl⟩ := hp
  obtain ⟨_, _, rfl⟩ := hq
  rw [befP_iff]; simp; omega
theorem allP_sorted (t : Tx) (n : Nat) : (allP t n).Pairwise fun a b => befP a b = true := by
  unfold allP
  rw [List.pairwise_flatMap]
  refine ⟨fun i _ => runA_sorted _ _, ?_⟩
  refine List.Pairwise.imp (R := (· < ·)) ?_ List.pairwise_lt_range
  intro a b h p hp q hq
  have h1 := runA_fst hp
  have h2 := runA_fst hq
  rw [befP_iff]; omega
theorem sorted_nodup {l : List Pl} (h : l.Pairwise fun a b => befP a b = true) : l.Nodup := by
  refine List.Pairwise.imp ?_ h
  intro a b hab e
  subst e; rw [befP_irr] at hab; cases hab
end Go.Proofs.YtfebegbjggoijaaGreatDoor

/- Lists of slips: listed, Twice; of the code and of the reference. -/
namespace Go.Proofs.YtfebegbjggoijaaGreatDoor
open Go.RowKit

/-! ### Twice -/
end Go.Proofs.YtfebegbjggoijaaGreatDoor

/- The reference: listed, Twice. -/
namespace Go.Proofs.YtfebegbjggoijaaGreatDoor
open Go.RowKit

end Go.Proofs.YtfebegbjggoijaaGreatDoor

/- Maps whose keys are there once; maps that are sets. -/
namespace Go.Proofs.YtfebegbjggoijaaGreatDoor
open Go.RowKit

section
variable {κ : Type} [DecidableEq κ]
abbrev NdG (m : List (κ × Value)) : Prop := (m.map (·.1)).Nodup
theorem mset_keysG (m : List (κ × Value)) (k : κ) (v : Value) : ∀ x, x ∈ (mset m k v).map (·.1) → x = k ∨ x ∈ m.map (·.1) := by
  induction m with
  | nil => intro x hx; simp [mset] at hx; exact .inl hx
  | cons p m ih =>
    obtain ⟨y, u⟩ := p
    intro x hx
    rw [mset] at hx
    split at hx
    · subst_vars; exact .inr hx
    · simp only [List.map_cons, List.mem_cons] at hx ⊢
      rcases hx with hx | hx
      · exact .inr (.inl hx)
      · rcases ih x hx with h | h
        · exact .inl h
        · exact .inr (.inr h)
theorem NdG.set {m : List (κ × Value)} (h : NdG m) (k : κ) (v : Value) : NdG (mset m k v) := by
  induction m with
  | nil => simp [NdG, mset]
  | cons p m ih =>
    obtain ⟨y, u⟩ := p
    simp only [NdG, List.map_cons, List.nodup_cons] at h
    rw [mset]
    split
    · subst_vars; simp only [NdG, List.map_cons, List.nodup_cons]; exact h
    · simp only [NdG, List.map_cons, List.nodup_cons]
      refine ⟨fun hc => ?_, ih h.2⟩
      rcases mset_keysG m k v y hc with e | e
      · rename_i hne; exact hne e.symm
      · exact h.1 e
theorem mget_noG {m : List (κ × Value)} {k : κ} (h : k ∉ m.map (·.1)) : mget m k = none := by
  induction m with
  | nil => rfl
  | cons p m ih =>
    obtain ⟨y, u⟩ := p
    simp only [List.map_cons, List.mem_cons, not_or] at h
    rw [mget, if_neg h.1, ih h.2]
theorem NdG.del {m : List (κ × Value)} (h : NdG m) (k : κ) : NdG (mdel m k) ∧ (∀ x, x ∈ (mdel m k).map (·.1) → x ∈ m.map (·.1)) ∧ ∀ x, mget (mdel m k) x = if x = k then none else mget m x := by
  induction m with
  | nil => simp [NdG, mdel, mget]
  | cons p m ih =>
    obtain ⟨y, u⟩ := p
    simp only [NdG, List.map_cons, List.nodup_cons] at h
    obtain ⟨i1, i2, i3⟩ := ih h.2
    rw [mdel]
    split
    · subst_vars
      refine ⟨h.2, fun x hx => by simp only [List.map_cons, List.mem_cons]; exact .inr hx, fun x => ?_⟩
      rw [mget]
      by_cases e : x = y
      · subst e; rw [if_pos rfl, mget_noG h.1]
      · rw [if_neg e, if_neg e]
    · rename_i hne
      refine ⟨?_, fun x hx => ?_, fun x => ?_⟩
      · simp only [NdG, List.map_cons, List.nodup_cons]
        exact ⟨fun hc => h.1 (i2 y hc), i1⟩
      · simp only [List.map_cons, List.mem_cons] at hx ⊢
        exact hx.imp id (i2 x)
      · rw [mget, mget, i3]
        by_cases e : x = y
        · subst e; rw [if_pos rfl, if_pos rfl, if_neg (fun h => hne h.symm)]
        · rw [if_neg e, if_neg e]
/-- A map that is a set: true for what is in it. -/
structure SetM (S : κ → Bool) (m : List (κ × Value)) : Prop where
  nd : NdG m
  get : ∀ x, mget m x = if S x then some (.bool true) else none
theorem SetM.nil : SetM (fun _ : κ => false) [] := ⟨by simp [NdG], fun x => rfl⟩
theorem SetM.congr {S S' : κ → Bool} {m : List (κ × Value)} (h : SetM S m) (e : ∀ x, S' x = S x) : SetM S' m := ⟨h.nd, fun x => by rw [h.get, e]⟩
theorem SetM.set {S : κ → Bool} {m : List (κ × Value)} (h : SetM S m) (k : κ) : SetM (fun x => decide (x = k) || S x) (mset m k (.bool true)) := ⟨h.nd.set k _, fun x => by
  by_cases e : x = k
  · subst e; rw [mget_set_same]; simp
  · rw [mget_set_other _ _ e, h.get]; simp [e]⟩
theorem SetM.del {S : κ → Bool} {m : List (κ × Value)} (h : SetM S m) (k : κ) : SetM (fun x => !decide (x = k) && S x) (mdel m k) := ⟨(h.nd.del k).1, fun x => by
  rw [(h.nd.del k).2.2]
  by_cases e : x = k
  · simp [e]
  · rw [if_neg e, h.get]; simp [e]⟩
end
end Go.Proofs.YtfebegbjggoijaaGreatDoor

/- slip: Missing. -/
namespace Go.Proofs.YtfebegbjggoijaaGreatDoor
open Go.RowKit

section
variable (a : Option Addr) (c : Nat) (cs : List Ch) (wd side : Int) (la : Option Addr) (lc : Nat) (ls : List Slp) (w : World) [hrow : RowI w (.slice a cs.length c) true 2 (cs.map encCh)] [hT : TextI w cs] [hgs : At w 2 0 sidesC] [hmx : MxI w] [hl : RowI w (.slice la ls.length lc) true 6 (ls.map encSl)]
end
end Go.Proofs.YtfebegbjggoijaaGreatDoor

/- Plain law: all slips of a text: no one is there twice, none is missing. -/
namespace Go.Proofs.YtfebegbjggoijaaGreatDoor
open Go.RowKit

section
variable {t : Tx} {wd side : Int}
theorem allS_mem {s : Slp} (h : s ∈ allS t side wd) : makeF t side wd s.1 = some s ∧ s.1 ∈ allP t t.length := by
  obtain ⟨p, hp, rfl⟩ := List.mem_map.1 h
  rw [slP_at]
  exact ⟨makeF_mem hp (Nat.le_refl _), hp⟩
theorem allS_right (ht : textB t = true) (hc : cutB wd side = true) {s : Slp} (h : s ∈ allS t side wd) : slipB s = true := (make_right ht hc (allS_mem h).1).1
theorem allS_fst : (allS t side wd).map (·.1) = allP t t.length := by
  rw [allS, List.map_map]
  exact (List.map_congr_left fun p _ => slP_at t side wd p).trans (List.map_id _)
theorem allS_nodup : (allS t side wd).Nodup := by
  have h := sorted_nodup (allP_sorted t t.length)
  rw [← allS_fst (side := side) (wd := wd)] at h
  exact List.Pairwise.imp (fun hne e => hne (by rw [e])) (List.pairwise_map.1 h)
theorem allS_get {i : Nat} (hi : i < (allS t side wd).length) : (allS t side wd)[i].1 = (allP t t.length)[i]'(by rw [allS, List.length_map] at hi; exact hi) := by
  simp [allS, slP_at]
end
end Go.Proofs.YtfebegbjggoijaaGreatDoor

/- Plain law: a valid text has a word. -/
namespace Go.Proofs.YtfebegbjggoijaaGreatDoor
open Go.RowKit

theorem allP_pos {t : Tx} (h : textB t = true) : 0 < (allP t t.length).length := by
  simp only [textB, Bool.and_eq_true, List.all_eq_true] at h
  obtain ⟨⟨h1, h2⟩, _⟩ := h
  have ht : 0 < t.length := by simp only [inB, Bool.and_eq_true, decide_eq_true_eq] at h1; omega
  have hc := h2 t[0] (List.getElem_mem ht)
  simp only [chapB, Bool.and_eq_true, List.all_eq_true] at hc
  obtain ⟨⟨_, h3⟩, h4⟩ := hc
  have hl : 0 < t[0].2.length := by simp only [inB, Bool.and_eq_true, decide_eq_true_eq] at h3; omega
  have hy := h4 t[0].2[0] (List.getElem_mem hl)
  simp only [lineB, Bool.and_eq_true] at hy
  have hw : 0 < t[0].2[0].length := by have := hy.1; simp only [inB, Bool.and_eq_true, decide_eq_true_eq] at this; omega
  exact List.length_pos_of_mem (placeB_mem.1 (placeB_yes ht hl hw))
theorem allS_lenP (t : Tx) (side wd : Int) : (allS t side wd).length = (allP t t.length).length := by rw [allS, List.length_map]
end Go.Proofs.YtfebegbjggoijaaGreatDoor

/- Plain law: the word of a slip is the word of its place; what all slips are. -/
namespace Go.Proofs.YtfebegbjggoijaaGreatDoor
open Go.RowKit

theorem make_word {t : Tx} {side W : Int} {p : Pl} {s : Slp} (h : makeF t side W p = some s) : wordT t p = s.2.1 := by
  obtain ⟨k, i, hk, hi, rfl⟩ := makeF_some h
  have hil : i < (wsT t k).flatten.length := by
    have := (List.getElem?_eq_some_iff.1 hi).1
    rwa [runA_len] at this
  have hz : ((runA k (wsT t k)).zip (wsT t k).flatten)[i]? = some (p, (wsT t k).flatten[i]) := by
    rw [List.getElem?_zip_eq_some]
    exact ⟨hi, List.getElem?_eq_getElem hil⟩
  have hm : (p, (wsT t k).flatten[i]) ∈ allW t t.length := List.mem_flatMap.2 ⟨k, List.mem_range.2 hk, List.mem_of_getElem? hz⟩
  obtain ⟨j, hj⟩ := List.mem_iff_getElem?.1 hm
  obtain ⟨k', n, w, hk', hn, hw, hp, hs⟩ := allW_word hj
  show wordT t p = (wsT t k).flatten.getD i ⟨#[]⟩
  rw [hp, wordT_at hk' hn hw, List.getD_eq_getElem?_getD, List.getElem?_eq_getElem hil, Option.getD_some, hs]
/-- The slips of a text, said once. -/
structure AllF (t : Tx) (wd side : Int) (l : List Slp) : Prop where
  eq : allS t side wd = l
  len : l.length ≤ 600
  pos : 0 < l.length
  nd : l.Nodup
  at_ : ∀ (i : Nat) (hi : i < l.length), (allP t t.length)[i]? = some l[i].1
  wd_ : ∀ (i : Nat) (hi : i < l.length), placeB t l[i].1 = true ∧ wordT t l[i].1 = l[i].2.1
  mk_ : ∀ (i : Nat) (hi : i < l.length), makeF t side wd l[i].1 = some l[i]
  rt : ∀ x ∈ l, slipB x = true
theorem allF {t : Tx} {wd side : Int} (ht : textB t = true) (hc : cutB wd side = true) : AllF t wd side (allS t side wd) where
  eq := rfl
  len := allS_len ht
  pos := by rw [allS_lenP]; exact allP_pos ht
  nd := allS_nodup
  at_ i hi := by
    have hi' : i < (allP t t.length).length := by rwa [allS_lenP] at hi
    rw [List.getElem?_eq_getElem hi', allS_get hi]
  wd_ i hi := by
    have h := allS_mem (List.getElem_mem hi)
    exact ⟨placeB_mem.2 h.2, make_word h.1⟩
  mk_ i hi := (allS_mem (List.getElem_mem hi)).1
  rt x hx := allS_right ht hc hx
end Go.Proofs.YtfebegbjggoijaaGreatDoor

/- Plain law: the order of slips is one. -/
namespace Go.Proofs.YtfebegbjggoijaaGreatDoor
open Go.RowKit

/-- Three answers; turned round the other way; zero for equals alone; one behind the other. -/
structure Ord3 {α : Type} (f : α → α → Int) : Prop where
  r : ∀ a b, f a b = -1 ∨ f a b = 0 ∨ f a b = 1
  anti : ∀ a b, f a b = - f b a
  z : ∀ a b, f a b = 0 ↔ a = b
  tr : ∀ a b c, f a b = -1 → f b c = -1 → f a c = -1
theorem Ord3.map {α β : Type} {f : α → α → Int} (hf : Ord3 f) (k : β → α) (hk : ∀ x y, k x = k y → x = y) : Ord3 (fun x y => f (k x) (k y)) where
  r _ _ := hf.r _ _
  anti _ _ := hf.anti _ _
  z a b := by rw [hf.z]; exact ⟨hk a b, fun e => by rw [e]⟩
  tr _ _ _ := hf.tr _ _ _
theorem bytesLess_asymm : ∀ a b : List UInt8, Op.bytesLess a b = true → Op.bytesLess b a = false
  | _, [], h => by cases h' : (‹List UInt8›) <;> simp_all [Op.bytesLess]
  | [], _ :: _, _ => rfl
  | x :: a, y :: b, h => by
    simp only [Op.bytesLess, Bool.or_eq_true, Bool.and_eq_true, decide_eq_true_eq, beq_iff_eq, Bool.or_eq_false_iff, Bool.and_eq_false_iff, decide_eq_false_iff_not] at h ⊢
    rcases h with h | ⟨rfl, h⟩
    · have h1 : x.toNat < y.toNat := UInt8.lt_iff_toNat_lt.1 h
      refine ⟨fun h2 => ?_, ?_⟩
      · have := UInt8.lt_iff_toNat_lt.1 h2; omega
      · left
        cases hb : (y == x)
        · rfl
        · have := eq_of_beq hb; subst this; omega
    · refine ⟨fun h2 => ?_, .inr (bytesLess_asymm a b h)⟩
      have := UInt8.lt_iff_toNat_lt.1 h2; omega
theorem bytesLess_tri : ∀ a b : List UInt8, Op.bytesLess a b = true ∨ a = b ∨ Op.bytesLess b a = true
  | [], [] => .inr (.inl rfl)
  | [], _ :: _ => .inl rfl
  | _ :: _, [] => .inr (.inr rfl)
  | x :: a, y :: b => by
    simp only [Op.bytesLess, Bool.or_eq_true, Bool.and_eq_true, decide_eq_true_eq, beq_iff_eq]
    rcases Nat.lt_trichotomy x.toNat y.toNat with h | h | h
    · exact .inl (.inl (UInt8.lt_iff_toNat_lt.2 h))
    · have e : x = y := UInt8.toNat_inj.1 h
      subst e
      rcases bytesLess_tri a b with h1 | h1 | h1
      · exact .inl (.inr ⟨rfl, h1⟩)
      · exact .inr (.inl (by rw [h1]))
      · exact .inr (.inr (.inr ⟨rfl, h1⟩))
    · exact .inr (.inr (.inl (UInt8.lt_iff_toNat_lt.2 h)))
theorem bytesLess_trans : ∀ a b c : List UInt8, Op.bytesLess a b = true → Op.bytesLess b c = true → Op.bytesLess a c = true
  | _, _, [], _, h => by cases ‹List UInt8› <;> simp [Op.bytesLess] at h
  | [], _, _ :: _, _, _ => rfl
  | _ :: _, [], _ :: _, h, _ => by simp [Op.bytesLess] at h
  | x :: a, y :: b, z :: c, h1, h2 => by
    simp only [Op.bytesLess, Bool.or_eq_true, Bool.and_eq_true, decide_eq_true_eq, beq_iff_eq] at h1 h2 ⊢
    rcases h1 with h1 | ⟨rfl, h1⟩
    · rcases h2 with h2 | ⟨rfl, h2⟩
      · left; have := UInt8.lt_iff_toNat_lt.1 h1; have := UInt8.lt_iff_toNat_lt.1 h2; exact UInt8.lt_iff_toNat_lt.2 (by omega)
      · exact .inl h1
    · rcases h2 with h2 | ⟨rfl, h2⟩
      · exact .inl h2
      · exact .inr ⟨rfl, bytesLess_trans a b c h1 h2⟩
theorem toList_inj {a b : ByteArray} (h : a.toList = b.toList) : a = b := by
  have := beqS a b
  rw [h, beq_self_eq_true] at this
  exact of_decide_eq_true this.symm
theorem ord_cmpS : Ord3 cmpS where
  r a b := by unfold cmpS; split <;> (try split) <;> omega
  anti a b := by
    unfold cmpS
    rcases bytesLess_tri a.toList b.toList with h | h | h
    · have h2 := bytesLess_asymm _ _ h
      have hne : ¬ b = a := fun e => by subst e; rw [h] at h2; cases h2
      rw [if_pos h, if_neg (by rw [h2]; simp), if_neg hne]
    · have e := toList_inj h
      subst e
      rw [bytesLess_irr]; simp
    · have h2 := bytesLess_asymm _ _ h
      have hne : ¬ a = b := fun e => by subst e; rw [h] at h2; cases h2
      rw [if_pos h, if_neg (by rw [h2]; simp), if_neg hne]; rfl
  z a b := by
    refine ⟨fun h => ?_, fun e => by subst e; exact cmpS_self _⟩
    refine Decidable.by_contra fun hne => cmpS_ne hne h
  tr a b c := by
    unfold cmpS
    intro h1 h2
    have q1 : Op.bytesLess a.toList b.toList = true := by
      cases h : Op.bytesLess a.toList b.toList
      · rw [h] at h1; simp at h1; split at h1 <;> omega
      · rfl
    have q2 : Op.bytesLess b.toList c.toList = true := by
      cases h : Op.bytesLess b.toList c.toList
      · rw [h] at h2; simp at h2; split at h2 <;> omega
      · rfl
    rw [if_pos (bytesLess_trans _ _ _ q1 q2)]
end Go.Proofs.YtfebegbjggoijaaGreatDoor

/- Plain law: the words of a text, in order, each once. -/
namespace Go.Proofs.YtfebegbjggoijaaGreatDoor
open Go.RowKit

abbrev SrtS (l : List ByteArray) : Prop := l.Pairwise fun a b => cmpS a b = -1
theorem cmpS_irr (a : ByteArray) : cmpS a a ≠ -1 := by rw [cmpS_self]; decide
theorem SrtS.uniq : ∀ {l m : List ByteArray}, SrtS l → SrtS m → (∀ x, x ∈ l ↔ x ∈ m) → l = m
  | [], [], _, _, _ => rfl
  | [], y :: m, _, _, h => absurd ((h y).2 (by simp)) (by simp)
  | x :: l, [], _, _, h => absurd ((h x).1 (by simp)) (by simp)
  | x :: l, y :: m, hl, hm, h => by
    rw [SrtS, List.pairwise_cons] at hl hm
    have hxy : x = y := by
      rcases List.mem_cons.1 ((h x).1 (by simp)) with e | e
      · exact e
      · rcases List.mem_cons.1 ((h y).2 (by simp)) with e2 | e2
        · exact e2.symm
        · have h1 := hm.1 x e
          have h2 := hl.1 y e2
          exact absurd (ord_cmpS.tr _ _ _ h1 h2) (cmpS_irr y)
    subst hxy
    refine congrArg (x :: ·) (SrtS.uniq hl.2 hm.2 fun z => ⟨fun hz => ?_, fun hz => ?_⟩)
    · rcases List.mem_cons.1 ((h z).1 (List.mem_cons_of_mem _ hz)) with e | e
      · exact absurd (e ▸ hl.1 z hz) (cmpS_irr x)
      · exact e
    · rcases List.mem_cons.1 ((h z).2 (List.mem_cons_of_mem _ hz)) with e | e
      · exact absurd (e ▸ hm.1 z hz) (cmpS_irr x)
      · exact e
/-- A word put where it belongs, if it is not there. -/
def insV (w : ByteArray) : List ByteArray → List ByteArray
  | [] => [w]
  | x :: l => if cmpS x w = -1 then x :: insV w l else if x = w then x :: l else w :: x :: l
theorem mem_insV {w y : ByteArray} : ∀ {l : List ByteArray}, y ∈ insV w l ↔ y = w ∨ y ∈ l
  | [] => by simp [insV]
  | x :: l => by
    have ih := mem_insV (w := w) (y := y) (l := l)
    unfold insV
    split
    · rw [List.mem_cons, ih, List.mem_cons]; constructor <;> rintro (h | h | h) <;> simp [h]
    · split
      · rename_i h1 h2; subst h2; rw [List.mem_cons]; constructor
        · rintro (h | h) <;> simp [h]
        · rintro (h | h | h) <;> simp [h]
      · rw [List.mem_cons]
theorem insV_srt {w : ByteArray} : ∀ {l : List ByteArray}, SrtS l → SrtS (insV w l)
  | [], _ => by simp [insV, SrtS]
  | x :: l, h => by
    rw [SrtS, List.pairwise_cons] at h
    have ih := insV_srt (w := w) h.2
    unfold insV
    split
    · rename_i h1
      rw [SrtS, List.pairwise_cons]
      refine ⟨fun y hy => ?_, ih⟩
      rcases mem_insV.1 hy with rfl | hy
      · exact h1
      · exact h.1 y hy
    · split
      · rw [SrtS, List.pairwise_cons]; exact h
      · rename_i h1 h2
        have h3 : cmpS w x = -1 := by
          rcases ord_cmpS.r x w with q | q | q
          · exact absurd q h1
          · exact absurd ((ord_cmpS.z _ _).1 q) h2
          · have := ord_cmpS.anti x w; omega
        rw [SrtS, List.pairwise_cons, List.pairwise_cons]
        refine ⟨fun y hy => ?_, h⟩
        rcases List.mem_cons.1 hy with rfl | hy
        · exact h3
        · exact ord_cmpS.tr _ _ _ h3 (h.1 y hy)
/-- The words of a list in order, each once. -/
def vocL (ws : List ByteArray) : List ByteArray := ws.foldl (fun l w => insV w l) []
theorem vocL_facts (ws : List ByteArray) : SrtS (vocL ws) ∧ ∀ x, x ∈ vocL ws ↔ x ∈ ws := by
  have h : ∀ (ws l : List ByteArray), SrtS l → SrtS (ws.foldl (fun l w => insV w l) l) ∧ ∀ x, x ∈ ws.foldl (fun l w => insV w l) l ↔ x ∈ l ∨ x ∈ ws := fun ws => by
    induction ws with
    | nil => intro l hl; exact ⟨hl, fun x => by simp⟩
    | cons w ws ih =>
      intro l hl
      obtain ⟨h1, h2⟩ := ih (insV w l) (insV_srt hl)
      refine ⟨h1, fun x => (h2 x).trans ?_⟩
      rw [mem_insV, List.mem_cons]
      constructor
      · rintro ((h | h) | h) <;> simp [h]
      · rintro (h | h | h) <;> simp [h]
  obtain ⟨h1, h2⟩ := h ws [] (by simp [SrtS])
  exact ⟨h1, fun x => (h2 x).trans (by simp)⟩
theorem any_mem {ws : List ByteArray} {w : ByteArray} : ws.any (fun y => decide (y = w)) = true ↔ w ∈ ws := by
  rw [List.any_eq_true]
  exact ⟨fun ⟨y, h, e⟩ => of_decide_eq_true e ▸ h, fun h => ⟨w, h, decide_eq_true rfl⟩⟩
/-- The words, each where it comes first. -/
def dstL (ws : List ByteArray) : Nat → List ByteArray
  | 0 => []
  | i + 1 => dstL ws i ++ (match ws[i]? with
    | some w => if (ws.take i).any (fun y => decide (y = w)) then [] else [w]
    | none => [])
theorem dstL_mem {ws : List ByteArray} : ∀ {i : Nat} {x : ByteArray}, x ∈ dstL ws i ↔ x ∈ ws.take i
  | 0, x => by simp [dstL]
  | i + 1, x => by
    have ih := dstL_mem (ws := ws) (i := i) (x := x)
    rw [dstL, List.mem_append, ih, List.take_add_one, List.mem_append]
    cases h : ws[i]? with
    | none => simp
    | some w =>
      simp only [Option.toList_some, List.mem_singleton]
      split
      · rename_i hm
        rw [any_mem] at hm
        constructor
        · rintro (h | h)
          · exact .inl h
          · simp at h
        · rintro (h | rfl)
          · exact .inl h
          · exact .inl hm
      · simp
theorem dstL_nodup {ws : List ByteArray} : ∀ (i : Nat), (dstL ws i).Nodup
  | 0 => by simp [dstL]
  | i + 1 => by
    rw [dstL]
    cases h : ws[i]? with
    | none => simpa using dstL_nodup i
    | some w =>
      simp only
      split
      · simpa using dstL_nodup i
      · rename_i hm
        rw [List.nodup_append]
        refine ⟨dstL_nodup i, by simp, fun a ha b hb e => ?_⟩
        rw [List.mem_singleton] at hb
        subst hb e
        exact hm (any_mem.2 (dstL_mem.1 ha))
theorem dstL_len {ws : List ByteArray} : ∀ (i : Nat), (dstL ws i).length ≤ i
  | 0 => by simp [dstL]
  | i + 1 => by
    have ih := dstL_len (ws := ws) i
    rw [dstL, List.length_append]
    cases ws[i]? with
    | none => simp; omega
    | some w => simp only; split <;> simp <;> omega
theorem dstL_pre {ws : List ByteArray} {i j : Nat} (h : i ≤ j) : ∃ r, dstL ws j = dstL ws i ++ r := by
  induction j with
  | zero => obtain rfl : i = 0 := by omega
            exact ⟨[], by simp⟩
  | succ j ih =>
    rcases Nat.lt_or_ge j i with h1 | h1
    · obtain rfl : i = j + 1 := by omega
      exact ⟨[], by simp⟩
    · obtain ⟨r, hr⟩ := ih h1
      exact ⟨r ++ _, by rw [dstL, hr, List.append_assoc]⟩
/-- What is sorted of these is the words in order. -/
theorem voc_sort {ws l : List ByteArray} (hp : l.Perm (dstL ws ws.length)) (hs : l.Pairwise fun a b => cmpS b a ≠ -1) : l = vocL ws := by
  obtain ⟨h1, h2⟩ := vocL_facts ws
  have hn : l.Nodup := hp.nodup_iff.2 (dstL_nodup _)
  refine SrtS.uniq ?_ h1 fun x => ?_
  · refine (hs.and hn).imp fun {a b} ⟨q1, q2⟩ => ?_
    rcases ord_cmpS.r a b with q | q | q
    · exact q
    · exact absurd ((ord_cmpS.z _ _).1 q) q2
    · have := ord_cmpS.anti a b; omega
  · rw [hp.mem_iff, dstL_mem, List.take_length, h2]
end Go.Proofs.YtfebegbjggoijaaGreatDoor

/- leaf: all places with their words; Words, PlaceOf. -/
namespace Go.Proofs.YtfebegbjggoijaaGreatDoor
open Go.RowKit

abbrev encPW (x : Pl × ByteArray) : List Value := [encPl x.1, .string x.2]
structure BkF (bx bk : Nat) (a : Option Addr) (c : Nat) (cs : List Ch) (w : World) : Prop where
  bx : At w bx 0 [.pointer (some ⟨bk, 0, none⟩)]
  bk : At w bk 0 [.slice a cs.length c]
  row : RowV w true 2 (.slice a cs.length c) (cs.map encCh)
  tx : TextI w cs
set_option maxHeartbeats 4000000 in
theorem all1_leaf (bx bk : Nat) (a : Option Addr) (c : Nat) (cs : List Ch) (hs : SmallT cs) :
    Iter Tryz.prog 91 [.pointer (some ⟨bx, 0, none⟩)] (allW (txF cs) (txF cs).length) encPW (BkF bx bk a c cs) := by
  intro l J Jx M w hJ hJx hF hM1 hM2 hY h0
  have hs1 := hs.1
  have hF0 := hF 0 w h0
  have := hF0.bx
  have := hF0.bk
  refine Calls.ofW (by simp) ?_
  (refine jjB ?_; refine jjC ?_; refine jN rfl rfl rfl ?_; refine jw rfl ?_; refine jm ?_; refine jn rfl ?_; refine jm ?_; refine jn rfl ?_; refine jN rfl rfl rfl ?_; refine jh rfl ?_; apply jI; exact eI rfl; refine jz ?_; refine jjD ?_)
  refine W.keep0 [(0, .func (.yield l) #[] #[]), (13, .slice a cs.length c), (14, .int .i64 (cs.length : Int)), (15, .int .i64 ((0 : Nat) : Int))] ⟨eF rfl, eS rfl, eI rfl, eI rfl, trivial⟩ fun s0 => ?_
  refine W.loopG (16 :: 17 :: 18 :: 19 :: 4 :: 3 :: 20 :: 21 :: 22 :: 23 :: 24 :: 25 :: 26 :: 27 :: 5 :: 6 :: 28 :: 29 :: 30 :: 31 :: 32 :: 33 :: 34 :: 7 :: 8 :: 35 :: 36 :: 37 :: 38 :: 39 :: 40 :: 41 :: 42 :: 43 :: 44 :: 45 :: 15 :: []) (fun g s' w' => ∃ k : Nat, s' 15 = .int .i64 ((k : Nat) : Int) ∧ k ≤ cs.length ∧ g = cs.length - k ∧ J (allW (txF cs) k).length w') cs.length ⟨0, rfl, by omega, rfl, h0⟩ ?_
  rintro _ sd w' ⟨k, h15, hk, rfl, hJk⟩
  refine W.fix h15 ?_
  clear h15
  have hFk := hF _ _ hJk
  by_cases hkc : k < cs.length
  rotate_left
  · obtain rfl : k = cs.length := by omega
    (refine jjB ?_; refine jjC ?_; refine jja rfl rfl (by omega) ?_; refine jz ?_; refine jjB ?_; refine jjK rfl ?_; refine jjE ?_; refine jA rfl ⟨⟨_, rfl⟩, ?_⟩)
    refine .inl ?_
    rw [txF_len]; exact hJk
  have hsk := hs.2 _ (List.getElem_mem hkc)
  have hsl := hsk.1
  have hcl : (chW cs[k]).length = cs[k].2.2.2.length := by simp [chW]
  have hws := wsT_get hkc
  obtain ⟨ba, oa, rfl, hAk⟩ := hFk.row.place' (map_get hkc)
  have htk : k < (txF cs).length := by rw [txF_len]; exact hkc
  (refine jjB ?_; refine jjC ?_; refine jjZ rfl rfl (by omega) ?_; refine jz ?_; refine jjB ?_; refine jjJ rfl ?_; refine jjG ?_; refine jjB ?_; refine jjD ?_; refine jjB ?_; refine jjC ?_; apply jI; exact eI rfl)
  refine jH k rfl rfl rfl hkc ?_
  (refine jQ rfl rfl ?_)
  ((skip); refine jjY ?_; intro b4 w_b4 hb_b4 hs_b4 hS_b4 hk_b4; have hA_b4 := Bk.of hk_b4)
  (apply jJ; exact eI rfl)
  refine Ops.store rfl rfl rfl rfl rfl ?_
  intro wA hpA
  have hEA : Ext w' wA := hpA.ext hS_b4.ext (by omega)
  have hA4 : At wA b4 0 [.int .i64 cs[k].1, .slice cs[k].2.1 cs[k].2.2.2.length cs[k].2.2.1] := Bk.toAt (h := Bk.of hpA.new)
  have hJA := hJ _ _ _ hJk hEA
  (refine jz ?_; refine jjB ?_; refine jjC ?_; refine jm ?_; refine jn rfl ?_; refine jN rfl rfl rfl ?_; refine jh rfl ?_; apply jI; exact eI rfl; refine jz ?_; refine jjD ?_)
  refine W.keep [(0, .func (.yield l) #[] #[]), (13, .slice (some ⟨ba, oa, none⟩) cs.length c), (14, .int .i64 (cs.length : Int)), (15, .int .i64 ((k : Nat) : Int)), (3, .int .i64 ((k : Nat) : Int)), (21, .slice cs[k].2.1 cs[k].2.2.2.length cs[k].2.2.1), (22, .int .i64 (cs[k].2.2.2.length : Int)), (23, .int .i64 ((0 : Nat) : Int))] (D := (16 :: 17 :: 18 :: 19 :: 4 :: 3 :: 20 :: 21 :: 22 :: 23 :: 24 :: 25 :: 26 :: 27 :: 5 :: 6 :: 28 :: 29 :: 30 :: 31 :: 32 :: 33 :: 34 :: 7 :: 8 :: 35 :: 36 :: 37 :: 38 :: 39 :: 40 :: 41 :: 42 :: 43 :: 44 :: 45 :: 15 :: [])) (sO := upds s0 _) (by ((refine Same.upd rfl ?_; refine Same.upd rfl ?_; refine Same.upd rfl ?_; refine Same.upd rfl ?_; refine Same.upd rfl ?_; refine Same.upd rfl ?_; refine Same.upd rfl ?_; refine Same.upd rfl ?_; refine Same.upd rfl ?_; refine Same.upd rfl ?_; refine Same.upd rfl ?_; exact Same.ovN))) ⟨eF rfl, eS rfl, eI rfl, eI rfl, eI rfl, eS rfl, eI rfl, eI rfl, trivial⟩ fun s1 hs1' => ?_
  refine W.loopG (24 :: 25 :: 26 :: 27 :: 5 :: 6 :: 28 :: 29 :: 30 :: 31 :: 32 :: 33 :: 34 :: 7 :: 8 :: 35 :: 36 :: 37 :: 38 :: 39 :: 40 :: 41 :: 42 :: 43 :: 44 :: 23 :: []) (fun g s' V => ∃ n : Nat, s' 23 = .int .i64 ((n : Nat) : Int) ∧ n ≤ cs[k].2.2.2.length ∧ g = cs[k].2.2.2.length - n ∧ J ((allW (txF cs) k).length + ((chW cs[k]).take n).flatten.length) V) cs[k].2.2.2.length ⟨0, rfl, by omega, rfl, hJA⟩ ?_
  rintro _ sd2 V ⟨n, h23, hn, rfl, hJn⟩
  refine W.fix h23 ?_
  clear h23
  have hFn := hF _ _ hJn
  by_cases hnl : n < cs[k].2.2.2.length
  rotate_left
  · obtain rfl : n = cs[k].2.2.2.length := by omega
    rw [← hcl, List.take_length, ← hws, ← allW_succ] at hJn
    (refine jjB ?_; refine jjC ?_; refine jja rfl rfl (by omega) ?_; refine jz ?_; refine jjB ?_; refine jjK rfl ?_; refine jjE ?_; refine jjC ?_; refine jY rfl rfl (by omega) ?_; apply jI; exact eI rfl; refine jz ?_)
    exact ⟨rfl, by ((refine Same.upd rfl ?_; refine Same.upd rfl ?_; refine Same.upd rfl ?_; refine Same.upd rfl ?_; refine Same.ovN' rfl ?_; assumption)), cs.length - (k + 1), by omega, k + 1, congrArg (Value.int .i64) (by omega), by omega, rfl, hJn⟩
  have hsn := hsk.2 _ (List.getElem_mem hnl)
  have hsq := hsn.1
  have hnc : n < (chW cs[k]).length := by rw [hcl]; exact hnl
  have hcn : (chW cs[k])[n] = cs[k].2.2.2[n].2.2 := by simp [chW]
  have hnx := flat_len_succ hnc
  rw [hcn] at hnx
  have iL := hFn.tx.line hkc
  (refine jjB ?_; refine jjC ?_; refine jjZ rfl rfl (by omega) ?_; refine jz ?_; refine jjB ?_; refine jjJ rfl ?_; refine jjG ?_; refine jjB ?_; refine jjD ?_; refine jjB ?_; refine jjC ?_; apply jI; exact eI rfl; refine jF rfl rfl rfl (map_get (by omega)) ?_; intro _ _ _; refine jQ rfl rfl ?_; apply jJ; exact eI rfl; apply jJ; exact eS rfl; refine jz ?_; refine jjB ?_; refine jjC ?_; apply jI; exact eS rfl; refine jh rfl ?_; apply jI; exact eI rfl; refine jz ?_; refine jjD ?_)
  refine W.keep [(0, .func (.yield l) #[] #[]), (13, .slice (some ⟨ba, oa, none⟩) cs.length c), (14, .int .i64 (cs.length : Int)), (15, .int .i64 ((k : Nat) : Int)), (3, .int .i64 ((k : Nat) : Int)), (21, .slice cs[k].2.1 cs[k].2.2.2.length cs[k].2.2.1), (22, .int .i64 (cs[k].2.2.2.length : Int)), (23, .int .i64 ((n : Nat) : Int)), (5, .int .i64 ((n : Nat) : Int)), (28, .slice cs[k].2.2.2[n].1 cs[k].2.2.2[n].2.2.length cs[k].2.2.2[n].2.1), (29, .int .i64 (cs[k].2.2.2[n].2.2.length : Int)), (30, .int .i64 ((0 : Nat) : Int))] (D := (24 :: 25 :: 26 :: 27 :: 5 :: 6 :: 28 :: 29 :: 30 :: 31 :: 32 :: 33 :: 34 :: 7 :: 8 :: 35 :: 36 :: 37 :: 38 :: 39 :: 40 :: 41 :: 42 :: 43 :: 44 :: 23 :: [])) (sO := upds s1 _) (by ((refine Same.upd rfl ?_; refine Same.upd rfl ?_; refine Same.upd rfl ?_; refine Same.upd rfl ?_; refine Same.upd rfl ?_; refine Same.upd rfl ?_; refine Same.upd rfl ?_; refine Same.upd rfl ?_; refine Same.upd rfl ?_; refine Same.upd rfl ?_; exact Same.ovN))) ⟨eF rfl, eS rfl, eI rfl, eI rfl, eI rfl, eS rfl, eI rfl, eI rfl, eI rfl, eS rfl, eI rfl, eI rfl, trivial⟩ fun s2 hs2' => ?_
  refine W.loopG (31 :: 32 :: 33 :: 34 :: 7 :: 8 :: 35 :: 36 :: 37 :: 38 :: 39 :: 40 :: 41 :: 42 :: 43 :: 30 :: []) (fun g s' V => ∃ q : Nat, s' 30 = .int .i64 ((q : Nat) : Int) ∧ q ≤ cs[k].2.2.2[n].2.2.length ∧ g = cs[k].2.2.2[n].2.2.length - q ∧ J ((allW (txF cs) k).length + (((chW cs[k]).take n).flatten.length + q)) V) cs[k].2.2.2[n].2.2.length ⟨0, rfl, by omega, rfl, hJn⟩ ?_
  rintro _ sd3 V2 ⟨q, h30, hq, rfl, hJq⟩
  refine W.fix h30 ?_
  clear h30
  have hFq := hF _ _ hJq
  by_cases hql : q < cs[k].2.2.2[n].2.2.length
  rotate_left
  · obtain rfl : q = cs[k].2.2.2[n].2.2.length := by omega
    (refine jjB ?_; refine jjC ?_; refine jja rfl rfl (by omega) ?_; refine jz ?_; refine jjB ?_; refine jjK rfl ?_; refine jjE ?_; refine jjC ?_; refine jY rfl rfl (by omega) ?_; apply jI; exact eI rfl; refine jz ?_)
    exact ⟨rfl, by ((refine Same.upd rfl ?_; refine Same.upd rfl ?_; refine Same.upd rfl ?_; refine Same.upd rfl ?_; refine Same.ovN' rfl ?_; assumption)), cs[k].2.2.2.length - (n + 1), by omega, n + 1, congrArg (Value.int .i64) (by omega), by omega, rfl, by rw [hnx]; exact hJq⟩
  have hqc : q < ((wsT (txF cs) k)[n]'(by rw [hws]; exact hnc)).length := by simp only [hws, hcn]; exact hql
  have hall := allW_at htk (by rw [hws]; exact hnc) hqc
  simp only [hws, hcn] at hall
  have iW := hFq.tx.word hkc hnl
  (refine jjB ?_; refine jjC ?_; refine jjZ rfl rfl (by omega) ?_; refine jz ?_; refine jjB ?_; refine jjJ rfl ?_; refine jjG ?_; refine jjB ?_; refine jjD ?_; refine jjB ?_; refine jjC ?_; apply jI; exact eI rfl; refine jF rfl rfl rfl (map_get (by omega)) ?_; intro _ _ _; refine jQ rfl rfl ?_; apply jJ; exact eI rfl; apply jJ; exact eT rfl; refine jz ?_; refine jjB ?_; refine jjC ?_; apply jI; exact eF rfl; apply jI; exact eI rfl; apply jI; exact eI rfl; apply jI; exact eI rfl)
  (refine jjS (cells := [.int .i64 (k : Int), .int .i64 (n : Int), .int .i64 (q : Int)]) ?_ ?_; exact rfl)
  (apply jI; exact eT rfl)
  refine Ops.yield (hY _ _ _ hall hJq) rfl rfl ?_
  rintro e V3 (⟨rfl, hJ3, hFr⟩ | ⟨rfl, hJx3⟩)
  · refine ⟨_, rfl, ?_⟩
    (refine jp rfl ?_; refine jz ?_; refine jjK rfl ?_; refine jjG ?_; refine jjC ?_; refine jY rfl rfl (by omega) ?_; apply jI; exact eI rfl; refine jz ?_)
    exact ⟨rfl, by ((refine Same.upd rfl ?_; refine Same.upd rfl ?_; refine Same.upd rfl ?_; refine Same.upd rfl ?_; refine Same.upd rfl ?_; refine Same.upd rfl ?_; refine Same.upd rfl ?_; refine Same.upd rfl ?_; refine Same.upd rfl ?_; refine Same.upd rfl ?_; refine Same.upd rfl ?_; refine Same.upd rfl ?_; refine Same.upd rfl ?_; refine Same.upd rfl ?_; refine Same.upd rfl ?_; refine Same.upd rfl ?_; refine Same.upd rfl ?_; exact Same.ovN)), cs[k].2.2.2[n].2.2.length - (q + 1), by omega, q + 1, congrArg (Value.int .i64) (by omega), by omega, rfl, hJ3⟩
  · refine ⟨_, rfl, ?_⟩
    (refine jq rfl ?_; refine jz ?_; refine jjJ rfl ?_; refine jjF ?_; refine jA rfl ⟨⟨_, rfl⟩, ?_⟩)
    exact .inr ⟨_, (List.getElem?_eq_some_iff.1 hall).1, hJx3⟩
theorem all_leaf (bk : Nat) (w : World) : Ct Tryz.prog 70 [.pointer (some ⟨bk, 0, none⟩)] w fun v w' => ∃ bx, v = .func (.func 91) #[] ([.pointer (some ⟨bx, 0, none⟩)] : List Value).toArray ∧ w.heap.size ≤ bx ∧ At w' bx 0 [.pointer (some ⟨bk, 0, none⟩)] := by
  refine Ct.ofW (by simp) ?_
  (refine jjB ?_; refine jjC ?_)
  (refine jy rfl ?_; intro bx w_bx hb_bx hs_bx hS_bx hk_bx; have hA_bx := At.ofBlock hk_bx)
  (apply jJ; exact rfl; refine jz ?_; refine jjB ?_; refine jjC ?_; refine jv ?_; apply jJ; exact eF rfl; refine jz ?_; refine jjF ?_; refine jB rfl rfl ⟨inferInstance, ?_⟩)
  exact ⟨bx, rfl, by omega, inferInstance⟩
end Go.Proofs.YtfebegbjggoijaaGreatDoor

/- The proof engine, part 29: two results in variables, where marks lie. -/
namespace Go.Proofs.YtfebegbjggoijaaGreatDoor
open Go.RowKit

end Go.Proofs.YtfebegbjggoijaaGreatDoor

/- leaf: Words, PlaceOf. -/
namespace Go.Proofs.YtfebegbjggoijaaGreatDoor
open Go.RowKit

theorem allW_small {cs : List Ch} (ht : textB (txF cs) = true) : (allW (txF cs) (txF cs).length).length ≤ 600 := by
  have h := allS_len (side := 1) (wd := 12) ht
  rw [allS, List.length_map] at h
  rw [allW_len]; exact h
section
variable (a : Option Addr) (c : Nat) (cs : List Ch) (w : World) [hrow : RowI w (.slice a cs.length c) true 2 (cs.map encCh)] [hT : TextI w cs]
end
end Go.Proofs.YtfebegbjggoijaaGreatDoor

/- The proof engine, part 32: iterators that write one block of their own while they run. -/
namespace Go.Proofs.YtfebegbjggoijaaGreatDoor
open Go.RowKit

/-- Below N all is as it was but block kb; data are as they were but in kb. -/
structure GrowB (N kb : Nat) (w w' : World) : Prop where
  os : w'.os = w.os
  tape : w'.tape = w.tape
  output : w'.output = w.output
  size : w.heap.size ≤ w'.heap.size
  old : ∀ (k : Nat), k < N → k ≠ kb → w'.heap[k]? = w.heap[k]?
  data : ∀ (k : Nat) (o : Obj), w.heap[k]? = some o → Obj.loopy o = false → k ≠ kb → w'.heap[k]? = some o
  kd : (∃ o, w.heap[kb]? = some o ∧ Obj.loopy o = false) → ∃ o, w'.heap[kb]? = some o ∧ Obj.loopy o = false
/-- Block kb holds data. -/
abbrev KbD (kb : Nat) (w : World) : Prop := ∃ o, w.heap[kb]? = some o ∧ Obj.loopy o = false
theorem GrowB.refl (N kb : Nat) (w : World) : GrowB N kb w w := ⟨rfl, rfl, rfl, Nat.le_refl _, fun _ _ _ => rfl, fun _ _ h _ _ => h, id⟩
theorem GrowB.trans {N kb : Nat} {a b c : World} (h : GrowB N kb a b) (k : GrowB N kb b c) : GrowB N kb a c :=
  ⟨k.os.trans h.os, k.tape.trans h.tape, k.output.trans h.output, Nat.le_trans h.size k.size, fun i hi hn => (k.old i hi hn).trans (h.old i hi hn), fun i o hi ho hn => k.data i o (h.data i o hi ho hn) ho hn, fun x => k.kd (h.kd x)⟩
theorem GrowB.mono {N M kb : Nat} {w w' : World} (h : GrowB N kb w w') (hM : M ≤ N) : GrowB M kb w w' := ⟨h.os, h.tape, h.output, h.size, fun k hk => h.old k (by omega), h.data, h.kd⟩
theorem Grow.toB {N kb : Nat} {w w' : World} (h : Grow N w w') : GrowB N kb w w' := ⟨h.os, h.tape, h.output, h.size, fun k hk _ => h.old k hk, fun k o hk ho _ => h.data k o hk ho, fun ⟨o, h1, h2⟩ => ⟨o, h.data kb o h1 h2, h2⟩⟩
theorem Ext.growB {N kb : Nat} {w w' : World} (h : Ext w w') (hN : N ≤ w.heap.size) : GrowB N kb w w' := (h.grow hN).toB
theorem PutO.growB {N kb : Nat} {w w' : World} {o : Obj} (p : PutO w w' kb o) (ho : Obj.loopy o = false) : GrowB N kb w w' := ⟨p.os, p.tape, p.output, by rw [p.size]; exact Nat.le_refl _, fun k _ hk => p.other k hk, fun k _ hk _ hn => (p.other k hn).trans hk, fun _ => ⟨o, p.new, ho⟩⟩
theorem GrowB.cell {N kb : Nat} {w w' : World} (g : GrowB N kb w w') {b o : Nat} {v : Value} (h : w.cell? ⟨b, o, none⟩ = some v) (hn : b ≠ kb) : w'.cell? ⟨b, o, none⟩ = some v := by
  obtain ⟨ob, hb, hd⟩ := cell_block h
  have := g.data b ob hb hd hn
  rw [← h]
  exact World.cell?_of_block (a := ⟨b, o, none⟩) (this.trans hb.symm)
theorem At.growB {N kb : Nat} {w w' : World} {b o : Nat} {cs : List Value} (h : At w b o cs) (g : GrowB N kb w w') (hn : b ≠ kb) : At w' b o cs := ⟨fun i v hv => g.cell (h.h i v hv) hn⟩
theorem Bk.growB {N kb : Nat} {w w' : World} {b e : Nat} {cs : List Value} (h : Bk w b cs e) (g : GrowB N kb w w') (hn : b ≠ kb) : Bk w' b cs e := ⟨g.data b _ h.h rfl hn⟩
theorem OwnL.growB {N kb : Nat} {w w' : World} {B e : Nat} {agg : Bool} {k : Nat} {v : Value} {xs : List Value} (h : OwnL w B e agg k v xs) (hs : GrowB N kb w w') (hn : v.ownBlock ≠ some kb) : OwnL w' B e agg k v xs :=
  h.kept fun g hg => by
    rcases h.own.2 with ⟨rfl, _⟩ | ⟨g', cap, cur, rfl, hB, hg', _⟩
    · simp [Value.ownBlock] at hg
    · simp only [Value.ownBlock, Option.some.injEq] at hg
      subst hg
      exact (hs.data _ _ hg' rfl (fun e => hn (by subst e; rfl))).trans hg'.symm
theorem Only.growB {N kb : Nat} {w0 w w' : World} (h : Only kb w0 w) (g : GrowB N kb w w') (hN : w0.heap.size ≤ N) : Only kb w0 w' :=
  ⟨g.os.trans h.os, g.tape.trans h.tape, g.output.trans h.output, Nat.le_trans h.size g.size, fun k hk hn => (g.old k (by omega) hn).trans (h.other k hk hn)⟩

/-- A step that leaves the machine's blocks alone but those in E. -/
structure TrE (E : Nat → Prop) (w w' : World) : Prop where
  size : w.heap.size ≤ w'.heap.size
  keep : ∀ (k : Nat) (o : Obj), ¬ E k → w.heap[k]? = some o → Obj.loopy o = true → w'.heap[k]? = some o
theorem Tr.toE {E : Nat → Prop} {w w' : World} (h : Tr w w') : TrE E w w' := ⟨h.size, fun k o _ hk ho => h.keep k o hk ho⟩
theorem TrE.trans {E : Nat → Prop} {a b c : World} (h : TrE E a b) (k : TrE E b c) : TrE E a c := ⟨Nat.le_trans h.size k.size, fun i o hi ho hl => k.keep i o hi (h.keep i o hi ho hl) hl⟩
theorem TrE.mono {E F : Nat → Prop} {a b : World} (h : TrE E a b) (hf : ∀ k, E k → F k) : TrE F a b := ⟨h.size, fun i o hi ho hl => h.keep i o (fun e => hi (hf i e)) ho hl⟩
theorem MksP.trF {N : Nat} {F : Nat → Prop} {w w' : World} (hF : ∀ k, F k → k < N) : ∀ {ds : List Deferred}, MksP N w ds → TrE F w w' → MksP N w' ds
  | [], _, _ => trivial
  | _ :: _, ⟨⟨D, e, hN, hD, hne⟩, h⟩, t => ⟨⟨D, e, hN, t.keep D _ (fun h => by have := hF D h; omega) hD rfl, hne⟩, h.trF hF t⟩
theorem Yd.mono {P : Program} {l : Nat} {args : List Value} {w : World} {R R' : Ending → World → Prop} (h : Yd P l args w R) (hr : ∀ e w', R e w' → R' e w') : Yd P l args w R' := by
  obtain ⟨fn, tmps, assign, body, h1, h2⟩ := h
  exact ⟨fn, tmps, assign, body, h1, h2.mono hr⟩
/-- Iterator gf, which may write block kb between two calls of yield: it hands the values xs to yield; of the rounds it wants that they keep Fct and leave kb alone; I holds where it begins. -/
def IterH {α : Type} (P : Program) (gf : Nat) (lb : List Value) (xs : List α) (enc : α → List Value) (kb : Nat) (Fct I : World → Prop) : Prop :=
  ∀ (l : Nat) (J Jx : Nat → World → Prop) (M : World → Nat → Prop) (w0 : World), kb < w0.heap.size →
    (∀ i a b, J i a → GrowB w0.heap.size kb a b → J i b) → (∀ i a b, Jx i a → GrowB w0.heap.size kb a b → Jx i b) →
    (∀ i a, J i a → Fct a ∧ w0.heap.size ≤ a.heap.size) → (∀ i a, Jx i a → w0.heap.size ≤ a.heap.size) →
    (∀ i a k, J i a → M a k → k < a.heap.size ∧ k ≠ kb) → (∀ i a b k, J i a → GrowB w0.heap.size kb a b → M b k → M a k) →
    (∀ i x a, xs[i]? = some x → J i a → Yd P l (enc x) a fun e b => (e = .returned (.bool true) ∧ J (i + 1) b ∧ Fr M a b ∧ Tr a b) ∨ (e = .returned (.bool false) ∧ Jx (i + 1) b ∧ TrE (fun k => k = l) a b)) → l < w0.heap.size → I w0 → J 0 w0 →
    Calls P gf ([Value.func (.yield l) #[] #[]] ++ lb).toArray w0 fun e b => (∃ v, e = .returned v) ∧ (J xs.length b ∨ ∃ i, i ≤ xs.length ∧ Jx i b)

section
variable {P : Program} {ro : Option Nat} {n : Nat} {X : Ctx} {s : Sl} {ds : List Deferred} {w : World}
/-- A range over a function whose own steps go by Gs, said of the world in which it is called. -/
theorem W.rangeE {α : Type} {g : Operand} {ps : List Nat} {assign body : Code} (N : Nat) (xs : List α) (enc : α → List Value) {gf : Nat} {lb : List Value} (E : Nat → Prop) (hE0 : ∀ k, E k → k < N) (Gs : World → World → World → Prop)
    (hg : ev n s g = .func (.func gf) #[] lb.toArray) [he : Enters P gf] (hps : ∀ x, (enc x).length = ps.length) (hro : RoOk w ro) (hmk : Mks N w ds) (hN : N ≤ w.heap.size)
    (J : Nat → World → Prop) (Jx : Code → Nat → World → Prop) (hJ : ∀ i V V', J i V → Grow w.heap.size V V' → J i V') (hJx : ∀ c i V V', Jx c i V → Grow w.heap.size V V' → Jx c i V')
    (hJG : ∀ V1 i V V', Ext w V1 → V1.heap.size ≤ V.heap.size → J i V → Gs V1 V V' → J i V') (hJxG : ∀ V1 c i V V', Ext w V1 → V1.heap.size ≤ V.heap.size → Jx c i V → Gs V1 V V' → Jx c i V')
    (hGt : ∀ V1 V V', Ext w V1 → V1.heap.size ≤ V.heap.size → Gs V1 V V' → V.heap.size ≤ V'.heap.size ∧ ∀ (k : Nat) (o : Obj), k < V1.heap.size → V.heap[k]? = some o → Obj.loopy o = true → V'.heap[k]? = some o)
    (h0 : J 0 w) (M : World → Nat → Prop) (hW3 : ∀ i V V' k, J i V → Grow w.heap.size V V' → M V' k → M V k ∨ V.heap.size ≤ k)
    (hit : ∀ (l : Nat) (J' Jx' : Nat → World → Prop) (V1 : World), Ext w V1 → (∀ i V, J' i V → J i V ∧ V1.heap.size ≤ V.heap.size) → (∀ i V, Jx' i V → (∃ c, Jx c i V) ∧ V1.heap.size ≤ V.heap.size) →
      (∀ i V V', J' i V → Gs V1 V V' → J' i V') → (∀ i V V', Jx' i V → Gs V1 V V' → Jx' i V') →
      (∀ i x V, xs[i]? = some x → J' i V → Yd P l (enc x) V fun e V' => (e = .returned (.bool true) ∧ J' (i + 1) V' ∧ Fr M V V' ∧ Tr V V') ∨ (e = .returned (.bool false) ∧ Jx' (i + 1) V' ∧ TrE (fun k => k = l ∨ E k) V V')) → w.heap.size ≤ l → l < V1.heap.size → J' 0 V1 →
      Calls P gf ([Value.func (.yield l) #[] #[]] ++ lb).toArray V1 fun e w' => (∃ v, e = .returned v) ∧ (J' xs.length w' ∨ ∃ i, i ≤ xs.length ∧ Jx' i w'))
    (A : α → Sl → World → Prop) (hA : ∀ x s V V', A x s V → Grow w.heap.size V V' → A x s V')
    (hassign : ∀ l i x V, xs[i]? = some x → J i V → w.heap.size ≤ l → IsRec V l →
      W P (some l) n assign { nx := fun s' ds' V' => ds' = [] ∧ Tr V V' ∧ Fr M V V' ∧ J i V' ∧ A x s' V', rt := fun _ _ _ => False, ex := fun _ _ _ _ => False } (setPs s ps (enc x)) [] V)
    (hbody : ∀ l i x s' V, xs[i]? = some x → J i V → A x s' V → w.heap.size ≤ l → IsRec V l →
      W P (some l) n body { nx := fun _ _ V' => Tr V V' ∧ Fr M V V' ∧ J (i + 1) V', rt := fun _ _ V' => TrE E V V' ∧ Jx .ret (i + 1) V', ex := fun id _ _ V' => TrE E V V' ∧ Jx (.exit id) (i + 1) V' } s' [] V)
    (hdone : ∀ ds' V, Mks N V ds' → Tr w V → J xs.length V → X.nx s ds' V)
    (hstop : ∀ ds' c i V, Mks N V ds' → TrE E w V → i ≤ xs.length → Jx c i V → W P ro n c X s ds' V) :
    W P ro n (.rangeFunc g ps.toArray assign body) X s ds w := by
  unfold W at hassign hbody hstop ⊢
  refine wpIn_rangeFunc ?_
  intro fn hfn
  -- the world in which the iterator is called
  have enter : ∃ (l : Nat) (mark : List Deferred) (df : Nat) (V1 : World) (rec : LoopState → Option Code → Loop), (∀ st pe, (rec st pe).state = st ∧ (rec st pe).pending = pe ∧ (rec st pe).fn = fn ∧ (rec st pe).tmps = (mkA n s ds).tmps ∧ (rec st pe).params = ps.toArray ∧ (rec st pe).assign = assign ∧ (rec st pe).body = body ∧ (rec st pe).defers = df) ∧
      (Instr.enterLoop fn (mkA n s ds).tmps ps.toArray assign body (Fw ro).round).run P w = .ok (l, mark) V1 ∧ V1.heap[l]? = some (.loop (rec .ready none)) ∧ w.heap.size ≤ l ∧ Ext w V1 ∧ MksP N V1 (mark ++ ds) := by
    cases ro with
    | none =>
      refine ⟨_, _, w.heap.size, _, fun st pe => { state := st, pending := pe, fn, tmps := (mkA n s ds).tmps, params := ps.toArray, assign, body, defers := w.heap.size }, fun st pe => ⟨rfl, rfl, rfl, rfl, rfl, rfl, rfl, rfl⟩, run_enterLoop_outer _ _ _ _ _, ?_, by omega, ?_, ?_⟩
      · have := World.alloc_heap_new (w.alloc (.deferred (some []))) (.loop { state := .ready, pending := none, fn, tmps := (mkA n s ds).tmps, params := ps.toArray, assign, body, defers := w.heap.size })
        rwa [World.size_alloc] at this
      · exact ⟨((Below.refl _ w).alloc (Nat.le_refl _) _).alloc (by simp) _⟩
      · have hE : Ext w ((w.alloc (.deferred (some []))).alloc (.loop { state := .ready, pending := none, fn, tmps := (mkA n s ds).tmps, params := ps.toArray, assign, body, defers := w.heap.size })) := ⟨((Below.refl _ w).alloc (Nat.le_refl _) _).alloc (by simp) _⟩
        refine ⟨⟨w.heap.size, rfl, hN, ?_, fun d' hd' => ?_⟩, hmk.h.tr hE.tr⟩
        · exact (Below.heap_alloc _ _ _ (by simp)).trans (World.alloc_heap_new w _)
        · obtain ⟨D, rfl, hlt⟩ := hmk.h.lt d' hd'
          intro e
          simp only [Deferred.mk.injEq, Target.collected.injEq, and_true] at e
          omega
    | some l0 =>
      obtain ⟨r0, hr0⟩ := (show IsRec w l0 from hro).h
      have hE : ∀ o, Ext w (w.alloc o) := fun o => ⟨(Below.refl _ w).alloc (Nat.le_refl _) _⟩
      exact ⟨_, _, r0.defers, _, fun st pe => { state := st, pending := pe, fn, tmps := (mkA n s ds).tmps, params := ps.toArray, assign, body, defers := r0.defers }, fun st pe => ⟨rfl, rfl, rfl, rfl, rfl, rfl, rfl, rfl⟩, run_enterLoop_inner hr0 _ _ _ _ _, World.alloc_heap_new w _, by omega, hE _, hmk.h.tr (hE _).tr⟩
  obtain ⟨l, mark, df, V1, rec, hrec, hent, hL1, hl, hE1, hM1⟩ := enter
  have hE1' : w.heap.size ≤ V1.heap.size := hE1.size
  have hl1 : l < V1.heap.size := (Array.getElem?_eq_some_iff.1 hL1).1
  have eN : ∀ st pe st' pe', ({ rec st pe with state := st', pending := pe' } : Loop) = rec st' pe' := fun st pe st' pe' => by
    obtain ⟨a1, a2, a3, a4, a5, a6, a7, a8⟩ := hrec st pe
    obtain ⟨b1, b2, b3, b4, b5, b6, b7, b8⟩ := hrec st' pe'
    generalize hx : rec st' pe' = y at *
    generalize hy : rec st pe = x at *
    cases x; cases y
    simp_all
  refine ⟨l, mark, V1, { target := .fn (.func gf) lb.toArray, args := #[.func (.yield l) #[] #[]] }, V1, gf, ([Value.func (.yield l) #[] #[]] ++ lb).toArray, V1, hent, ?_, fun _ _ => trivial, ?_, fun h => by simp [Fw, Fence.wide] at h, ?_⟩
  · simp only [resolve, mkA_eval, hg]
    simp [Deferred.ofValue, ev]
  · have e : (#[Value.func (.yield l) #[] #[]] ++ lb.toArray : Array Value) = ([Value.func (.yield l) #[] #[]] ++ lb).toArray := by simp
    simp only [invoke]
    rw [e]
    exact he.h _ _
  have hcalls := hit l (fun i V => J i V ∧ V.heap[l]? = some (.loop (rec .ready none)) ∧ MksP N V (mark ++ ds) ∧ Tr V1 V)
      (fun i V => ∃ c, Jx c i V ∧ V.heap[l]? = some (.loop (rec .done (some c))) ∧ MksP N V (mark ++ ds) ∧ V1.heap.size ≤ V.heap.size ∧ ∀ k, k ≠ l → ¬ E k → ∀ o, V1.heap[k]? = some o → Obj.loopy o = true → V.heap[k]? = some o) V1 hE1
      (fun i V h => ⟨h.1, h.2.2.2.size⟩) (fun i V h => by obtain ⟨c, h1, _, _, h5, _⟩ := h; exact ⟨⟨c, h1⟩, h5⟩)
      (fun i V V' h g => by
        have hs : V1.heap.size ≤ V.heap.size := h.2.2.2.size
        obtain ⟨t1, t2⟩ := hGt V1 V V' hE1 hs g
        exact ⟨hJG V1 i V V' hE1 hs h.1 g, t2 l _ hl1 h.2.1 rfl, h.2.2.1.trB t2 hM1.lt, ⟨Nat.le_trans hs t1, fun k o hk ho => t2 k o (Array.getElem?_eq_some_iff.1 hk).1 (h.2.2.2.keep k o hk ho) ho⟩⟩)
      (fun i V V' h g => by
        obtain ⟨c, h1, h2, h3, h5, h4⟩ := h
        obtain ⟨t1, t2⟩ := hGt V1 V V' hE1 h5 g
        exact ⟨c, hJxG V1 c i V V' hE1 h5 h1 g, t2 l _ hl1 h2 rfl, h3.trB t2 hM1.lt, Nat.le_trans h5 t1, fun k hk hk2 o ho hlo => t2 k o (Array.getElem?_eq_some_iff.1 ho).1 (h4 k hk hk2 o ho hlo) hlo⟩)
      ?round hl hl1 ⟨hJ 0 _ _ h0 (hE1.grow (Nat.le_refl _)), hL1, hM1, Tr.refl _⟩
  case round =>
    rintro i x V hx ⟨hj, hL, hM, hT⟩
    obtain ⟨c1, c2, c3, c4, c5, c6, c7, c8⟩ := hrec .ready none
    have hy := run_yield (P := P) (args := (enc x).toArray) hL (by rw [c5]; simpa using hps x)
    rw [c3, c4, c5, c6, c7] at hy
    have hNl : N ≤ l := by omega
    -- the record's own turns
    have turn : ∀ (V : World) (st st' : LoopState) (pe pe' : Option Code), V.heap[l]? = some (.loop (rec st pe)) → Grow w.heap.size V (V.putObj l (.loop (rec st' pe'))) ∧ (V.putObj l (.loop (rec st' pe'))).heap[l]? = some (.loop (rec st' pe')) ∧
        (∀ k, k ≠ l → (V.putObj l (.loop (rec st' pe'))).heap[k]? = V.heap[k]?) := fun V st st' pe pe' h =>
      ⟨Grow.putObj _ h rfl hl, World.putObj_heap_same (Array.getElem?_eq_some_iff.1 h).1, fun k hk => World.putObj_heap_other hk⟩
    have mks : ∀ (V : World) (o' : Loop), (∃ r, V.heap[l]? = some (.loop r)) → ∀ (dds : List Deferred), MksP N V dds → MksP N (V.putObj l (.loop o')) dds := by
      intro V o' hW dds
      induction dds with
      | nil => exact fun _ => trivial
      | cons d dds ih =>
        rintro ⟨⟨D, e, hD, hb, hne⟩, h⟩
        refine ⟨⟨D, e, hD, ?_, hne⟩, ih h⟩
        have : D ≠ l := by
          rintro rfl
          obtain ⟨r, hr⟩ := hW
          rw [hb] at hr; cases hr
        exact (World.putObj_heap_other this).trans hb
    refine ⟨fn, _, assign, body, hy, ?_⟩
    have hround : RoundIn (Fw none) 0 P l fn ((ps.toArray.zip (enc x).toArray).foldl (fun t (p, v) => t.setIfInBounds p v) (mkA n s ds).tmps) assign body V
        (fun e w' => (e = .returned (.bool true) ∧ (J (i + 1) w' ∧ w'.heap[l]? = some (.loop (rec .ready none)) ∧ MksP N w' (mark ++ ds) ∧ Tr V1 w') ∧ Fr M V w' ∧ Tr V w') ∨
          (e = .returned (.bool false) ∧ (∃ c, Jx c (i + 1) w' ∧ w'.heap[l]? = some (.loop (rec .done (some c))) ∧ MksP N w' (mark ++ ds) ∧ V1.heap.size ≤ w'.heap.size ∧ ∀ k, k ≠ l → ¬ E k → ∀ o, V1.heap[k]? = some o → Obj.loopy o = true → w'.heap[k]? = some o) ∧ TrE (fun k => k = l ∨ E k) V w')) := by
      refine roundIn_of_wpIn trivial ?_
      have hact := setPs_mkA n ps (enc x) s ds
      rw [hact]
      refine wpIn_mono (hassign l i x V hx hj hl ⟨_, hL⟩) fun e a w1 hp => ?_
      cases e with
      | ret => obtain ⟨_, _, _, h⟩ := hp; exact h.elim
      | exit i => obtain ⟨_, _, _, h⟩ := hp; exact h.elim
      | goto l => exact hp.elim
      | panic c => exact hp.elim
      | outgrown => exact hp.elim
      | normal =>
        obtain ⟨s', ds', rfl, rfl, ht1, hf1, hj1, hA1⟩ := hp
        have hLw1 := ht1.keep l _ hL rfl
        have hb := run_beginRound (P := P) hLw1 c1
        have hb' : ({ rec .ready none with state := .busy } : Loop) = rec .busy none := by
          have := eN .ready none .busy none
          rw [← this]; simp [c2]
        rw [hb'] at hb
        obtain ⟨g2, hL2, ho2⟩ := turn w1 .ready .busy none none hLw1
        refine ⟨_, hb, ?_⟩
        have hM2 := mks w1 (rec .busy none) ⟨_, hLw1⟩ _ (hM.tr ht1)
        refine wpIn_mono (hbody l i x s' _ hx (hJ _ _ _ hj1 g2) (hA _ _ _ _ hA1 g2) hl ⟨_, hL2⟩) fun e a w3 hp => ?_
        have fin : ∀ (jump : Option Code) (F : Nat → Prop), (∀ k, F k → k < N) → TrE F (w1.putObj l (.loop (rec .busy none))) w3 →
            (Instr.endRound l jump).run P w3 = .ok (.bool jump.isNone) (w3.putObj l (.loop (rec (if jump.isNone then .ready else .done) jump))) ∧
            Grow w.heap.size w3 (w3.putObj l (.loop (rec (if jump.isNone then .ready else .done) jump))) ∧
            (w3.putObj l (.loop (rec (if jump.isNone then .ready else .done) jump))).heap[l]? = some (.loop (rec (if jump.isNone then .ready else .done) jump)) ∧
            MksP N (w3.putObj l (.loop (rec (if jump.isNone then .ready else .done) jump))) (mark ++ ds) ∧
            (∀ k, k ≠ l → ¬ F k → ∀ o, V.heap[k]? = some o → Obj.loopy o = true → (w3.putObj l (.loop (rec (if jump.isNone then .ready else .done) jump))).heap[k]? = some o) := fun jump F hFN ht3 => by
          have hL3 := ht3.keep l _ (fun h => by have := hFN l h; omega) hL2 rfl
          have hr := run_endRound (P := P) jump hL3
          rw [eN] at hr
          obtain ⟨g4, hL4, ho4⟩ := turn w3 .busy (if jump.isNone then .ready else .done) none jump hL3
          refine ⟨hr, g4, hL4, mks _ _ ⟨_, hL3⟩ _ (hM2.trF hFN ht3), fun k hk hkF o ho hlo => ?_⟩
          rw [ho4 k hk]
          refine ht3.keep k o hkF ?_ hlo
          rw [ho2 k hk]
          exact ht1.keep k o ho hlo
        have hsz1 : V.heap.size ≤ (w1.putObj l (.loop (rec .busy none))).heap.size := Nat.le_trans ht1.size g2.size
        cases e with
        | normal =>
          obtain ⟨_, _, _, ht3, hf3, hj3⟩ := hp
          obtain ⟨hr, g4, hL4, hM4, ho4⟩ := fin none (fun _ => False) (fun _ h => h.elim) ⟨ht3.size, fun k o _ hk ho => ht3.keep k o hk ho⟩
          have htr : Tr V (w3.putObj l (.loop (rec (if (none : Option Code).isNone then .ready else .done) none))) := ⟨Nat.le_trans hsz1 (Nat.le_trans ht3.size g4.size), fun k o ho hlo => by
            by_cases e : k = l
            · subst e
              rw [hL] at ho; cases ho
              exact hL4
            · exact ho4 k e id o ho hlo⟩
          exact ⟨_, _, hr, .inl ⟨rfl, ⟨hJ _ _ _ hj3 g4, hL4, hM4, hT.trans htr⟩, hf1.trans ((Fr.ofGrow g2 fun k => hW3 i _ _ k hj1 g2).trans (hf3.trans (Fr.ofGrow g4 fun k => hW3 (i + 1) _ _ k hj3 g4))), htr⟩⟩
        | ret =>
          obtain ⟨_, _, _, ht3, hj3⟩ := hp
          obtain ⟨hr, g4, hL4, hM4, ho4⟩ := fin (some .ret) E hE0 ht3
          have hsz := Nat.le_trans hsz1 (Nat.le_trans ht3.size g4.size)
          exact ⟨_, _, hr, .inr ⟨rfl, ⟨.ret, hJx _ _ _ _ hj3 g4, hL4, hM4, Nat.le_trans hT.size hsz, fun k hk hkE o ho hlo => ho4 k hk hkE o (hT.keep k o ho hlo) hlo⟩, hsz, fun k o hk ho hlo => ho4 k (fun e => hk (.inl e)) (fun e => hk (.inr e)) o ho hlo⟩⟩
        | exit id =>
          obtain ⟨_, _, _, ht3, hj3⟩ := hp
          obtain ⟨hr, g4, hL4, hM4, ho4⟩ := fin (some (.exit id)) E hE0 ht3
          have hsz := Nat.le_trans hsz1 (Nat.le_trans ht3.size g4.size)
          exact ⟨_, _, hr, .inr ⟨rfl, ⟨.exit id, hJx _ _ _ _ hj3 g4, hL4, hM4, Nat.le_trans hT.size hsz, fun k hk hkE o ho hlo => ho4 k hk hkE o (hT.keep k o ho hlo) hlo⟩, hsz, fun k o hk ho hlo => ho4 k (fun e => hk (.inl e)) (fun e => hk (.inr e)) o ho hlo⟩⟩
        | goto l => exact hp.elim
        | panic c => exact hp.elim
        | outgrown => exact hp.elim
    exact hround
  have hc := (callsIn_wide (n := 0)).2 hcalls
  refine CallsIn.mono (F := Fw ro) (n := 0 - 1) hc fun e V2 hR => ?_
  obtain ⟨⟨v, rfl⟩, hR⟩ := hR
  have trw : ∀ (F : Nat → Prop) (o : Loop) (V2 : World), V1.heap.size ≤ V2.heap.size → (∀ k, k ≠ l → ¬ F k → ∀ o, V1.heap[k]? = some o → Obj.loopy o = true → V2.heap[k]? = some o) → TrE F w (V2.putObj l (.loop o)) := fun F o V2 hsz h4 =>
    ⟨by simp; omega, fun k ob hkF hk hlo => by
      have hkw : k < w.heap.size := (Array.getElem?_eq_some_iff.1 hk).1
      have : k ≠ l := by omega
      rw [World.putObj_heap_other this]
      exact h4 k this hkF ob (hE1.block' hk) hlo⟩
  have mks2 : ∀ (V : World) (o' : Loop), (∃ r, V.heap[l]? = some (.loop r)) → ∀ (dds : List Deferred), MksP N V dds → MksP N (V.putObj l (.loop o')) dds := by
    intro V o' hW dds
    induction dds with
    | nil => exact fun _ => trivial
    | cons d dds ih =>
      rintro ⟨⟨D, e, hD, hb, hne⟩, h⟩
      refine ⟨⟨D, e, hD, ?_, hne⟩, ih h⟩
      have : D ≠ l := by
        rintro rfl
        obtain ⟨r, hr⟩ := hW
        rw [hb] at hr; cases hr
      exact (World.putObj_heap_other this).trans hb
  rcases hR with ⟨hj, hL, hM, hT⟩ | ⟨i, hi, c, hj, hL, hM, hsz, hT⟩
  · have hr := run_endLoop (P := P) hL (by rw [(hrec .ready none).1]; simp)
    rw [(hrec .ready none).2.1] at hr
    refine ⟨none, _, hr, ?_⟩
    have g : ∀ o' : Loop, Grow w.heap.size V2 (V2.putObj l (.loop o')) := fun o' => Grow.putObj _ hL rfl hl
    exact ⟨s, _, rfl, hdone _ _ ⟨mks2 _ _ ⟨_, hL⟩ _ hM⟩ (let t := trw (fun _ => False) _ _ hT.size (fun k _ _ o ho hlo => hT.keep k o ho hlo); ⟨t.size, fun k o hk ho => t.keep k o id hk ho⟩) (hJ _ _ _ hj (g _))⟩
  · have hr := run_endLoop (P := P) hL (by rw [(hrec .done (some c)).1]; simp)
    rw [(hrec .done (some c)).2.1] at hr
    refine ⟨some c, _, hr, ?_⟩
    have g : ∀ o' : Loop, Grow w.heap.size V2 (V2.putObj l (.loop o')) := fun o' => Grow.putObj _ hL rfl hl
    exact hstop _ c i _ ⟨mks2 _ _ ⟨_, hL⟩ _ hM⟩ (trw E _ _ hsz hT) hi (hJx _ _ _ _ hj (g _))


theorem W.rangeH {α : Type} {g : Operand} {ps : List Nat} {assign body : Code} (N kb : Nat) (xs : List α) (enc : α → List Value) {Fct I : World → Prop} {gf : Nat} {lb : List Value}
    (hit : IterH P gf lb xs enc kb Fct I) (hkb : kb < w.heap.size) (hg : ev n s g = .func (.func gf) #[] lb.toArray) [he : Enters P gf] (hps : ∀ x, (enc x).length = ps.length) (hro : RoOk w ro) (hmk : Mks N w ds) (hN : N ≤ w.heap.size)
    (J : Nat → World → Prop) (Jx : Code → Nat → World → Prop) (hJ : ∀ i V V', J i V → GrowB w.heap.size kb V V' → J i V') (hJx : ∀ c i V V', Jx c i V → GrowB w.heap.size kb V V' → Jx c i V')
    (hF : ∀ i V, J i V → Fct V) (hI : ∀ V, Ext w V → I V) (hK : ∀ i V, J i V → KbD kb V) (hKx : ∀ c i V, Jx c i V → KbD kb V) (h0 : J 0 w)
    (M : World → Nat → Prop) (hM1 : ∀ i V k, J i V → M V k → k < V.heap.size ∧ k ≠ kb) (hM2 : ∀ i V V' k, J i V → GrowB w.heap.size kb V V' → M V' k → M V k)
    (A : α → Sl → World → Prop) (hA : ∀ x s V V', A x s V → Grow w.heap.size V V' → A x s V')
    (hassign : ∀ l i x V, xs[i]? = some x → J i V → w.heap.size ≤ l → IsRec V l →
      W P (some l) n assign { nx := fun s' ds' V' => ds' = [] ∧ Tr V V' ∧ Fr M V V' ∧ J i V' ∧ A x s' V', rt := fun _ _ _ => False, ex := fun _ _ _ _ => False } (setPs s ps (enc x)) [] V)
    (hbody : ∀ l i x s' V, xs[i]? = some x → J i V → A x s' V → w.heap.size ≤ l → IsRec V l →
      W P (some l) n body { nx := fun _ _ V' => Tr V V' ∧ Fr M V V' ∧ J (i + 1) V', rt := fun _ _ V' => Tr V V' ∧ Jx .ret (i + 1) V', ex := fun id _ _ V' => Tr V V' ∧ Jx (.exit id) (i + 1) V' } s' [] V)
    (hdone : ∀ ds' V, Mks N V ds' → J xs.length V → X.nx s ds' V)
    (hstop : ∀ ds' c i V, Mks N V ds' → i ≤ xs.length → Jx c i V → W P ro n c X s ds' V) :
    W P ro n (.rangeFunc g ps.toArray assign body) X s ds w := by
  refine W.rangeE N xs enc (fun _ => False) (fun _ h => h.elim) (fun V1 V V' => GrowB V1.heap.size kb V V' ∧ KbD kb V) hg hps hro hmk hN J Jx (fun i V V' h e => hJ i V V' h e.toB) (fun c i V V' h e => hJx c i V V' h e.toB)
    (fun V1 i V V' hE _ h e => hJ i V V' h (e.1.mono hE.size)) (fun V1 c i V V' hE _ h e => hJx c i V V' h (e.1.mono hE.size)) ?_ h0 M (fun i V V' k h e hm => .inl (hM2 i V V' k h e.toB hm)) ?_ A hA hassign (fun l i x s' V h1 h2 h3 h4 h5 => W.mono (hbody l i x s' V h1 h2 h3 h4 h5) (fun _ _ _ h => h) (fun _ _ _ ⟨h, h'⟩ => ⟨h.toE, h'⟩) (fun _ _ _ _ ⟨h, h'⟩ => ⟨h.toE, h'⟩)) (fun ds' V h1 _ h2 => hdone ds' V h1 h2) (fun ds' c i V h1 _ h2 h3 => hstop ds' c i V h1 h2 h3)
  · rintro V1 V V' hE hs ⟨h, o1, ho1, hl1⟩
    refine ⟨h.size, fun k o hk ho hlo => ?_⟩
    by_cases e : k = kb
    · subst e
      rw [ho1] at ho; cases ho; rw [hl1] at hlo; cases hlo
    · exact (h.old k hk e).trans ho
  · intro l J' Jx' V1 hE h1 h2 h3 h4 hY _ hl1 h0'
    exact hit l J' Jx' M V1 (Nat.lt_of_lt_of_le hkb hE.size) (fun i a b h g => h3 i a b h ⟨g, hK i a (h1 i a h).1⟩) (fun i a b h g => h4 i a b h ⟨g, let ⟨c, hc⟩ := (h2 i a h).1; hKx c i a hc⟩) (fun i a h => ⟨hF i a (h1 i a h).1, (h1 i a h).2⟩) (fun i a h => (h2 i a h).2)
      (fun i a k h => hM1 i a k (h1 i a h).1) (fun i a b k h g => hM2 i a b k (h1 i a h).1 (g.mono hE.size)) (fun i x a hx ha => by
        have h := hY i x a hx ha
        simpa only [or_false] using h) hl1 (hI V1 hE) h0'
/-- A range whose rounds write what J tells. -/
theorem W.rangeJ {α : Type} {g : Operand} {ps : List Nat} {assign body : Code} (N : Nat) (xs : List α) (enc : α → List Value) {Fct : World → Prop} {gf : Nat} {lb : List Value}
    (hit : Iter P gf lb xs enc Fct) (hg : ev n s g = .func (.func gf) #[] lb.toArray) [he : Enters P gf] (hps : ∀ x, (enc x).length = ps.length) (hro : RoOk w ro) (hmk : Mks N w ds) (hN : N ≤ w.heap.size)
    (J : Nat → World → Prop) (Jx : Code → Nat → World → Prop) (hJ : ∀ i V V', J i V → Grow w.heap.size V V' → J i V') (hJx : ∀ c i V V', Jx c i V → Grow w.heap.size V V' → Jx c i V')
    (hF : ∀ i V, J i V → Fct V) (hs : ∀ i V, J i V → w.heap.size ≤ V.heap.size) (h0 : J 0 w)
    (M : World → Nat → Prop) (hM1 : ∀ i V k, J i V → M V k → k < V.heap.size) (hM2 : ∀ i V V' k, J i V → Grow w.heap.size V V' → M V' k → M V k)
    (A : α → Sl → World → Prop) (hA : ∀ x s V V', A x s V → Grow w.heap.size V V' → A x s V')
    (hassign : ∀ l i x V, xs[i]? = some x → J i V → w.heap.size ≤ l → IsRec V l →
      W P (some l) n assign { nx := fun s' ds' V' => ds' = [] ∧ Tr V V' ∧ Fr M V V' ∧ J i V' ∧ A x s' V', rt := fun _ _ _ => False, ex := fun _ _ _ _ => False } (setPs s ps (enc x)) [] V)
    (hbody : ∀ l i x s' V, xs[i]? = some x → J i V → A x s' V → w.heap.size ≤ l → IsRec V l →
      W P (some l) n body { nx := fun _ _ V' => Tr V V' ∧ Fr M V V' ∧ J (i + 1) V', rt := fun _ _ V' => Tr V V' ∧ Jx .ret (i + 1) V', ex := fun id _ _ V' => Tr V V' ∧ Jx (.exit id) (i + 1) V' } s' [] V)
    (hdone : ∀ ds' V, Mks N V ds' → Tr w V → J xs.length V → X.nx s ds' V)
    (hstop : ∀ ds' c i V, Mks N V ds' → Tr w V → i ≤ xs.length → Jx c i V → W P ro n c X s ds' V) :
    W P ro n (.rangeFunc g ps.toArray assign body) X s ds w :=
  W.rangeR N xs enc (fun _ => Ext) hg hps hro hmk hN J Jx hJ hJx (fun V1 i V V' hE hz h e => hJ i V V' h (e.grow (Nat.le_trans hE.size hz))) (fun V1 c i V V' hE hz h e => hJx c i V V' h (e.grow (Nat.le_trans hE.size hz)))
    (fun V1 V V' _ _ e => ⟨e.size, fun k o _ hk ho => e.tr.keep k o hk ho⟩) h0 M (fun i V V' k h e hm => .inl (hM2 i V V' k h e hm))
    (fun l J' Jx' V1 hE h1 h2 h3 h4 hY h0' => hit l J' Jx' M V1 h3 h4 (fun i V h => hF i V (h1 i V h).1) (fun i V k h => hM1 i V k (h1 i V h).1) (fun i V V' k h e => hM2 i V V' k (h1 i V h).1 (e.grow (hs i V (h1 i V h).1))) hY h0')
    A hA hassign hbody hdone hstop
/-- The same within a round of another range, whose record lies in E. -/
theorem W.rangeJE {α : Type} {g : Operand} {ps : List Nat} {assign body : Code} (N : Nat) (E : Nat → Prop) (hE0 : ∀ k, E k → k < N) (xs : List α) (enc : α → List Value) {Fct : World → Prop} {gf : Nat} {lb : List Value}
    (hit : Iter P gf lb xs enc Fct) (hg : ev n s g = .func (.func gf) #[] lb.toArray) [he : Enters P gf] (hps : ∀ x, (enc x).length = ps.length) (hro : RoOk w ro) (hmk : Mks N w ds) (hN : N ≤ w.heap.size)
    (J : Nat → World → Prop) (Jx : Code → Nat → World → Prop) (hJ : ∀ i V V', J i V → Grow w.heap.size V V' → J i V') (hJx : ∀ c i V V', Jx c i V → Grow w.heap.size V V' → Jx c i V')
    (hF : ∀ i V, J i V → Fct V) (hs : ∀ i V, J i V → w.heap.size ≤ V.heap.size) (h0 : J 0 w)
    (M : World → Nat → Prop) (hM1 : ∀ i V k, J i V → M V k → k < V.heap.size) (hM2 : ∀ i V V' k, J i V → Grow w.heap.size V V' → M V' k → M V k)
    (A : α → Sl → World → Prop) (hA : ∀ x s V V', A x s V → Grow w.heap.size V V' → A x s V')
    (hassign : ∀ l i x V, xs[i]? = some x → J i V → w.heap.size ≤ l → IsRec V l →
      W P (some l) n assign { nx := fun s' ds' V' => ds' = [] ∧ Tr V V' ∧ Fr M V V' ∧ J i V' ∧ A x s' V', rt := fun _ _ _ => False, ex := fun _ _ _ _ => False } (setPs s ps (enc x)) [] V)
    (hbody : ∀ l i x s' V, xs[i]? = some x → J i V → A x s' V → w.heap.size ≤ l → IsRec V l →
      W P (some l) n body { nx := fun _ _ V' => Tr V V' ∧ Fr M V V' ∧ J (i + 1) V', rt := fun _ _ V' => TrE E V V' ∧ Jx .ret (i + 1) V', ex := fun id _ _ V' => TrE E V V' ∧ Jx (.exit id) (i + 1) V' } s' [] V)
    (hdone : ∀ ds' V, Mks N V ds' → Tr w V → J xs.length V → X.nx s ds' V)
    (hstop : ∀ ds' c i V, Mks N V ds' → TrE E w V → i ≤ xs.length → Jx c i V → W P ro n c X s ds' V) :
    W P ro n (.rangeFunc g ps.toArray assign body) X s ds w :=
  W.rangeE N xs enc E hE0 (fun _ => Ext) hg hps hro hmk hN J Jx hJ hJx (fun V1 i V V' hE hz h e => hJ i V V' h (e.grow (Nat.le_trans hE.size hz))) (fun V1 c i V V' hE hz h e => hJx c i V V' h (e.grow (Nat.le_trans hE.size hz)))
    (fun V1 V V' _ _ e => ⟨e.size, fun k o _ hk ho => e.tr.keep k o hk ho⟩) h0 M (fun i V V' k h e hm => .inl (hM2 i V V' k h e hm))
    (fun l J' Jx' V1 hE h1 h2 h3 h4 hY _ _ h0' => hit l J' Jx' M V1 h3 h4 (fun i V h => hF i V (h1 i V h).1) (fun i V k h => hM1 i V k (h1 i V h).1) (fun i V V' k h e => hM2 i V V' k (h1 i V h).1 (e.grow (hs i V (h1 i V h).1))) (fun i x V hx hV => (hY i x V hx hV).mono fun _ _ h => h.imp (fun ⟨a, b, c, _⟩ => ⟨a, b, c⟩) (fun ⟨a, b, _⟩ => ⟨a, b⟩)) h0')
    A hA hassign hbody hdone hstop
end
theorem fin0M {P : Program} {fn : Func} {n N : Nat} {R : Value → World → Prop} {s : Sl} {ds : List Deferred} {w : World} (hf : fn.results = #[]) (hm : Mks N w ds) (h : ∀ w', Grow N w w' → R (.tuple #[]) w') : finM P fn n N R s ds w := by
  unfold finM
  exact ⟨hm, fun w' g => ⟨_, run_results0 hf, h w' g⟩⟩

/-! ### A slice in a variable that rounds append to, and nothing else -/
def MOb (b : Nat) (V : World) (k : Nat) : Prop := k = b ∨ ∃ v, V.cell? ⟨b, 0, none⟩ = some v ∧ v.ownBlock = some k
theorem MOb.lt {b kb B e e' k' : Nat} {agg : Bool} {V : World} {v : Value} {xs : List Value} {k : Nat} (hb : Bk V b [v] e) (ho : OwnL V B e' agg k' v xs) (hbk : b ≠ kb) (hB : kb < B) (h : MOb b V k) : k < V.heap.size ∧ k ≠ kb := by
  rcases h with rfl | ⟨v', hv, hk⟩
  · exact ⟨hb.lt, hbk⟩
  · rw [hb.cell1] at hv; cases hv
    have := ho.block k hk
    omega
theorem MOb.back {b e N kb : Nat} {V V' : World} {v : Value} {k : Nat} (hb : Bk V b [v] e) (g : GrowB N kb V V') (hn : b ≠ kb) (h : MOb b V' k) : MOb b V k := by
  rcases h with h | ⟨v', hv, hk⟩
  · exact .inl h
  · rw [g.cell hb.cell1 hn] at hv; cases hv
    exact .inr ⟨v, hb.cell1, hk⟩
theorem MOb.same {b e e' : Nat} {V V' : World} {v : Value} {k : Nat} (hb : Bk V b [v] e) (hb' : Bk V' b [v] e') (h : MOb b V' k) : MOb b V k := by
  rcases h with h | ⟨v', hv, hk⟩
  · exact .inl h
  · rw [hb'.cell1] at hv; cases hv
    exact .inr ⟨v, hb.cell1, hk⟩
theorem MOb.append {b B e e' : Nat} {V1 V2 V3 : World} {v v2 : Value} {o : Obj} (hb : Bk V1 b [v] e) (hA : App B V1 V2 v) (hp : PutO V2 V3 b o) (hb3 : Bk V3 b [v2] e') (hw : v2.ownBlock = v.ownBlock ∨ v2.ownBlock = some V1.heap.size) : Fr (MOb b) V1 V3 :=
  ⟨by rw [hp.size]; exact hA.g.size, fun k o' hk _ hm => by
    have h1 : v.ownBlock ≠ some k := fun e => hm (.inr ⟨v, hb.cell1, e⟩)
    have h2 : k ≠ b := fun e => hm (.inl e)
    exact (hp.other k h2).trans (hA.other hk h1),
   fun k hk => by
    rcases hk with h | ⟨v', hv, hk⟩
    · exact .inl (.inl h)
    · rw [hb3.cell1] at hv; cases hv
      rcases hw with h | h
      · exact .inl (.inr ⟨v, hb.cell1, by rw [← h]; exact hk⟩)
      · rw [h] at hk; cases hk; exact .inr (Nat.le_refl _)⟩
end Go.Proofs.YtfebegbjggoijaaGreatDoor

/- leaf: the places of each word of a text, as a map. -/
namespace Go.Proofs.YtfebegbjggoijaaGreatDoor
open Go.RowKit

theorem map_two {κ : Type} {f : κ → Value} (hf : ∀ x y, f x = f y → x = y) : ∀ {m m' : List (κ × Value)}, m.map (fun p => f p.1) = m'.map (fun p => f p.1) → m.map (·.2) = m'.map (·.2) → m = m'
  | [], [], _, _ => rfl
  | [], _ :: _, h, _ => by simp at h
  | _ :: _, [], h, _ => by simp at h
  | (a, b) :: m, (c, d) :: m', h, h2 => by
    simp only [List.map_cons, List.cons.injEq] at h h2
    obtain rfl := hf _ _ h.1
    obtain rfl := h2.1
    rw [map_two hf h.2 h2.2]
theorem MapE.uniq {κ : Type} {encK : κ → Value} (hf : ∀ x y, encK x = encK y → x = y) {w : World} {b : Nat} {m m' : List (κ × Value)} (h : MapE encK w b m) (h' : MapE encK w b m') : m = m' := by
  obtain ⟨es, c, h1, h2, h3, _⟩ := h.h
  obtain ⟨es', c', h1', h2', h3', _⟩ := h'.h
  rw [h1] at h1'
  cases h1'
  exact map_two hf (h2.symm.trans h2') (h3.symm.trans h3')
theorem str_inj (x y : ByteArray) (h : Value.string x = Value.string y) : x = y := by cases h; rfl
/-- The places of a word among the first words. -/
def plsN (t : Tx) (i : Nat) (s : ByteArray) : List Pl := (((allW t t.length).take i).filter fun x => decide (x.2 = s)).map (·.1)
theorem plsN_len (t : Tx) (i : Nat) (s : ByteArray) : (plsN t i s).length ≤ i := by
  rw [plsN, List.length_map]
  exact Nat.le_trans (List.length_filter_le _ _) (List.length_take_le _ _)
theorem plsN_snoc {t : Tx} {i : Nat} {p : Pl} {s : ByteArray} (h : (allW t t.length)[i]? = some (p, s)) (x : ByteArray) : plsN t (i + 1) x = plsN t i x ++ if s = x then [p] else [] := by
  rw [plsN, List.take_add_one, h, List.filter_append, List.map_append, ← plsN]
  by_cases e : s = x
  · simp [e]
  · simp [e]
/-- What rounds write: the map, and its values' own blocks. -/
def MI (mb : Nat) (V : World) (k : Nat) : Prop := k = mb ∨ ∃ m s, MapE Value.string V mb m ∧ ((mget m s).getD nilV).ownBlock = some k
structure IxJ (w w2 : World) (t : Tx) (b3 mb bx bk : Nat) (a : Option Addr) (c cl : Nat) (i : Nat) (V : World) : Prop where
  e : Ext w V
  sz : w2.heap.size ≤ V.heap.size
  k3 : At V b3 0 [.map (some mb)]
  kx : At V bx 0 [.pointer (some ⟨bk, 0, none⟩)]
  kk : At V bk 0 [.slice a cl c]
  m : ∃ m, MapE Value.string V mb m ∧ (NdG m ∧ ∀ s, OwnL V w2.heap.size 111 true 3 ((mget m s).getD nilV) ((plsN t i s).map encPl)) ∧ ∀ (p q : ByteArray) (g : Nat), p ≠ q → ((mget m p).getD nilV).ownBlock = some g → ((mget m q).getD nilV).ownBlock ≠ some g
section
variable (a : Option Addr) (c : Nat) (cs : List Ch) (w : World) [hrow : RowI w (.slice a cs.length c) true 2 (cs.map encCh)] [hT : TextI w cs]
set_option maxHeartbeats 4000000 in
theorem index_leaf (hs : SmallT cs) (ht : textB (txF cs) = true) (bk : Nat) [hb : At w bk 0 [.slice a cs.length c]] : Ct Tryz.prog 68 [.pointer (some ⟨bk, 0, none⟩)] w fun v w' => ∃ mb m, v = .map (some mb) ∧ w.heap.size ≤ mb ∧ MapE Value.string w' mb m ∧ NdG m ∧ ∀ s, OwnL w' (mb + 1) 111 true 3 ((mget m s).getD nilV) ((plsN (txF cs) (allW (txF cs) (txF cs).length).length s).map encPl) := by
  have hal := allW_small ht
  refine Ct.ofWM (by simp) ?_
  (refine jjB ?_; refine jjC ?_; apply jJ; exact eM rfl; refine jz ?_; refine jjB ?_; refine jjC ?_)
  refine Ops.makeMap Value.string ?_
  intro mb w1 hmb hs1 hS1 hM1
  skip
  (apply jjR rfl; (intro _; first|exact eI rfl|exact eB rfl|exact eP rfl|exact eS rfl|exact eT rfl|exact eA rfl|exact eU rfl|exact eF rfl|exact eM rfl|exact eN rfl|exact rfl); exact rfl; exact rfl; exact rfl; exact rfl; intro b3 w_b3 hb_b3 hs_b3 hS_b3 hk_b3; have hA_b3 := Bk.of hk_b3)
  (refine jz ?_; refine jjB ?_; refine jjB ?_; refine jjC ?_; apply jI; exact eP rfl)
  refine jjQ (all_leaf bk _) rfl rfl ?_
  rintro _ w2 hS2 ⟨bx, rfl, hbx, hAx⟩
  (refine jz ?_; refine jjD ?_)
  have hE2 : Ext w w2 := inferInstance
  have zz := hE2.size
  have z3 := hS_b3.size
  have z2 := hS2.size
  have hM2 : MapE Value.string w2 mb [] := hM1.ext (hS_b3.ext.trans hS2.ext)
  have hA3 : At w2 b3 0 [.map (some mb)] := inferInstance
  have hAk : At w2 bk 0 [.slice a cs.length c] := inferInstance
  have hwm : w.heap.size ≤ mb := by omega
  have hbm : b3 ≠ mb := by omega
  have hlx := hAx.lt
  have hlk := hb.lt
  have hxm : bx ≠ mb := by omega
  have hkm : bk ≠ mb := by omega
  have hmw : mb < w2.heap.size := by omega
  have h3l := hA3.lt
  refine W.rangeJ w.heap.size (allW (txF cs) (txF cs).length) encPW (all1_leaf bx bk a c cs hs) rfl (fun _ => rfl) trivial inferInstance zz
    (IxJ w w2 (txF cs) b3 mb bx bk a c cs.length) (fun _ _ _ => False) ?hJ (fun _ _ _ _ h _ => h) ?hF (fun i V h => h.sz) ?h0 (MI mb) ?hM1 ?hM2
    (fun x s' V => ∃ b4, s' 3 = .pointer (some ⟨b3, 0, none⟩) ∧ s' 4 = .pointer (some ⟨b4, 0, none⟩) ∧ s' 5 = .string x.2 ∧ w2.heap.size ≤ b4 ∧ Bk V b4 (encPl x.1).cells.toList 111 ∧ ∃ m, MapE Value.string V mb m ∧ ∀ s, ((mget m s).getD nilV).ownBlock ≠ some b4) (fun x s V V' ⟨b4, h1, h2, h3, h4, h5, m, h6, h7⟩ g => ⟨b4, h1, h2, h3, h4, h5.grow g, m, h6.grow g, h7⟩) ?hassign ?hbody ?hdone (fun _ _ _ _ _ _ _ h => h.elim)
  case hJ =>
    rintro i V V' ⟨h1, h2, h3, h4, h5, m, h6, h7, h8⟩ g
    exact ⟨h1.ofGrow g zz, Nat.le_trans h2 g.size, h3.grow g, h4.grow g, h5.grow g, m, h6.grow g, ⟨h7.1, fun s => (h7.2 s).grow g⟩, h8⟩
  case hF =>
    rintro i V ⟨h1, h2, h3, h4, h5, m, h6, h7, h8⟩
    exact ⟨h4, h5, hrow.h.ext h1, hT.ext h1⟩
  case h0 =>
    exact ⟨hE2, Nat.le_refl _, hA3, hAx, hAk, [], hM2, ⟨by simp [NdG], fun s => by simpa [mget, plsN] using OwnL.nil _ _ _ _ _⟩, fun p q g _ h => by simp [mget, Value.ownBlock] at h⟩
  case hM1 =>
    rintro i V k ⟨h1, h2, h3, h4, h5, m, h6, h7, h8⟩ (rfl | ⟨m', s, h9, h10⟩)
    · exact h6.lt
    · obtain rfl := MapE.uniq str_inj h6 h9
      exact ((h7.2 s).block k h10).2
  case hM2 =>
    rintro i V V' k ⟨h1, h2, h3, h4, h5, m, h6, h7, h8⟩ g (rfl | ⟨m', s, h9, h10⟩)
    · exact .inl rfl
    · obtain rfl := MapE.uniq str_inj (h6.grow g) h9
      exact .inr ⟨m, s, h6, h10⟩
  case hassign =>
    rintro l i x V hx ⟨h1, h2, h3, h4, h5, m, h6, h7, h8⟩ hl hr
    (refine jjB ?_; refine jjC ?_)
    (apply jjR rfl; (intro _; first|exact eI rfl|exact eB rfl|exact eP rfl|exact eS rfl|exact eT rfl|exact eA rfl|exact eU rfl|exact eF rfl|exact eM rfl|exact eN rfl|exact rfl); exact rfl; exact rfl; exact rfl; exact rfl; intro b4 w_b4 hb_b4 hs_b4 hS_b4 hk_b4; have hA_b4 := Bk.of hk_b4)
    (refine jz ?_; refine jjC ?_; apply jJ; exact eT rfl; refine jz ?_)
    have e4 := hS_b4.ext
    have y4 := e4.size
    exact ⟨rfl, e4.tr, Fr.ofExt e4 fun k hk => .inl (by
      rcases hk with rfl | ⟨m', s, h9, h10⟩
      · exact .inl rfl
      · obtain rfl := MapE.uniq str_inj (h6.ext e4) h9
        exact .inr ⟨m, s, h6, h10⟩), ⟨h1.trans e4, by omega, h3.ext e4, h4.ext e4, h5.ext e4, m, h6.ext e4, ⟨h7.1, fun s => (h7.2 s).ext e4⟩, h8⟩, b4, rfl, rfl, rfl, by omega, inferInstance, m, h6.ext e4, fun s e => by have := ((h7.2 s).block _ e).2; omega⟩
  case hbody =>
    rintro l i x s' V hx ⟨h1, h2, h3, h4, h5, m, h6, h7, h8⟩ ⟨b4, ha3, ha4, ha5, hb4, hB4, m', h6', hd4⟩ hl hr
    obtain ⟨p, t⟩ := x
    obtain rfl := MapE.uniq str_inj h6 h6'
    refine W.fix (d := 3) ha3 (W.fix (d := 4) ha4 (W.fix (d := 5) ha5 ?_))
    have hlt := (List.getElem?_eq_some_iff.1 hx).1
    have hsn := plsN_snoc hx
    have hA4 : At V b4 0 [.int .i64 p.1, .int .i64 p.2.1, .int .i64 p.2.2] := Bk.toAt (h := hB4)
    have h4m : b4 ≠ mb := by omega
    obtain ⟨v0, hv0⟩ : ∃ v0, (mget m t).getD nilV = v0 := ⟨_, rfl⟩
    have hO0 := h7.2 t
    rw [hv0] at hO0
    have hne0 : ∀ q, ((mget m q).getD nilV).ownBlock ≠ some mb := fun q e => by have := ((h7.2 q).block _ e).1; omega
    have hpl := plsN_len (txF cs) i t
    ((refine jjD ?_))
    refine W.drawX 8 (fun w' => At w' b3 0 [.map (some mb)] ∧ At w' b4 0 [.int .i64 p.1, .int .i64 p.2.1, .int .i64 p.2.2] ∧ MapE Value.string w' mb m) ?_
    intro w4 hS4
    have x4 := hS4.ext
    have s4 := And.intro (h3.ext x4) (And.intro (hA4.ext x4) (h6.ext x4))
    refine AnyX.take [0, 1, 2, 3, 4, 5] (by decide +kernel) s4 ?_
    ((apply jjT; exact rfl; rintro w' ⟨q1, q2, q3⟩; refine jN rfl rfl rfl ?_; refine jz ?_; exact ⟨rfl, rfl⟩; apply jjT; exact rfl; rintro w' ⟨q1, q2, q3⟩; apply jI; exact eT rfl; refine jz ?_; exact ⟨rfl, rfl⟩; apply jjT; exact rfl; rintro w' ⟨q1, q2, q3⟩; refine jN rfl rfl rfl ?_; refine jz ?_; exact ⟨rfl, rfl⟩; apply jjT; exact rfl; rintro w' ⟨q1, q2, q3⟩; apply jI; exact eT rfl; refine jz ?_; exact ⟨rfl, rfl⟩; apply jjT; exact rfl; rintro w' ⟨q1, q2, q3⟩; refine Ops.lookupV (k := t) hv0 q3 rfl rfl ?_; refine jz ?_; exact ⟨rfl, rfl⟩; apply jjT; exact rfl; rintro w' ⟨q1, q2, q3⟩; refine jO rfl rfl rfl rfl ?_; refine jz ?_; exact ⟨rfl, rfl⟩; refine jjU ?_))
    (apply AnyX.one 6; (decide +kernel); exact rfl; (exact s4))
    (refine jjP (v := .agg _) rfl (by exact rfl) (by exact rfl) (by exact rfl) (by exact rfl) ?_; intro b7 w_b7 hb_b7 hs_b7 hS_b7 hk_b7; have hR_b7 := RowV.one (agg := true) (k := 3) rfl hk_b7)
    refine jz ?_
    have hR7 : RowV w_b7 true 3 (.slice (some ⟨b7, 0, none⟩) 1 1) ([p].map encPl) := hR_b7
    have e7 := x4.trans hS_b7.ext
    have z7 := e7.size
    have s7 := And.intro (h3.ext e7) (And.intro (hA4.ext e7) (h6.ext e7))
    (apply AnyX.one 7; (decide +kernel); exact rfl; (exact s7))
    refine Ops.appendL (hO0.ext e7) (by omega) hR7 rfl rfl rfl rfl rfl (by simp only [List.length_map, List.length_cons, List.length_nil]; omega) (by simp only [List.length_map, List.length_cons, List.length_nil]; omega) ?_
    intro v2 w8 hA8 hO8 _ hown8
    refine jz ?_
    have hnb : ∀ b, b < w2.heap.size → v0.ownBlock ≠ some b := fun b h e => by have := (hO0.block _ e).1; omega
    have hn4 : v0.ownBlock ≠ some b4 := by rw [← hv0]; exact hd4 t
    have hm8 : MapE Value.string w8 mb m := (h6.ext e7).app hA8 (hnb _ hmw)
    have s8 := And.intro (hA8.at_ (h3.ext e7) (hnb _ h3l)) (And.intro (hA8.at_ (hA4.ext e7) hn4) hm8)
    (apply AnyX.one 8; (decide +kernel); exact rfl; (exact s8))
    refine Ops.mapUpdate (k := t) (v := v2) hm8 rfl rfl rfl ?_
    intro w9 o9 hp9 hM9
    refine jz ?_
    refine AnyX.done (by decide +kernel) ?_
    skip
    have z8 := hA8.g.size
    have z9 := hp9.size
    have hv2m : v2.ownBlock ≠ some mb := fun e => by
      rcases hown8 with h | h
      · rw [h, ← hv0] at e; exact hne0 _ e
      · rw [h] at e; cases e; omega
    refine ⟨(e7.tr.trans hA8.tr).trans (hp9.tr hm8.loopy), ⟨by omega, fun k o hk ho hMk => ?_, fun k hMk => ?_⟩, hp9.ext (hA8.ext (h1.trans e7) zz) hwm, by omega, hp9.at_ (hA8.at_ (h3.ext e7) (hnb _ h3l)) hbm, hp9.at_ (hA8.at_ (h4.ext e7) (hnb _ hlx)) hxm, hp9.at_ (hA8.at_ (h5.ext e7) (hnb _ (by omega))) hkm, _, hM9, ⟨h7.1.set t v2, fun x => ?_⟩, fun q1 q2 g hpq => ?_⟩
    · have k8 := hA8.other (e7.block' hk) (fun e => hMk (.inr ⟨m, t, h6, by rw [hv0]; exact e⟩))
      exact (hp9.other k (fun e => hMk (.inl e))).trans k8
    · rcases hMk with rfl | ⟨m', s, h9, h10⟩
      · exact .inl (.inl rfl)
      · obtain rfl := MapE.uniq str_inj hM9 h9
        by_cases hp : s = t
        · subst hp
          rw [mget_set_same, Option.getD_some] at h10
          rcases hown8 with h | h
          · exact .inl (.inr ⟨m, s, h6, by rw [hv0, ← h]; exact h10⟩)
          · rw [h] at h10
            cases h10
            exact .inr (by omega)
        · rw [mget_set_other _ _ hp] at h10
          exact .inl (.inr ⟨m, s, h6, h10⟩)
    · rw [hsn]
      by_cases hp : x = t
      · subst hp
        rw [mget_set_same, if_pos rfl, List.map_append]
        exact hO8.put hp9 hv2m
      · rw [mget_set_other _ _ hp, if_neg (fun e => hp e.symm), List.append_nil]
        exact (((h7.2 x).ext e7).app hA8 fun g hg => by rw [← hv0]; exact h8 x t g hp hg).put hp9 (hne0 x)
    · by_cases hp : q1 = t
      · have hq : q2 ≠ t := fun e => hpq (hp.trans e.symm)
        subst hp
        rw [mget_set_same, mget_set_other _ _ hq, Option.getD_some]
        intro h hq2
        rcases hown8 with h3 | h3
        · rw [h3, ← hv0] at h
          exact h8 _ q2 g hpq h hq2
        · rw [h3] at h
          have := ((h7.2 q2).block g hq2).2
          cases h
          omega
      · rw [mget_set_other _ _ hp]
        by_cases hq : q2 = t
        · subst hq
          rw [mget_set_same, Option.getD_some]
          intro h hq2
          rcases hown8 with h3 | h3
          · rw [h3, ← hv0] at hq2
            exact h8 q1 _ g hpq h hq2
          · rw [h3] at hq2
            have := ((h7.2 q1).block g h).2
            cases hq2
            omega
        · rw [mget_set_other _ _ hq]
          exact h8 q1 q2 g hpq
  case hdone =>
    rintro ds' V hmk htr ⟨h1, h2, h3, h4, h5, m, h6, h7, h8⟩
    (refine jjB ?_; refine jjC ?_; refine jN rfl rfl rfl ?_; apply jJ; exact eM rfl; refine jz ?_; refine jjF ?_)
    refine fin1M rfl rfl hmk fun w' g => ⟨h1.ofGrow g (Nat.le_refl _), mb, m, rfl, hwm, h6.grow g, h7.1, fun s => ((h7.2 s).grow g).mono (by omega)⟩
end
end Go.Proofs.YtfebegbjggoijaaGreatDoor

/- leaf: the words of a text, each where it comes first; gathered. -/
namespace Go.Proofs.YtfebegbjggoijaaGreatDoor
open Go.RowKit

abbrev wsOf (t : Tx) : List ByteArray := (allW t t.length).map (·.2)
theorem plsN_pos {t : Tx} {i n : Nat} {p : Pl} {s : ByteArray} (h : (allW t t.length)[i]? = some (p, s)) (hi : i < n) : 0 < (plsN t n s).length := by
  rw [plsN, List.length_map, List.length_pos_iff]
  intro e
  have : (p, s) ∈ ((allW t t.length).take n).filter fun x => decide (x.2 = s) := by
    rw [List.mem_filter]
    refine ⟨List.mem_of_getElem? (i := i) ?_, by simp⟩
    rw [List.getElem?_take, if_pos hi, h]
  rw [e] at this
  cases this
theorem wsOf_get {t : Tx} {i : Nat} {x : Pl × ByteArray} (h : (allW t t.length)[i]? = some x) : (wsOf t)[i]? = some x.2 := by rw [wsOf, List.getElem?_map, h]; rfl
theorem dstL_step {ws : List ByteArray} {i : Nat} {x : ByteArray} (h : ws[i]? = some x) : dstL ws (i + 1) = dstL ws i ++ if (ws.take i).any (fun y => decide (y = x)) then [] else [x] := by rw [dstL, h]
theorem dstL_at {ws : List ByteArray} {i : Nat} {x : ByteArray} (h : ws[i]? = some x) (hn : (ws.take i).any (fun y => decide (y = x)) = false) : (dstL ws ws.length)[(dstL ws i).length]? = some x := by
  have hi := (List.getElem?_eq_some_iff.1 h).1
  obtain ⟨r, hr⟩ := dstL_pre (ws := ws) (i := i + 1) (j := ws.length) (by omega)
  rw [hr, dstL_step h, hn]
  simp
structure VoF (pb pm bk mb : Nat) (a : Option Addr) (c : Nat) (cs : List Ch) (w : World) : Prop where
  pb : At w pb 0 [.pointer (some ⟨bk, 0, none⟩)]
  pm : At w pm 0 [.map (some mb)]
  bk : At w bk 0 [.slice a cs.length c]
  row : RowV w true 2 (.slice a cs.length c) (cs.map encCh)
  tx : TextI w cs
/-- How many places a word has left. -/
def lenI (t : Tx) (i : Nat) (m : List (ByteArray × Value)) : Prop := ∀ s, ∃ a c, (mget m s).getD nilV = .slice a (if ((wsOf t).take i).any (fun y => decide (y = s)) then 0 else (plsN t (allW t t.length).length s).length) c
structure VoI (mb : Nat) (t : Tx) (i : Nat) (w : World) : Prop where
  h : ∃ m, MapE Value.string w mb m ∧ NdG m ∧ lenI t i m
structure VoJ (M : World → Nat → Prop) (J : Nat → World → Prop) (w2 : World) (t : Tx) (l bx bk b3 mb : Nat) (i : Nat) (V : World) : Prop where
  sz : w2.heap.size ≤ V.heap.size
  j : J (dstL (wsOf t) i).length V
  kx : At V bx 0 [.pointer (some ⟨bk, 0, none⟩)]
  k3 : At V b3 0 [.func (.yield l) #[] #[]]
  nx : ¬ M V bx
  n3 : ¬ M V b3
  i : VoI mb t i V
set_option maxHeartbeats 4000000 in
theorem each1_leaf (pb pm bk mb : Nat) (a : Option Addr) (c : Nat) (cs : List Ch) (hs : SmallT cs) :
    IterH Tryz.prog 69 [.pointer (some ⟨pb, 0, none⟩), .pointer (some ⟨pm, 0, none⟩)] (dstL (wsOf (txF cs)) (wsOf (txF cs)).length) (fun s => [.string s]) mb (VoF pb pm bk mb a c cs) (VoI mb (txF cs) 0) := by
  intro l J Jx M w0 hmb hJ hJx hF hFx hM1 hM2 hY hl0 hI h0
  have hF0 := (hF 0 w0 h0).1
  have := hF0.pb
  have hbk := hF0.bk
  have hrow : RowI w0 (.slice a cs.length c) true 2 (cs.map encCh) := ⟨hF0.row⟩
  have hT := hF0.tx
  refine Calls.ofWM (by simp) ?_
  (refine jjB ?_; refine jjC ?_)
  (refine jy rfl ?_; intro b3 w_b3 hb_b3 hs_b3 hS_b3 hk_b3; have hA_b3 := At.ofBlock hk_b3)
  have hA3 : At w_b3 b3 0 [.func (.yield l) #[] #[]] := hA_b3
  (refine jz ?_; refine jjB ?_; refine jjC ?_; refine jN rfl rfl rfl ?_)
  refine jjQ (all_leaf bk _) rfl rfl ?_
  rintro _ w2 hS2 ⟨bx, rfl, hbx, hAx⟩
  (refine jz ?_; refine jjD ?_)
  have e2 : Ext w0 w2 := inferInstance
  have z2 := e2.size
  have z3 := hS_b3.size
  have hj2 := hJ 0 _ _ h0 (e2.growB (Nat.le_refl _))
  have hn3 : ¬ M w2 b3 := fun h => by
    have := (hM1 0 _ _ h0 (hM2 0 _ _ _ h0 (e2.growB (Nat.le_refl _)) h)).1
    omega
  have hnx : ¬ M w2 bx := fun h => by
    have := (hM1 0 _ _ h0 (hM2 0 _ _ _ h0 (e2.growB (Nat.le_refl _)) h)).1
    omega
  obtain ⟨m0, hm0, hnd0, hl0'⟩ := hI
  have hlx := hAx.lt
  have hxm : bx ≠ mb := by omega
  have h3m : b3 ≠ mb := by omega
  refine W.rangeJE w0.heap.size (fun k => k = l) (fun k h => by omega) (allW (txF cs) (txF cs).length) encPW (all1_leaf bx bk a c cs hs) rfl (fun _ => rfl) trivial inferInstance z2
    (VoJ M J w2 (txF cs) l bx bk b3 mb) (fun cc _ V => cc = .ret ∧ ∃ i, i ≤ (dstL (wsOf (txF cs)) (wsOf (txF cs)).length).length ∧ Jx i V) ?hJ ?hJx ?hF (fun i V h => h.sz) ⟨Nat.le_refl _, hj2, hAx, hA3.ext hS2.ext, hnx, hn3, m0, hm0.ext e2, hnd0, hl0'⟩
    (fun V k => k = mb ∨ M V k) ?hM1 ?hM2 (fun x s' V => s' 2 = .pointer (some ⟨pm, 0, none⟩) ∧ s' 3 = .pointer (some ⟨b3, 0, none⟩) ∧ s' 5 = .string x.2) (fun x s V V' h g => h) ?hassign ?hbody ?hdone ?hstop
  case hJ =>
    rintro i V V' ⟨h1, h2, h3, h4, h5, h6, m, h7, h8, h9⟩ g
    have gB : GrowB w0.heap.size mb V V' := (g.mono z2).toB
    exact ⟨Nat.le_trans h1 g.size, hJ _ _ _ h2 gB, h3.grow g, h4.grow g, fun h => h5 (hM2 _ _ _ _ h2 gB h), fun h => h6 (hM2 _ _ _ _ h2 gB h), m, h7.grow g, h8, h9⟩
  case hJx =>
    rintro cc i V V' ⟨rfl, k, hk, h⟩ g
    exact ⟨rfl, k, hk, hJx _ _ _ h (g.mono z2).toB⟩
  case hF =>
    rintro i V h
    have hf := (hF _ _ h.j).1
    exact ⟨h.kx, hf.bk, hf.row, hf.tx⟩
  case hM1 =>
    rintro i V k ⟨h1, h2, h3, h4, h5, h6, m, h7, h8, h9⟩ (rfl | h)
    · exact h7.lt
    · exact (hM1 _ _ _ h2 h).1
  case hM2 =>
    rintro i V V' k h g (rfl | hk)
    · exact .inl rfl
    · exact .inr (hM2 _ _ _ _ h.j (g.mono z2).toB hk)
  case hassign =>
    intro l' i x V hx h hl hr
    (refine jjC ?_; apply jJ; exact eT rfl; refine jz ?_)
    exact ⟨rfl, Tr.refl _, Fr.refl _ _, h, rfl, rfl, rfl⟩
  case hbody =>
    rintro l' i x s' V hx ⟨h1, h2, h3, h4, h5, h6, m, h7, h8, h9⟩ ⟨ha2, ha3, ha5⟩ hl hr
    refine W.fix (d := 2) ha2 (W.fix (d := 3) ha3 (W.fix (d := 5) ha5 ?_))
    obtain ⟨p, t⟩ := x
    have hlt := (List.getElem?_eq_some_iff.1 hx).1
    have hf := (hF _ _ h2).1
    have hpm := hf.pm
    have hw := wsOf_get hx
    have hst := dstL_step hw
    obtain ⟨va, vc, hva⟩ := h9 t
    obtain ⟨B, hB⟩ : ∃ B, ((wsOf (txF cs)).take i).any (fun y => decide (y = t)) = B := ⟨_, rfl⟩
    rw [hB] at hva hst
    have hnext : ∀ s, ((wsOf (txF cs)).take (i + 1)).any (fun y => decide (y = s)) = (((wsOf (txF cs)).take i).any (fun y => decide (y = s)) || decide (t = s)) := fun s => by
      rw [List.take_add_one, hw, List.any_append]; simp
    cases B with
    | true =>
      simp only [if_true] at hva hst
      (refine jjD ?_; refine jjB ?_; refine jjB ?_; refine jjC ?_; refine jN rfl rfl rfl ?_; apply jI; exact eT rfl)
      refine Ops.lookupV (k := t) hva h7 rfl rfl ?_
      (refine jh rfl ?_; refine jjh rfl rfl (by omega) ?_; refine jz ?_; refine jjJ rfl ?_; refine jjE ?_)
      refine ⟨Tr.refl _, Fr.refl _ _, h1, by rw [hst, List.append_nil]; exact h2, h3, h4, h5, h6, m, h7, h8, fun s => ?_⟩
      obtain ⟨qa, qc, hq⟩ := h9 s
      refine ⟨qa, qc, hq.trans ?_⟩
      rw [hnext]
      by_cases e : t = s
      · subst e; rw [hB]; rfl
      · rw [decide_eq_false e, Bool.or_false]
    | false =>
      simp only [Bool.false_eq_true, if_false] at hva hst
      have hpos := plsN_pos hx hlt
      have hn6 := plsN_len (txF cs) (allW (txF cs) (txF cs).length).length t
      generalize (plsN (txF cs) (allW (txF cs) (txF cs).length).length t).length = nt at hva hpos hn6
      (refine jjD ?_; refine jjB ?_; refine jjB ?_; refine jjC ?_; refine jN rfl rfl rfl ?_; apply jI; exact eT rfl)
      refine Ops.lookupV (k := t) hva h7 rfl rfl ?_
      (refine jh rfl ?_; refine jji rfl rfl (by omega) ?_; refine jz ?_; refine jjK rfl ?_; refine jjG ?_; refine jjB ?_; refine jjC ?_; refine jN rfl rfl rfl ?_; apply jI; exact eT rfl)
      refine Ops.deleteN (k := t) h7 rfl rfl ?_
      intro V2 o2 hp2 hM2'
      have gB : GrowB w0.heap.size mb V V2 := hp2.growB (by
        obtain ⟨o3, h3, h4⟩ := hM2'.loopy
        rw [hp2.new] at h3; cases h3; exact h4)
      have hj := hJ _ _ _ h2 gB
      have k3 : At V2 b3 0 [.func (.yield l) #[] #[]] := hp2.at_ h4 h3m
      have kx : At V2 bx 0 [.pointer (some ⟨bk, 0, none⟩)] := hp2.at_ h3 hxm
      have n3 : ¬ M V2 b3 := fun h => h6 (hM2 _ _ _ _ h2 gB h)
      have nx : ¬ M V2 bx := fun h => h5 (hM2 _ _ _ _ h2 gB h)
      have hfr : Fr (fun V k => k = mb ∨ M V k) V V2 := ⟨by rw [hp2.size]; exact Nat.le_refl _, fun k o hk ho hn => (hp2.other k fun e => hn (.inl e)).trans hk, fun k hk => .inl (hk.imp id fun h => hM2 _ _ _ _ h2 gB h)⟩
      have htr2 : Tr V V2 := hp2.tr h7.loopy
      (refine jz ?_; refine jjB ?_; refine jjC ?_; refine jN rfl rfl rfl ?_; apply jI; exact eT rfl)
      refine Ops.yield (hY _ t _ (dstL_at hw hB) hj) rfl rfl ?_
      rintro e V3 (⟨rfl, hJ3, hFr, hT3⟩ | ⟨rfl, hJx3, hT3⟩)
      · refine ⟨_, rfl, ?_⟩
        (refine jp rfl ?_; refine jz ?_; refine jjK rfl ?_; refine jjG ?_)
        have z12 : V.heap.size = V2.heap.size := hp2.size.symm
        have k3l := k3.lt
        have kxl := kx.lt
        have nf : ∀ k, k < V2.heap.size → ¬ M V2 k → ¬ M V3 k := fun k hk h h' => (hFr.own k h').elim h fun h'' => by omega
        have keepA : ∀ (k : Nat) (cells : List Value), At V2 k 0 cells → k < V2.heap.size → ¬ M V2 k → At V3 k 0 cells := fun k cells hA hk hn => ⟨fun i v hv => by
          have h1 := hA.h i v hv
          obtain ⟨ob, hb, hd⟩ := cell_block h1
          rw [← h1]
          exact World.cell?_of_block (a := ⟨k, 0 + i, none⟩) ((hFr.keep _ _ hb hd hn).trans hb.symm)⟩
        have hkm : ¬ M V2 mb := fun h => (hM1 _ _ _ hj h).2 rfl
        refine ⟨htr2.trans hT3, hfr.trans ⟨hFr.size, fun k o hk ho hn => hFr.keep k o hk ho fun h => hn (.inr h), fun k hk => ?_⟩, by have := hFr.size; omega, ?_, keepA _ _ kx kxl nx, keepA _ _ k3 k3l n3, nf _ kxl nx, nf _ k3l n3, mdel m t, ?_, (h8.del t).1, fun s => ?_⟩
        · rcases hk with rfl | hk
          · exact .inl (.inl rfl)
          · exact (hFr.own k hk).imp .inr id
        · rw [hst, List.length_append]; exact hJ3
        · obtain ⟨es, cl, q1, q2⟩ := hM2'.h
          exact ⟨es, cl, hFr.keep _ _ q1 rfl hkm, q2⟩
        · rw [(h8.del t).2.2 s]
          by_cases e : s = t
          · subst e
            refine ⟨none, 0, ?_⟩
            rw [hnext, if_pos rfl]
            simp
          · rw [if_neg e]
            obtain ⟨qa, qc, hq⟩ := h9 s
            refine ⟨qa, qc, hq.trans ?_⟩
            rw [hnext, decide_eq_false (fun h => e h.symm), Bool.or_false]
      · refine ⟨_, rfl, ?_⟩
        (refine jq rfl ?_; refine jz ?_; refine jjJ rfl ?_; refine jjF ?_)
        exact ⟨htr2.toE.trans hT3, rfl, _, by have := (List.getElem?_eq_some_iff.1 (dstL_at hw hB)).1; omega, hJx3⟩
  case hdone =>
    rintro ds' V hmk htr h
    refine fin0M rfl hmk fun w' g => ⟨⟨_, rfl⟩, .inl ?_⟩
    have e : (wsOf (txF cs)).length = (allW (txF cs) (txF cs).length).length := by rw [wsOf, List.length_map]
    rw [e]
    exact hJ _ _ _ h.j g.toB
  case hstop =>
    rintro ds' cc i V hmk htr hi ⟨rfl, k, hk, h⟩
    refine jjF ?_
    exact fin0M rfl hmk fun w' g => ⟨⟨_, rfl⟩, .inr ⟨k, hk, hJx _ _ _ h g.toB⟩⟩
end Go.Proofs.YtfebegbjggoijaaGreatDoor

/- Plain law: the galley of a text. -/
namespace Go.Proofs.YtfebegbjggoijaaGreatDoor
open Go.RowKit

/-- How many slips have a word. -/
def cN (ls : List Slp) (w : ByteArray) : Nat := ls.countP fun s => decide (s.2.1 = w)
theorem cN_snoc {ls : List Slp} {k : Nat} {s : Slp} (h : ls[k]? = some s) (w : ByteArray) : cN (ls.take (k + 1)) w = cN (ls.take k) w + if s.2.1 = w then 1 else 0 := by
  rw [List.take_add_one, h, cN, List.countP_append, ← cN]
  by_cases e : s.2.1 = w <;> simp [e]
theorem cN_le (ls : List Slp) (w : ByteArray) : cN ls w ≤ ls.length := List.countP_le_length
def blkL (ls : List Slp) (ws : List ByteArray) : List Blk := ws.map fun w => (w, 1 + (cN ls w : Int))
theorem blkL_snoc {ls : List Slp} {ws : List ByteArray} {k : Nat} {s : ByteArray} (h : ws[k]? = some s) : blkL ls (ws.take (k + 1)) = blkL ls (ws.take k) ++ [(s, 1 + (cN ls s : Int))] := by
  rw [blkL, List.take_add_one, h, List.map_append, ← blkL]; rfl
theorem blkL_len (ls : List Slp) (ws : List ByteArray) : (blkL ls ws).length = ws.length := List.length_map _
/-- The galley of a text, or the error. -/
noncomputable def setR (t : Tx) (wd side h : Int) : (Int × List Blk) × Int :=
  if askE t wd side ≠ 0 then ((0, []), askE t wd side) else if inB 4 40 h = false then ((0, []), 2)
  else if galleyB h (blkL (allS t side wd) (vocL (wsOf t))) then ((h, blkL (allS t side wd) (vocL (wsOf t))), 0) else ((0, []), 4)
theorem setR_ask {t : Tx} {wd side h : Int} (h1 : askE t wd side ≠ 0) : setR t wd side h = ((0, []), askE t wd side) := by rw [setR, if_pos h1]
theorem setR_high {t : Tx} {wd side h : Int} (h1 : askE t wd side = 0) (h2 : inB 4 40 h = false) : setR t wd side h = ((0, []), 2) := by rw [setR, if_neg (by simp [h1]), if_pos h2]
theorem setR_no {t : Tx} {wd side h : Int} (h1 : askE t wd side = 0) (h2 : inB 4 40 h = true) (h3 : galleyB h (blkL (allS t side wd) (vocL (wsOf t))) = false) : setR t wd side h = ((0, []), 4) := by rw [setR, if_neg (by simp [h1]), if_neg (by simp [h2]), h3]; rfl
theorem setR_yes {t : Tx} {wd side h : Int} (h1 : askE t wd side = 0) (h2 : inB 4 40 h = true) (h3 : galleyB h (blkL (allS t side wd) (vocL (wsOf t))) = true) : setR t wd side h = ((h, blkL (allS t side wd) (vocL (wsOf t))), 0) := by rw [setR, if_neg (by simp [h1]), if_neg (by simp [h2]), h3]; rfl
theorem ws_word {t : Tx} (h : textB t = true) {s : ByteArray} (hs : s ∈ wsOf t) : wordB s = true := by
  obtain ⟨x, hx, rfl⟩ := List.mem_map.1 hs
  obtain ⟨k, hk, hz⟩ := List.mem_flatMap.1 hx
  exact word_valid h (List.mem_range.1 hk) (List.of_mem_zip hz).2
theorem voc_word {t : Tx} (h : textB t = true) {s : ByteArray} (hs : s ∈ vocL (wsOf t)) : wordB s = true := ws_word h (((vocL_facts _).2 s).1 hs)
theorem insV_len (w : ByteArray) : ∀ l : List ByteArray, (insV w l).length ≤ l.length + 1
  | [] => by simp [insV]
  | x :: l => by
    have := insV_len w l
    unfold insV
    repeat' split
    all_goals simp <;> omega
theorem voc_len (ws : List ByteArray) : (vocL ws).length ≤ ws.length := by
  have h : ∀ (ws l : List ByteArray), (ws.foldl (fun l w => insV w l) l).length ≤ l.length + ws.length := fun ws => by
    induction ws with
    | nil => intro l; simp
    | cons w ws ih =>
      intro l
      have h1 := ih (insV w l)
      have h2 := insV_len w l
      simp only [List.foldl_cons, List.length_cons]
      omega
  simpa [vocL] using h ws []
end Go.Proofs.YtfebegbjggoijaaGreatDoor

/- Plain law: the words of all slips, and how many of each (GalleySlips; the galleys' examples). -/
namespace Go.Proofs.YtfebegbjggoijaaGreatDoor
open Go.RowKit

theorem place_word {t : Tx} {i : Nat} {p : Pl} {s : ByteArray} (h : (allW t t.length)[i]? = some (p, s)) : wordT t p = s := by
  obtain ⟨k, n, q, hk, hn, hq, rfl, rfl⟩ := allW_word h
  exact wordT_at hk hn hq
/-- The words of all slips are those of the text. -/
theorem all_words {t : Tx} {wd side : Int} (ht : textB t = true) (hc : cutB wd side = true) : (allS t side wd).map (·.2.1) = wsOf t := by
  have F := allF (wd := wd) (side := side) ht hc
  have hl : (allS t side wd).length = (allW t t.length).length := by rw [allS_lenP, allW_len]
  have hf := allW_fst t t.length
  apply List.ext_getElem
  · rw [wsOf, List.length_map, List.length_map, hl]
  · intro i h1 h2
    rw [List.length_map] at h1
    have h3 : i < (allW t t.length).length := by omega
    have e1 := F.at_ i h1
    rw [← hf, List.getElem?_map, List.getElem?_eq_getElem h3, Option.map_some, Option.some.injEq] at e1
    have e2 := place_word (t := t) (i := i) (p := (allW t t.length)[i].1) (s := (allW t t.length)[i].2) (List.getElem?_eq_getElem h3)
    have e3 := (F.wd_ i h1).2
    simp only [wsOf, List.getElem_map]
    rw [← e3, ← e1]
    exact e2
/-- There are as many slips of a word as it has places. -/
theorem count_places {t : Tx} {wd side : Int} (ht : textB t = true) (hc : cutB wd side = true) (w : ByteArray) : cN (allS t side wd) w = (placesF t w).length := by
  have h := all_words (wd := wd) (side := side) ht hc
  have h2 := congrArg (List.countP fun x => decide (x = w)) h
  rw [List.countP_map, wsOf, List.countP_map] at h2
  rw [placesF, List.length_map, ← List.countP_eq_length_filter]
  exact h2
theorem blk_places {t : Tx} {wd side : Int} (ht : textB t = true) (hc : cutB wd side = true) : blkL (allS t side wd) (vocL (wsOf t)) = (vocL (wsOf t)).map fun w => (w, 1 + ((placesF t w).length : Int)) := by
  unfold blkL
  refine List.map_congr_left fun w _ => ?_
  rw [count_places ht hc]
end Go.Proofs.YtfebegbjggoijaaGreatDoor

/- The examples of the slips' chapter: what the plain functions answer there. -/
namespace Go.Proofs.YtfebegbjggoijaaGreatDoor
open Go.RowKit

abbrev wThe : ByteArray := ⟨#[116, 104, 101]⟩
abbrev wSea : ByteArray := ⟨#[115, 101, 97]⟩
abbrev wIs : ByteArray := ⟨#[105, 115]⟩
abbrev wOld : ByteArray := ⟨#[111, 108, 100]⟩
abbrev wAnd : ByteArray := ⟨#[97, 110, 100]⟩
abbrev wA : ByteArray := ⟨#[97]⟩
def seaT : Tx := [(7, [[wThe, wSea, wIs, wOld], [wOld, wThe, wSea]]), (3, [[wSea, wAnd, wSea]])]
theorem sea_valid : textB seaT = true := by kernel_rfl
theorem sea_ask3 : askE seaT 14 3 = 0 := by kernel_rfl
end Go.Proofs.YtfebegbjggoijaaGreatDoor

/- galley, plain laws: where columns may end. -/
namespace Go.Proofs.YtfebegbjggoijaaGreatDoor
open Go.RowKit

/-- Whether a column may end behind n lines, of blocks that begin behind p. -/
def mayR (n : Int) : Int → List Blk → Bool
  | _, [] => false
  | p, b :: bs => if n ≤ p + b.2 then decide (p < n) && endOk b.2 (n - p) else mayR n (p + b.2) bs

def endsRn (p : Int) (bs : List Blk) (m : Nat) : List Int := ((List.range m).filter fun (i : Nat) => mayR (p + ((i : Int) + 1)) p bs).map fun (i : Nat) => p + ((i : Int) + 1)
def endsR (bs : List Blk) : List Int := endsRn 0 bs (sumL bs).toNat

theorem filter_same {α : Type} {f g : α → Bool} : ∀ {l : List α}, (∀ x ∈ l, f x = g x) → l.filter f = l.filter g
  | [], _ => rfl
  | x :: l, h => by
    rw [List.filter_cons, List.filter_cons, h x (by simp), filter_same fun y hy => h y (by simp [hy])]

theorem endsRn_add (p : Int) (bs : List Blk) (a c : Nat) : endsRn p bs (a + c) = endsRn p bs a ++ ((List.range c).filter fun (i : Nat) => mayR (p + ((a : Int) + i + 1)) p bs).map fun (i : Nat) => p + ((a : Int) + i + 1) := by
  simp only [endsRn, List.range_add, List.filter_append, List.map_append, List.filter_map, List.map_map]
  congr 1

theorem endsF_rn {bs : List Blk} (hb : ∀ b ∈ bs, 1 ≤ b.2 ∧ b.2 ≤ 20) : ∀ p : Int, endsF p bs = endsRn p bs (sumL bs).toNat := by
  induction bs with
  | nil => intro p; simp [endsF, sumL, endsRn]
  | cons b bs ih =>
    intro p
    have h1 := hb b (by simp)
    have h2 := sumL_le (bs := bs) fun x hx => hb x (by simp [hx])
    have ih := ih (fun x hx => hb x (by simp [hx])) (p + b.2)
    have e : (sumL (b :: bs)).toNat = b.2.toNat + (sumL bs).toNat := by
      simp only [sumL, List.map_cons, List.sum_cons] at *
      omega
    rw [e, endsRn_add, endsF, ih]
    congr 1
    · simp only [blockEnds, endsRn]
      congr 1
      apply filter_same
      intro i hi
      have hi' : i < b.2.toNat := by simpa using hi
      simp only [mayR]
      rw [if_pos (by omega), decide_eq_true (by omega)]
      simp only [Bool.true_and]
      congr 1
      omega
    · simp only [endsRn]
      have e2 : ∀ i : Nat, p + ((b.2.toNat : Int) + i + 1) = p + b.2 + ((i : Int) + 1) := fun i => by omega
      simp only [e2]
      congr 1
      apply filter_same
      intro i hi
      rw [mayR, if_neg (by omega)]
theorem endsF_R {bs : List Blk} (hb : ∀ b ∈ bs, 1 ≤ b.2 ∧ b.2 ≤ 20) : endsF 0 bs = endsR bs := endsF_rn hb 0

theorem mayR_low {bs : List Blk} (hb : ∀ b ∈ bs, 1 ≤ b.2 ∧ b.2 ≤ 20) {n p : Int} (hn : n ≤ p) : mayR n p bs = false := by
  cases bs with
  | nil => rfl
  | cons b bs =>
    have h1 := hb b (by simp)
    rw [mayR, if_pos (by omega), decide_eq_false (by omega)]
    rfl
theorem mayR_high {bs : List Blk} (hb : ∀ b ∈ bs, 1 ≤ b.2 ∧ b.2 ≤ 20) : ∀ {n p : Int}, p + sumL bs < n → mayR n p bs = false := by
  induction bs with
  | nil => intros; rfl
  | cons b bs ih =>
    intro n p h
    have h2 := sumL_le (bs := bs) fun x hx => hb x (by simp [hx])
    have e : sumL (b :: bs) = b.2 + sumL bs := by simp [sumL]
    rw [mayR, if_neg (by omega)]
    exact ih (fun x hx => hb x (by simp [hx])) (by omega)
theorem mem_endsF {bs : List Blk} (hb : ∀ b ∈ bs, 1 ≤ b.2 ∧ b.2 ≤ 20) (n : Int) : n ∈ endsF 0 bs ↔ mayR n 0 bs = true := by
  rw [endsF_R hb]
  simp only [endsR, endsRn, List.mem_map, List.mem_filter, List.mem_range]
  constructor
  · rintro ⟨i, ⟨_, h⟩, rfl⟩; exact h
  · intro h
    have h1 : 0 < n := by
      by_cases c : n ≤ 0
      · rw [mayR_low hb c] at h; cases h
      · omega
    have h2 : n ≤ sumL bs := by
      by_cases c : 0 + sumL bs < n
      · rw [mayR_high hb c] at h; cases h
      · omega
    refine ⟨n.toNat - 1, ⟨by omega, ?_⟩, by omega⟩
    rw [show (0 : Int) + (((n.toNat - 1 : Nat) : Int) + 1) = n from by omega]
    exact h
theorem may_dec {bs : List Blk} (hb : ∀ b ∈ bs, 1 ≤ b.2 ∧ b.2 ≤ 20) : (fun n => decide (n ∈ endsF 0 bs)) = fun n => mayR n 0 bs := by
  funext n
  rw [Bool.eq_iff_iff, decide_eq_true_eq, mem_endsF hb]
theorem ends_bound {bs : List Blk} (hb : ∀ b ∈ bs, 1 ≤ b.2 ∧ b.2 ≤ 20) : ∀ x ∈ endsF 0 bs, 1 ≤ x ∧ x ≤ sumL bs := by
  intro x hx
  have h := (mem_endsF hb x).1 hx
  constructor
  · by_cases c : x ≤ 0
    · rw [mayR_low hb c] at h; cases h
    · omega
  · by_cases c : 0 + sumL bs < x
    · rw [mayR_high hb c] at h; cases h
    · omega

/-- A column may end at most three lines before. -/
theorem may_gap {bs : List Blk} (hb : ∀ b ∈ bs, 1 ≤ b.2 ∧ b.2 ≤ 20) : ∀ {n p : Int}, mayR n p bs = true → ∃ m, (m = p ∨ mayR m p bs = true) ∧ p ≤ m ∧ m < n ∧ n - m ≤ 3 := by
  induction bs with
  | nil => intro n p h; cases h
  | cons b bs ih =>
    intro n p h
    have h1 := hb b (by simp)
    have hbs : ∀ x ∈ bs, 1 ≤ x.2 ∧ x.2 ≤ 20 := fun x hx => hb x (by simp [hx])
    rw [mayR] at h
    by_cases c : n ≤ p + b.2
    · rw [if_pos c] at h
      simp only [Bool.and_eq_true, decide_eq_true_eq, endOk, Bool.or_eq_true, tearsB] at h
      by_cases c3 : n - p ≤ 3
      · exact ⟨p, .inl rfl, by omega, by omega, by omega⟩
      · rcases h.2 with e | e
        · refine ⟨n - 2, .inr ?_, by omega, by omega, by omega⟩
          rw [mayR, if_pos (by omega)]
          simp only [Bool.and_eq_true, decide_eq_true_eq, endOk, Bool.or_eq_true, tearsB]
          omega
        · refine ⟨n - 1, .inr ?_, by omega, by omega, by omega⟩
          rw [mayR, if_pos (by omega)]
          simp only [Bool.and_eq_true, decide_eq_true_eq, endOk, Bool.or_eq_true, tearsB]
          omega
    · rw [if_neg c] at h
      obtain ⟨m, h2, h3, h4, h5⟩ := ih hbs h
      refine ⟨m, ?_, by omega, h4, h5⟩
      rcases h2 with e | e
      · right
        rw [mayR, if_pos (by omega)]
        simp only [Bool.and_eq_true, decide_eq_true_eq, endOk, Bool.or_eq_true, tearsB]
        omega
      · right
        by_cases c2 : m ≤ p + b.2
        · rw [mayR_low hbs c2] at e; cases e
        · rw [mayR, if_neg c2]; exact e
end Go.Proofs.YtfebegbjggoijaaGreatDoor

/- galley: opened. -/
namespace Go.Proofs.YtfebegbjggoijaaGreatDoor
open Go.RowKit

/-- An opened form at pf. -/
structure FormO (pf mb : Nat) (h : Int) (a : Option Addr) (c : Nat) (bs : List Blk) (w : World) : Prop where
  frm : Bk w pf [.int .i64 h, .slice a bs.length c, .int .i64 (lastZ (endsF 0 bs)), .map (some mb)] 91
  may : MapE (Value.int .i64) w mb (mayM (endsF 0 bs))

theorem opened_galley (h : Int) (a : Option Addr) (c : Nat) (bs : List Blk) (w : World) (hrow : RowV w true 2 (.slice a bs.length c) (bs.map encB)) (hb : ∀ b ∈ bs, 1 ≤ b.2 ∧ b.2 ≤ 20) (hl : bs.length ≤ 30) (htorn : At w 1 0 tornC) :
    Ct Tryz.prog 59 [.agg #[.int .i64 h, .slice a bs.length c]] w fun v w' => ∃ pf mb, v = .pointer (some ⟨pf, 0, none⟩) ∧ w.heap.size ≤ pf ∧ w.heap.size ≤ mb ∧ FormO pf mb h a c bs w' := by
  refine Ct.ofWM (by simp) ?_
  (refine jjB ?_; refine jjC ?_)
  (refine jy rfl ?_; intro b1 w_b1 hb_b1 hs_b1 hS_b1 hk_b1; have hA_b1 := At.ofBlock hk_b1)
  (apply jJ; exact eN rfl; refine jz ?_; refine jjB ?_; refine jjC ?_; refine jO rfl rfl rfl rfl ?_)
  refine Ops.makeMap (Value.int .i64) ?_
  intro mb w1 hmb hs1 hS1 hM1
  (refine jjS (cells := [.int .i64 h, .slice a bs.length c, .int .i64 0, .map (some mb)]) ?_ ?_; exact rfl)
  (refine jy rfl ?_; intro pf w_pf hb_pf hs_pf hS_pf hk_pf; have hA_pf := At.ofBlock hk_pf)
  have hBpf := Bk.of (cs := [.int .i64 h, .slice a bs.length c, .int .i64 0, .map (some mb)]) hk_pf
  (apply jjR rfl; (intro _; first|exact eI rfl|exact eB rfl|exact eP rfl|exact eS rfl|exact eT rfl|exact eA rfl|exact eU rfl|exact eF rfl|exact eM rfl|exact eN rfl|exact rfl); exact rfl; exact rfl; exact rfl; exact rfl; intro b3 w_b3 hb_b3 hs_b3 hS_b3 hk_b3; have hA_b3 := Bk.of hk_b3)
  (((refine jz ?_; refine jjB ?_; refine jjB ?_; refine jjC ?_; refine jN rfl rfl rfl ?_)); refine jjQ (places_galley pf _) rfl rfl ?_)
  rintro _ w2 hS2 ⟨bf, hbf, hAbf, rfl⟩
  (refine jz ?_; refine jjD ?_)
  have hE2 : Ext w w2 := inferInstance
  refine W.range w.heap.size (endsF 0 bs) encI (places1_galley bf pf h a c bs hb hl) rfl (fun _ => rfl) trivial inferInstance hE2.size
    (fun i V => Ext w V ∧ w2.heap.size ≤ V.heap.size ∧ At V b3 0 [.pointer (some ⟨pf, 0, none⟩)] ∧ At V bf 0 [.pointer (some ⟨pf, 0, none⟩)] ∧ Bk V pf [.int .i64 h, .slice a bs.length c, .int .i64 (lastZ ((endsF 0 bs).take i)), .map (some mb)] 91 ∧ MapE (Value.int .i64) V mb (mayM ((endsF 0 bs).take i)))
    (fun _ _ _ => False) ?hJ (fun _ _ _ _ h _ => h) ?hF ?h0 (fun x s' _ => s' 3 = .pointer (some ⟨b3, 0, none⟩) ∧ s' 4 = .int .i64 x) (fun _ _ _ _ h _ => h) ?hassign ?hbody ?hdone (fun _ _ _ _ _ _ _ h => h.elim)
  case hJ =>
    rintro i V V' ⟨h1, h2, h3, h4, h5, h6⟩ g
    exact ⟨h1.ofGrow g hE2.size, Nat.le_trans h2 g.size, h3.grow g, h4.grow g, h5.grow g, h6.grow g⟩
  case hF =>
    rintro i V ⟨h1, h2, h3, h4, h5, h6⟩
    have := h5
    exact ⟨h2, h4, ⟨fun j v hv => At.h (w := V) (b := pf) (o := 0) j v (by
      match j, hv with
      | 0, hv => exact hv
      | 1, hv => exact hv)⟩, hrow.ext h1, htorn.ext h1⟩
  case h0 =>
    exact ⟨hE2, Nat.le_refl _, inferInstance, hAbf, inferInstance, (hM1.ext inferInstance)⟩
  case hassign =>
    intro l i x V hx hJ hl hr
    (refine jjC ?_; apply jJ; exact eI rfl; refine jz ?_)
    exact ⟨rfl, Tr.refl _, Fr.refl _ _, hJ, rfl, rfl⟩
  case hbody =>
    rintro l i x s' V hx ⟨h1, h2, h3, h4, h5, h6⟩ ⟨ha3, ha4⟩ hl hr
    refine W.fix (d := 3) ha3 (W.fix (d := 4) ha4 ?_)
    (refine jjD ?_)
    refine W.draw (fun w' => At w' b3 0 [.pointer (some ⟨pf, 0, none⟩)] ∧ ∃ tot, Bk w' pf [.int .i64 h, .slice a bs.length c, .int .i64 tot, .map (some mb)] 91) ?_
    intro V1 hV1
    (refine jjV [0, 1, 2, 3, 4, 5, 6] ?_ ?_ ?_; (decide +kernel); (exact ⟨h3.ext hV1.ext, _, h5.ext hV1.ext⟩); (((apply jjT; exact rfl; rintro w' ⟨q1, tot, q2⟩; refine jN rfl rfl rfl ?_; refine jz ?_; exact ⟨rfl, rfl⟩; apply jjT; exact rfl; rintro w' ⟨q1, tot, q2⟩; refine jw rfl ?_; refine jz ?_; exact ⟨rfl, rfl⟩; apply jjT; exact rfl; rintro w' ⟨q1, tot, q2⟩; refine jm ?_; refine jn rfl ?_; refine jz ?_; exact ⟨rfl, rfl⟩; apply jjT; exact rfl; rintro w' ⟨q1, tot, q2⟩; refine jN rfl rfl rfl ?_; refine jz ?_; exact ⟨rfl, rfl⟩; apply jjT; exact rfl; rintro w' ⟨q1, tot, q2⟩; apply jI; exact eI rfl; refine jz ?_; exact ⟨rfl, rfl⟩; apply jjT; exact rfl; rintro w' ⟨q1, tot, q2⟩; refine jN rfl rfl rfl ?_; refine jz ?_; exact ⟨rfl, rfl⟩; apply jjT; exact rfl; rintro w' ⟨q1, tot, q2⟩; apply jI; exact eI rfl; refine jz ?_; exact ⟨rfl, rfl⟩; refine jjU ?_))))
    (apply jjW 7; (decide +kernel); exact rfl; (exact ⟨h3.ext hV1.ext, _, h5.ext hV1.ext⟩))
    refine Ops.mapEntry (h6.ext hV1.ext) rfl rfl ?_
    intro V2 o2 st hp2 hN2
    have hne1 : b3 ≠ mb := by omega
    have hne2 : pf ≠ mb := by omega
    have hne3 : b3 ≠ pf := by omega
    have hne4 : bf ≠ mb := by omega
    have hne5 : bf ≠ pf := by omega
    have a3 := hp2.at_ (h3.ext hV1.ext) hne1
    have b3' := hp2.bk (h5.ext hV1.ext) hne2
    refine jz ?_
    (refine jjV [8] ?_ ?_ ?_; (decide +kernel); (exact ⟨a3, _, b3'⟩); (((apply jjT; exact rfl; rintro w' ⟨q1, tot, q2⟩; refine ju rfl rfl ?_; refine jz ?_; exact ⟨rfl, rfl⟩; refine jjU ?_))))
    (apply jjW 9; (decide +kernel); exact rfl; (exact ⟨a3, _, b3'⟩))
    refine Ops.entryStore hN2 rfl rfl rfl ?_
    intro V3 o3 hp3 hM3
    have a4 := hp3.at_ a3 hne1
    have b4 := hp3.bk b3' hne2
    refine jz ?_
    (refine jjV [10, 11] ?_ ?_ ?_; (decide +kernel); (exact ⟨a4, _, b4⟩); (((apply jjT; exact rfl; rintro w' ⟨q1, tot, q2⟩; refine jw rfl ?_; refine jz ?_; exact ⟨rfl, rfl⟩; apply jjT; exact rfl; rintro w' ⟨q1, tot, q2⟩; refine jm ?_; refine jn rfl ?_; refine jz ?_; exact ⟨rfl, rfl⟩; refine jjU ?_))))
    (apply jjW 12; (decide +kernel); exact rfl; (exact ⟨a4, _, b4⟩))
    refine Ops.store rfl rfl rfl rfl rfl ?_
    intro V4 hp4
    (refine jz ?_; refine jjX ?_ ?_ ?_; (decide +kernel); (exact ⟨hp4.at_ a4 hne3, _, ⟨hp4.new⟩⟩))
    skip
    have hwm : w.heap.size ≤ mb := by have := hS_b1.size; omega
    have hwp : w.heap.size ≤ pf := by have := hS1.size; omega
    have z2 := hp2.size
    have z3 := hp3.size
    have z4 := hp4.size
    have z1 := hV1.size
    have y1 := hS2.size
    have hmw : mb < w2.heap.size := by omega
    have hpw : pf < w2.heap.size := by omega
    have e1 := h1.trans hV1.ext
    have e2 := hp2.ext e1 hwm
    have e3 := hp3.ext e2 hwm
    refine ⟨(hV1.ext.tr.trans (hp2.tr (h6.ext hV1.ext).loopy)).trans ((hp3.tr hN2.loopy).trans (hp4.tr ⟨_, b4.h, rfl⟩)), ((Fr.ext hV1.ext).trans (hp2.frS hmw)).trans ((hp3.frS hmw).trans (hp4.frS hpw)), hp4.ext e3 hwp, by omega, hp4.at_ a4 hne3, hp4.at_ (hp3.at_ (hp2.at_ (h4.ext hV1.ext) hne4) hne4) hne5, ?_, ?_⟩
    · rw [take_snoc_get hx, lastZ_snoc]; exact ⟨hp4.new⟩
    · rw [take_snoc_get hx, mayM_snoc, ← mset_mset _ _ ((mget (mayM (List.take i (endsF 0 bs))) x).getD (.bool false)) _]
      exact hM3.put hp4 (Ne.symm hne2)
  case hdone =>
    rintro ds' V hmk htr ⟨h1, h2, h3, h4, h5, h6⟩
    have := h3
    (refine jjB ?_; refine jjC ?_; refine jN rfl rfl rfl ?_; apply jJ; exact eP rfl; refine jz ?_; refine jjF ?_)
    refine fin1M rfl rfl hmk fun w' g => ⟨h1.ofGrow g (Nat.le_refl _), pf, mb, rfl, by have := hS_b1.size; have := hS1.size; omega, by have := hS_b1.size; omega, ?_, ?_⟩
    · rw [List.take_length] at h5; exact h5.grow g
    · rw [List.take_length] at h6; exact h6.grow g
end Go.Proofs.YtfebegbjggoijaaGreatDoor

/- galley: open, Total, Ends, column. -/
namespace Go.Proofs.YtfebegbjggoijaaGreatDoor
open Go.RowKit

theorem galleyB_spec {h : Int} {bs : List Blk} (hg : galleyB h bs = true) : (∀ b ∈ bs, 1 ≤ b.2 ∧ b.2 ≤ 20) ∧ 1 ≤ bs.length ∧ bs.length ≤ 30 ∧ 4 ≤ h ∧ h ≤ 40 := by
  simp [galleyB, inB, blockB] at hg
  refine ⟨fun b hb => ?_, by omega, by omega, by omega, by omega⟩
  have := hg.2 b.1 b.2 hb
  omega

theorem gErr_ne {h : Int} {bs : List Blk} (e : ¬ gErr h bs = 0) : galleyB h bs = false ∧ gErr h bs = 80 := by
  unfold gErr at *
  cases hg : galleyB h bs <;> simp [hg] at e ⊢
theorem gErr_eq {h : Int} {bs : List Blk} (e : ¬ ¬ gErr h bs = 0) : galleyB h bs = true := by
  unfold gErr at *
  cases hg : galleyB h bs <;> simp [hg] at e ⊢

theorem open_galley (h : Int) (a : Option Addr) (c : Nat) (bs : List Blk) (w : World) (hrow : RowV w true 2 (.slice a bs.length c) (bs.map encB)) (hbs : ∀ b ∈ bs, b.1.size ≤ 140737488351232) (htorn : At w 1 0 tornC) :
    Ct Tryz.prog 47 [.agg #[.int .i64 h, .slice a bs.length c]] w fun v w' => (galleyB h bs = false ∧ v = .tuple #[.pointer none, .int .i64 80]) ∨ (galleyB h bs = true ∧ ∃ pf mb, v = .tuple #[.pointer (some ⟨pf, 0, none⟩), .int .i64 0] ∧ w.heap.size ≤ pf ∧ w.heap.size ≤ mb ∧ FormO pf mb h a c bs w') := by
  refine Ct.ofW (by simp) ?_
  (refine jjB ?_; refine jjC ?_)
  (refine jy rfl ?_; intro b1 w_b1 hb_b1 hs_b1 hS_b1 hk_b1; have hA_b1 := At.ofBlock hk_b1)
  (((apply jJ; exact eN rfl; apply jJ; exact eI rfl; refine jz ?_; refine jjB ?_; refine jjB ?_; refine jjC ?_; refine jO rfl rfl rfl rfl ?_)); refine jjQ (Check_galley h _ bs _ (hrow.ext inferInstance) hbs) rfl rfl ?_)
  rintro _ w2 hS2 rfl
  repeat' (first|((first|apply jI|apply jJ); (first|exact eI rfl|exact eN rfl))|(refine jM ?_; refine jO rfl rfl rfl rfl ?_)|(refine jW ?_; refine jc rfl rfl ?_)|refine jz ?_|(refine jjA ?_; (first|refine jjB ?_|refine jjC ?_|refine jjF ?_|refine jjG ?_))|(refine jjA ?_; (refine jjN rfl ?_ ?_ <;> intro _))|refine jC rfl rfl rfl ⟨inferInstance, ?_⟩)
  · exact .inl ⟨(gErr_ne ‹_›).1, congrArg (fun e => Value.tuple #[.pointer none, .int .i64 e]) (gErr_ne ‹_›).2⟩
  · have hg := gErr_eq ‹_›
    have hs := galleyB_spec hg
    ((skip); refine jjQ (opened_galley h a c bs _ (hrow.ext inferInstance) hs.1 hs.2.2.1 (htorn.ext inferInstance)) rfl rfl ?_)
    rintro _ w3 hS3 ⟨pf, mb, rfl, h1, h2, h3⟩
    (apply jJ; exact eP rfl; apply jJ; exact eI rfl; refine jz ?_; refine jjF ?_; refine jC rfl rfl rfl ⟨inferInstance, ?_⟩)
    have := hS_b1.size
    have := hS2.size
    exact .inr ⟨hg, pf, mb, rfl, by omega, by omega, h3⟩

theorem FormO.ext {pf mb : Nat} {h : Int} {a : Option Addr} {c : Nat} {bs : List Blk} {w w' : World} (f : FormO pf mb h a c bs w) (e : Ext w w') : FormO pf mb h a c bs w' := ⟨f.frm.ext e, f.may.ext e⟩

theorem Ends_galley (h : Int) (a : Option Addr) (c : Nat) (bs : List Blk) (w : World) (hrow : RowV w true 2 (.slice a bs.length c) (bs.map encB)) (hbs : ∀ b ∈ bs, b.1.size ≤ 140737488351232) (htorn : At w 1 0 tornC) :
    Ct Tryz.prog 15 [.agg #[.int .i64 h, .slice a bs.length c]] w fun v w' => ∃ u, v = .tuple #[u, .int .i64 (gErr h bs)] ∧ RowV w' false 1 u ((if galleyB h bs then endsF 0 bs else []).map intV) := by
  refine Ct.ofW (by simp) ?_
  (refine jjB ?_; refine jjC ?_)
  (refine jy rfl ?_; intro b1 w_b1 hb_b1 hs_b1 hS_b1 hk_b1; have hA_b1 := At.ofBlock hk_b1)
  (((apply jJ; exact eS rfl; apply jJ; exact eI rfl; refine jz ?_; refine jjB ?_; refine jjC ?_; refine jO rfl rfl rfl rfl ?_)); refine jjQ (open_galley h a c bs _ (hrow.ext inferInstance) hbs (htorn.ext inferInstance)) rfl rfl ?_)
  rintro _ w2 hS2 (⟨hg, rfl⟩ | ⟨hg, pf, mb, rfl, h1, h2, h3⟩)
  · (apply jI; exact eU rfl; refine ju rfl rfl ?_; refine ju rfl rfl ?_; apply jJ; exact eN rfl; apply jJ; exact eI rfl; refine jz ?_; refine jjB ?_; refine jjB ?_; refine jjC ?_; apply jI; exact eI rfl; refine jc rfl rfl ?_; refine jz ?_; refine jjJ rfl ?_; refine jjB ?_; refine jjC ?_; apply jI; exact eI rfl; apply jJ; exact eS rfl; apply jJ; exact eI rfl; refine jz ?_; refine jjF ?_; refine jC rfl rfl rfl ⟨inferInstance, ?_⟩)
    refine ⟨.slice none 0 0, by simp only [gErr, hg]; exact rfl, ?_⟩
    rw [hg]; exact RowV.nilS _ _ _ _ _
  · have := h3.frm
    have hs := galleyB_spec hg
    (apply jI; exact eU rfl; refine ju rfl rfl ?_; refine ju rfl rfl ?_; apply jJ; exact eP rfl; apply jJ; exact eI rfl; refine jz ?_; refine jjB ?_; refine jjB ?_; refine jjC ?_; apply jI; exact eI rfl; refine jc rfl rfl ?_; refine jz ?_; refine jjK rfl ?_; refine jjG ?_; refine jjB ?_; refine jjC ?_; apply jI; exact eP rfl)
    refine jjQ (places_galley pf _) rfl rfl ?_
    rintro _ w3 hS3 ⟨bf, hbf, hAbf, rfl⟩
    skip
    refine jjQ (Collect_int (endsF 0 bs) _ _ _ _ (places1_galley bf pf h a c bs hs.1 hs.2.2.1) (fun w' e => ⟨hAbf.ext e, ?hfrm, (hrow.ext inferInstance).ext e, (htorn.ext inferInstance).ext e⟩) ?hlen) rfl rfl ?_
    case hfrm => exact At.pre (cs := [_, _]) (ds := [_, _]) (Bk.toAt (h := (h3.frm.ext inferInstance).ext e))
    case hlen => have := endsF_len hs.1 0; omega
    rintro u w4 hS4 hO
    (apply jJ; exact rfl; apply jJ; exact eI rfl; refine jz ?_; refine jjF ?_; refine jC rfl rfl rfl ⟨inferInstance, ?_⟩)
    refine ⟨u, by simp only [gErr, hg]; exact rfl, ?_⟩
    rw [hg]; exact hO.row
end Go.Proofs.YtfebegbjggoijaaGreatDoor

/- galley: column, cheaper, first. -/
namespace Go.Proofs.YtfebegbjggoijaaGreatDoor
open Go.RowKit

def colW (h tot frm to : Int) : Int := if to = tot then 0 else (h - to + frm) * (h - to + frm)

theorem sq_bound {x : Int} (h : -3000 ≤ x ∧ x ≤ 3000) : 0 ≤ x * x ∧ x * x ≤ 9000000 := by
  have h1 : x.natAbs ≤ 3000 := by omega
  have h2 := Nat.mul_le_mul h1 h1
  rw [← Int.natAbs_mul_self]
  omega
theorem colW_bound {h tot frm to : Int} (hh : -1000 ≤ h ∧ h ≤ 1000) (hf : -1000 ≤ frm ∧ frm ≤ 1000) (ht : -1000 ≤ to ∧ to ≤ 1000) : 0 ≤ colW h tot frm to ∧ colW h tot frm to ≤ 9000000 := by
  simp only [colW]
  split
  · omega
  · exact sq_bound (by omega)

theorem column_galley (pf : Nat) (h tot : Int) (sl mp : Value) (frm to : Int) (w : World) [hB : At w pf 0 [.int .i64 h, sl, .int .i64 tot, mp]] (hh : -1000 ≤ h ∧ h ≤ 1000) (hf : -1000 ≤ frm ∧ frm ≤ 1000) (ht : -1000 ≤ to ∧ to ≤ 1000) :
    Ct Tryz.prog 57 [.pointer (some ⟨pf, 0, none⟩), .int .i64 frm, .int .i64 to] w fun v _ => v = .int .i64 (colW h tot frm to) := by
  refine Ct.ofW (by simp) ?_
  repeat' (first|((first|apply jI|apply jJ); (first|exact eI rfl|exact eP rfl))|(refine jM ?_; refine jN rfl rfl rfl ?_)|(refine jW ?_; refine jb rfl rfl ?_)|(refine jm ?_; refine jn rfl ?_)|refine jw rfl ?_|refine jz ?_|(refine jjA ?_; (first|refine jjB ?_|refine jjC ?_|refine jjF ?_|refine jjG ?_))|(refine jjA ?_; (refine jjN rfl ?_ ?_ <;> intro _))|refine jB rfl rfl ⟨inferInstance, ?_⟩)
  · exact congrArg (Value.int .i64) (by simp only [colW]; rw [if_pos ‹_›])
  · refine W.draw (fun w' => Ext w w') ?_
    intro w1 hS1
    (refine jjV [0, 1, 2, 3, 4, 5, 6, 7, 8, 9, 10, 11, 12, 13, 14, 15, 16, 17] ?_ ?_ ?_; (decide +kernel); (exact hS1.ext); (((apply jjT; exact rfl; rintro w' hq; have := hq.toStep; apply jI; exact eP rfl; refine jz ?_; exact ⟨rfl, rfl⟩; apply jjT; exact rfl; rintro w' hq; have := hq.toStep; refine jw rfl ?_; refine jz ?_; exact ⟨rfl, rfl⟩; apply jjT; exact rfl; rintro w' hq; have := hq.toStep; refine jm ?_; refine jn rfl ?_; refine jz ?_; exact ⟨rfl, rfl⟩; apply jjT; exact rfl; rintro w' hq; have := hq.toStep; refine jm ?_; refine jn rfl ?_; refine jz ?_; exact ⟨rfl, rfl⟩; apply jjT; exact rfl; rintro w' hq; have := hq.toStep; refine jN rfl rfl rfl ?_; refine jz ?_; exact ⟨rfl, rfl⟩; apply jjT; exact rfl; rintro w' hq; have := hq.toStep; apply jI; exact eI rfl; refine jz ?_; exact ⟨rfl, rfl⟩; apply jjT; exact rfl; rintro w' hq; have := hq.toStep; refine jZ rfl rfl (by omega) ?_; refine jz ?_; exact ⟨rfl, rfl⟩; apply jjT; exact rfl; rintro w' hq; have := hq.toStep; apply jI; exact eI rfl; refine jz ?_; exact ⟨rfl, rfl⟩; apply jjT; exact rfl; rintro w' hq; have := hq.toStep; refine jY rfl rfl (by omega) ?_; refine jz ?_; exact ⟨rfl, rfl⟩; apply jjT; exact rfl; rintro w' hq; have := hq.toStep; apply jI; exact eP rfl; refine jz ?_; exact ⟨rfl, rfl⟩; apply jjT; exact rfl; rintro w' hq; have := hq.toStep; refine jw rfl ?_; refine jz ?_; exact ⟨rfl, rfl⟩; apply jjT; exact rfl; rintro w' hq; have := hq.toStep; refine jm ?_; refine jn rfl ?_; refine jz ?_; exact ⟨rfl, rfl⟩; apply jjT; exact rfl; rintro w' hq; have := hq.toStep; refine jm ?_; refine jn rfl ?_; refine jz ?_; exact ⟨rfl, rfl⟩; apply jjT; exact rfl; rintro w' hq; have := hq.toStep; refine jN rfl rfl rfl ?_; refine jz ?_; exact ⟨rfl, rfl⟩; apply jjT; exact rfl; rintro w' hq; have := hq.toStep; apply jI; exact eI rfl; refine jz ?_; exact ⟨rfl, rfl⟩; apply jjT; exact rfl; rintro w' hq; have := hq.toStep; refine jZ rfl rfl (by omega) ?_; refine jz ?_; exact ⟨rfl, rfl⟩; apply jjT; exact rfl; rintro w' hq; have := hq.toStep; apply jI; exact eI rfl; refine jz ?_; exact ⟨rfl, rfl⟩; apply jjT; exact rfl; rintro w' hq; have := hq.toStep; refine jY rfl rfl (by omega) ?_; refine jz ?_; exact ⟨rfl, rfl⟩; refine jjU ?_))))
    have hx := sq_bound (x := h - to + frm) (by omega)
    refine jjV [18, 19] ?_ ?_ ?_
    · decide +kernel
    · exact hS1.ext
    apply jjT
    · exact rfl
    · intro w' hq
      refine Ops.mul rfl rfl (by omega) ?_
      refine jz ?_
      exact ⟨rfl, rfl⟩
    (((apply jjT; exact rfl; rintro w' hq; have := hq.toStep; apply jJ; exact eI rfl; refine jz ?_; exact ⟨rfl, rfl⟩; refine jjU ?_)))
    refine jjX ?_ ?_ ?_
    · decide +kernel
    · exact hS1.ext
    (refine jjF ?_; refine jB rfl rfl ⟨inferInstance, ?_⟩)
    exact congrArg (Value.int .i64) (by simp only [colW]; rw [if_neg ‹_›])

def noneW : Int × Int := (-1, -1)
def cheapB (a b : Int × Int) : Bool := decide (¬ a = noneW) && (decide (b = noneW) || decide (a.1 < b.1))

theorem cheap_1 {a b : Int × Int} (h1 : ¬ a = noneW) (h2 : b = noneW) : true = cheapB a b := by simp [cheapB, h1, h2]
theorem cheap_2 {a b : Int × Int} (h1 : ¬ a = noneW) (h2 : ¬ b = noneW) : decide (a.1 < b.1) = cheapB a b := by simp [cheapB, h1, h2]
theorem cheap_3 {a b : Int × Int} (h1 : ¬ ¬ a = noneW) : false = cheapB a b := by simp [cheapB, Decidable.not_not.1 h1]

theorem cheaper_galley (a b : Int × Int) (w : World) [hn : At w 0 0 [.int .i64 (-1), .int .i64 (-1)]] : Ct Tryz.prog 80 [encII a, encII b] w fun v _ => v = .bool (cheapB a b) := by
  obtain ⟨a1, a2⟩ := a
  obtain ⟨b1, b2⟩ := b
  refine Ct.ofW (by simp) ?_
  (refine jjB ?_; refine jjC ?_)
  (refine jy rfl ?_; intro x1 w_x1 hb_x1 hs_x1 hS_x1 hk_x1; have hA_x1 := At.ofBlock hk_x1)
  skip
  (refine jy rfl ?_; intro x2 w_x2 hb_x2 hs_x2 hS_x2 hk_x2; have hA_x2 := At.ofBlock hk_x2)
  (apply jJ; exact eB rfl; refine jz ?_; refine jjB ?_; refine jjC ?_; refine jO rfl rfl rfl rfl ?_; refine jO rfl rfl rfl rfl ?_)
  refine Ops.neqT (enc := encII) (a1, a2) noneW rfl rfl ?_
  repeat' (first|((first|apply jI|apply jJ|apply jL rfl); exact eB rfl)|(refine jM ?_; refine jO rfl rfl rfl rfl ?_)|(refine jS ?_; (first|refine jT rfl rfl rfl ?_|refine jU rfl rfl rfl rfl ?_|refine jV rfl rfl ?_))|refine jz ?_|(refine jjA ?_; refine jjF ?_)|(refine jS ?_; (refine jjL rfl rfl ?_ ?_ <;> intro _))|refine jB rfl rfl ⟨inferInstance, ?_⟩)
  · refine Ops.eqlT (enc := encII) (b1, b2) noneW rfl rfl ?_
    repeat' (first|((first|apply jI|apply jJ|apply jK rfl|apply jL rfl); exact eB rfl)|(refine jM ?_; refine jN rfl rfl rfl ?_)|(refine jS ?_; (first|refine jT rfl rfl rfl ?_|refine jU rfl rfl rfl rfl ?_))|(refine jW ?_; refine jX rfl rfl ?_)|(refine jm ?_; refine jn rfl ?_)|refine jz ?_|(refine jjA ?_; refine jjF ?_)|(refine jS ?_; (refine jjL rfl rfl ?_ ?_ <;> intro _))|refine jB rfl rfl ⟨inferInstance, ?_⟩)
    · exact congrArg Value.bool (cheap_1 ‹_› ‹_›)
    · exact congrArg Value.bool (cheap_2 ‹_› ‹_›)
  · exact congrArg Value.bool (cheap_3 ‹_›)
end Go.Proofs.YtfebegbjggoijaaGreatDoor

/- galley: plain functions of breakings. -/
namespace Go.Proofs.YtfebegbjggoijaaGreatDoor
open Go.RowKit

/-- The number before the k-th. -/
def prevD (l : List Int) : Nat → Int
  | 0 => 0
  | k + 1 => l.getD k 0
def stepB (h : Int) (bs : List Blk) (l : List Int) (k : Nat) : Bool := mayR (l.getD k 0) 0 bs && decide (1 ≤ l.getD k 0 - prevD l k ∧ l.getD k 0 - prevD l k ≤ h)
def validB (h : Int) (bs : List Blk) (l : List Int) : Bool := (List.range l.length).all (stepB h bs l) && decide (prevD l l.length = sumL bs)
def brkE (h : Int) (bs : List Blk) (l : List Int) : Int := if galleyB h bs then (if validB h bs l then 0 else 81) else 80

theorem valid_yes {h : Int} {bs : List Blk} {l : List Int} (h1 : ∀ k, k < l.length → stepB h bs l k = true) (h2 : prevD l l.length = sumL bs) : validB h bs l = true := by
  simp only [validB, Bool.and_eq_true, List.all_eq_true, List.mem_range, decide_eq_true_eq]
  exact ⟨h1, h2⟩
theorem valid_no {h : Int} {bs : List Blk} {l : List Int} {k : Nat} (hk : k < l.length) (h1 : stepB h bs l k = false) : validB h bs l = false := by
  have : (List.range l.length).all (stepB h bs l) = false := by
    rw [List.all_eq_false]; exact ⟨k, by simpa using hk, by simp [h1]⟩
  simp [validB, this]
theorem valid_end {h : Int} {bs : List Blk} {l : List Int} (h1 : prevD l l.length ≠ sumL bs) : validB h bs l = false := by
  simp [validB, h1]
theorem getD_lt {l : List Int} {k : Nat} (hk : k < l.length) : l.getD k 0 = l[k] := by simp [List.getD_eq_getElem?_getD, hk]

/-- What a valid breaking is. -/
structure ValidI (h : Int) (bs : List Blk) (l : List Int) : Prop where
  step : ∀ k, k < l.length → mayR (l.getD k 0) 0 bs = true ∧ 1 ≤ l.getD k 0 - prevD l k ∧ l.getD k 0 - prevD l k ≤ h ∧ 1 ≤ l.getD k 0 ∧ l.getD k 0 ≤ sumL bs
  last : prevD l l.length = sumL bs
theorem may_in {bs : List Blk} (hb : ∀ b ∈ bs, 1 ≤ b.2 ∧ b.2 ≤ 20) {n : Int} (hm : mayR n 0 bs = true) : 1 ≤ n ∧ n ≤ sumL bs := ends_bound hb n ((mem_endsF hb n).2 hm)
theorem validI {h : Int} {bs : List Blk} {l : List Int} (hb : ∀ b ∈ bs, 1 ≤ b.2 ∧ b.2 ≤ 20) (hv : validB h bs l = true) : ValidI h bs l := by
  simp only [validB, Bool.and_eq_true, List.all_eq_true, List.mem_range, decide_eq_true_eq] at hv
  refine ⟨fun k hk => ?_, hv.2⟩
  have h1 := hv.1 k hk
  simp only [stepB, Bool.and_eq_true, decide_eq_true_eq] at h1
  have := may_in hb h1.1
  exact ⟨h1.1, h1.2.1, h1.2.2, this.1, this.2⟩
theorem ValidI.prev {h : Int} {bs : List Blk} {l : List Int} (v : ValidI h bs l) (hs : 0 ≤ sumL bs) : ∀ k, k ≤ l.length → 0 ≤ prevD l k ∧ prevD l k ≤ sumL bs
  | 0, _ => ⟨Int.le_refl _, hs⟩
  | k + 1, hk => by have := v.step k (by omega); simp only [prevD]; omega
theorem ValidI.up {h : Int} {bs : List Blk} {l : List Int} (v : ValidI h bs l) : ∀ j i, i < j → j < l.length → l.getD i 0 < l.getD j 0 := by
  intro j
  induction j with
  | zero => intro i hi; omega
  | succ j ih =>
    intro i hi hj
    have h1 := (v.step (j + 1) hj).2.1
    simp only [prevD] at h1
    by_cases e : i = j
    · subst e; omega
    · have := ih i (by omega) (by omega)
      omega
theorem ValidI.pos {h : Int} {bs : List Blk} {l : List Int} (v : ValidI h bs l) (hs : 1 ≤ sumL bs) : 0 < l.length := by
  cases hl : l.length with
  | zero => have := v.last; rw [hl] at this; simp only [prevD] at this; omega
  | succ k => omega

/-- The waste of the first k columns. -/
def wasteP (h tot : Int) (l : List Int) : Nat → Int
  | 0 => 0
  | k + 1 => wasteP h tot l k + colW h tot (prevD l k) (l.getD k 0)
theorem wasteP_bound {h tot : Int} {l : List Int} (hh : -1000 ≤ h ∧ h ≤ 1000) (hl : ∀ k, k < l.length → 0 ≤ l.getD k 0 ∧ l.getD k 0 ≤ 1000) : ∀ k, k ≤ l.length → 0 ≤ wasteP h tot l k ∧ wasteP h tot l k ≤ k * 9000000
  | 0, _ => ⟨Int.le_refl _, by simp [wasteP]⟩
  | k + 1, hk => by
    have ih := wasteP_bound hh hl (tot := tot) k (by omega)
    have h1 := hl k (by omega)
    have h2 : 0 ≤ prevD l k ∧ prevD l k ≤ 1000 := by
      cases k with
      | zero => exact ⟨Int.le_refl (0 : Int), (by decide : (0 : Int) ≤ 1000)⟩
      | succ k => exact hl k (by omega)
    have := colW_bound (h := h) (tot := tot) (frm := prevD l k) (to := l.getD k 0) hh (by omega) (by omega)
    simp only [wasteP]
    omega

/-- How many columns end before a line, from 0. -/
def standF (l : List Int) (line : Int) : Nat := (l.takeWhile fun n => decide (n ≤ line)).length
theorem standF_le (l : List Int) (line : Int) : standF l line ≤ l.length := by
  unfold standF
  exact (List.takeWhile_prefix _).length_le
theorem standF_of : ∀ {l : List Int} {line : Int} {k : Nat}, k ≤ l.length → (∀ j, j < k → l.getD j 0 ≤ line) → (k < l.length → line < l.getD k 0) → standF l line = k
  | [], _, k, hk, _, _ => by simp at hk; subst hk; rfl
  | x :: l, line, 0, _, _, h2 => by
    have : line < x := h2 (by simp)
    have h3 : ¬ x ≤ line := by omega
    simp [standF, h3]
  | x :: l, line, k + 1, hk, h1, h2 => by
    have h3 : x ≤ line := h1 0 (by omega)
    have := standF_of (l := l) (line := line) (k := k) (by simp at hk; omega) (fun j hj => by have := h1 (j + 1) (by omega); simpa using this) (fun h => by have := h2 (by simp; omega); simpa using this)
    simp only [standF] at this ⊢
    simp [h3, this]
theorem sumL_pre0 {bs : List Blk} (hb : ∀ b ∈ bs, 1 ≤ b.2 ∧ b.2 ≤ 20) (hl : bs.length ≤ 1000) (k : Nat) : 0 ≤ sumL (bs.take k) ∧ sumL (bs.take k) ≤ 20000 := by
  have := sumL_le (bs := bs.take k) fun b h => hb b (List.mem_of_mem_take h)
  have h2 : (bs.take k).length ≤ 1000 := by simp; omega
  omega
def beginL (bs : List Blk) (k : Nat) : Int := sumL (bs.take k)
def linesL (bs : List Blk) (k : Nat) : Int := (bs.getD k (ByteArray.empty, 0)).2
def colF (bs : List Blk) (l : List Int) (k : Nat) : Nat := standF l (beginL bs k)
def colT (bs : List Blk) (l : List Int) (k : Nat) : Nat := standF l (beginL bs k + linesL bs k - 1)
end Go.Proofs.YtfebegbjggoijaaGreatDoor

/- galley: first. -/
namespace Go.Proofs.YtfebegbjggoijaaGreatDoor
open Go.RowKit

def bestW (b x : Int × Int) : Int × Int := if cheapB x b then x else b
def firstW (ws : List (Int × Int)) : Int × Int := ws.foldl bestW (ws.headD noneW)
theorem bestW_yes {b x : Int × Int} (h : cheapB x b = true) : bestW b x = x := by simp [bestW, h]
theorem bestW_no {b x : Int × Int} (h : cheapB x b = false) : bestW b x = b := by simp [bestW, h]

theorem first_galley (ws : List (Int × Int)) (v : Value) (w : World) (hne : 0 < ws.length) (hrow : RowV w true 2 v (ws.map encII)) (hnone : At w 0 0 [.int .i64 (-1), .int .i64 (-1)]) :
    Ct Tryz.prog 79 [v, .func (.func 80) #[] ([] : List Value).toArray] w fun r _ => r = encII (firstW ws) := by
  obtain ⟨a, c, rfl⟩ := hrow.slice
  have hlen := hrow.len
  rw [List.length_map] at hlen hrow ⊢
  refine Ct.ofW (by simp) ?_
  (((refine jjB ?_; refine jjC ?_)); refine jjY ?_; intro b4 w_b4 hb_b4 hs_b4 hS_b4 hk_b4; have hA_b4 := Bk.of hk_b4)
  (refine jz ?_; refine jjB ?_; refine jjC ?_; apply jI; exact eS rfl)
  refine Ops.indexRow rfl rfl (hrow.ext inferInstance) rfl (map_get hne) ?_
  intro b0 o0 hA0
  refine Ops.loadV rfl hA0 (by exact hrow.get (List.getElem_mem hne)) ?_
  (apply jjR rfl; (intro _; first|exact eI rfl|exact eB rfl|exact eP rfl|exact eS rfl|exact eT rfl|exact eA rfl|exact eU rfl|exact eF rfl|exact eM rfl|exact eN rfl|exact rfl); exact rfl; exact rfl; exact rfl; exact rfl; intro b5 w_b5 hb_b5 hs_b5 hS_b5 hk_b5; have hA_b5 := Bk.of hk_b5)
  (refine jz ?_; refine jjB ?_; refine jjB ?_; refine jjC ?_; apply jI; exact eS rfl; refine jh rfl ?_; apply jI; exact eI rfl; refine jz ?_; refine jjD ?_)
  refine W.loopG (14 :: 15 :: 16 :: 7 :: 17 :: 18 :: 19 :: 20 :: 21 :: 22 :: 13 :: []) (fun g s' w' => ∃ k : Nat, s' 13 = .int .i64 k ∧ k ≤ ws.length ∧ g = ws.length - k ∧ Ext w w' ∧ Bk w' b4 [.int .i64 0, .int .i64 0] 136 ∧ Bk w' b5 [.int .i64 ((ws.take k).foldl bestW ws[0]).1, .int .i64 ((ws.take k).foldl bestW ws[0]).2] 136) ws.length ⟨0, rfl, by omega, by omega, inferInstance, inferInstance, by simpa using hA_b5⟩ ?_
  rintro _ d w' ⟨k, h13, hk, rfl, hE, hB4, hB5⟩
  refine W.fix h13 ?_
  repeat' (first|(refine jM ?_; refine jO rfl rfl rfl rfl ?_)|(refine jW ?_; refine jX rfl rfl ?_)|refine jz ?_|(refine jjA ?_; (first|refine jjB ?_|refine jjC ?_|refine jjD ?_|refine jjE ?_|refine jjG ?_))|(refine jjA ?_; (refine jjN rfl ?_ ?_ <;> intro _)))
  · have hk' : k < ws.length := by omega
    have hb45 : b4 ≠ b5 := by omega
    refine Ops.indexRow rfl rfl (hrow.ext hE) rfl (map_get hk') ?_
    intro b1 o1 hA1
    refine Ops.loadV rfl hA1 (by exact hrow.get (List.getElem_mem hk')) ?_
    have := hnone.ext hE
    (apply jjR rfl; (intro _; first|exact eI rfl|exact eB rfl|exact eP rfl|exact eS rfl|exact eT rfl|exact eA rfl|exact eU rfl|exact eF rfl|exact eM rfl|exact eN rfl|exact rfl); exact rfl; exact rfl; exact rfl; exact rfl; intro b7 w_b7 hb_b7 hs_b7 hS_b7 hk_b7; have hA_b7 := Bk.of hk_b7)
    have hw7 := hE.size
    have hE7 := hE.trans hS_b7.ext
    have hlt5 := hB5.lt
    (((refine jz ?_; refine jjB ?_; refine jjC ?_; apply jI; exact eF rfl; refine jO rfl rfl rfl rfl ?_; refine jO rfl rfl rfl rfl ?_)); refine jjQ (cheaper_galley ws[k] ((ws.take k).foldl bestW ws[0]) _) rfl rfl ?_)
    rintro _ w3 hS3 rfl
    have hE3 := hE7.trans hS3.ext
    have hB43 := hB4.ext (hS_b7.ext.trans hS3.ext)
    have hB53 := hB5.ext (hS_b7.ext.trans hS3.ext)
    repeat' (first|(apply jI; exact eI rfl)|(refine jM ?_; refine jO rfl rfl rfl rfl ?_)|(refine jW ?_; refine jY rfl rfl (by omega) ?_)|refine jz ?_|(refine jjA ?_; (first|refine jjC ?_|refine jjG ?_))|(refine jjA ?_; (refine jjO rfl ?_ ?_ <;> intro _)))
    · have hc : cheapB ws[k] ((ws.take k).foldl bestW ws[0]) = true := by assumption
      refine Ops.store rfl rfl rfl rfl rfl ?_
      intro w4 hp4
      (refine jz ?_; refine jjC ?_; refine jY rfl rfl (by omega) ?_; apply jI; exact eI rfl; refine jz ?_)
      refine ⟨rfl, by ((refine Same.upd rfl ?_; refine Same.upd rfl ?_; refine Same.upd rfl ?_; refine Same.upd rfl ?_; refine Same.upd rfl ?_; refine Same.upd rfl ?_; refine Same.upd rfl ?_; refine Same.upd rfl ?_; refine Same.upd rfl ?_; refine Same.upd rfl ?_; refine Same.upd rfl ?_; refine Same.upd rfl ?_; exact Same.ovN)), ws.length - (k + 1), by omega, k + 1, rfl, by omega, rfl, hp4.ext hE3 (by omega), hp4.bk hB43 hb45, ?_⟩
      rw [List.take_succ_eq_append_getElem hk', List.foldl_append, List.foldl_cons, List.foldl_nil, bestW_yes hc]
      exact ⟨hp4.new⟩
    · have hc : cheapB ws[k] ((ws.take k).foldl bestW ws[0]) = false := by assumption
      refine ⟨rfl, by ((refine Same.upd rfl ?_; refine Same.upd rfl ?_; refine Same.upd rfl ?_; refine Same.upd rfl ?_; refine Same.upd rfl ?_; refine Same.upd rfl ?_; refine Same.upd rfl ?_; refine Same.upd rfl ?_; refine Same.upd rfl ?_; refine Same.upd rfl ?_; refine Same.upd rfl ?_; exact Same.ovN)), ws.length - (k + 1), by omega, k + 1, rfl, by omega, rfl, hE3, hB43, ?_⟩
      rw [List.take_succ_eq_append_getElem hk', List.foldl_append, List.foldl_cons, List.foldl_nil, bestW_no hc]
      exact hB53
  · refine Ops.store rfl rfl rfl rfl rfl ?_
    intro w4 hp4
    have hB4' := Bk.of hp4.new
    (refine jz ?_; refine jjF ?_)
    have hkn : k = ws.length := by omega
    subst hkn
    refine fin1C rfl rfl rfl rfl rfl ⟨hp4.ext hE (by omega), ?_⟩
    rw [List.take_length]
    have e : firstW ws = ws.foldl bestW ws[0] := by
      unfold firstW
      congr 1
      cases ws with
      | nil => simp at hne
      | cons x xs => rfl
    rw [e]
    rfl
end Go.Proofs.YtfebegbjggoijaaGreatDoor

/- galley: between$1. -/
namespace Go.Proofs.YtfebegbjggoijaaGreatDoor
open Go.RowKit

/-! What on(n) is. -/
def onD (h tot to : Int) (may : Int → Bool) : Nat → Int × Int
  | 0 => (0, to)
  | d + 1 => firstW (noneW :: (List.range (min (d + 1) h.toNat)).filterMap fun (j : Nat) =>
      if may (to - (d : Int) + j) && decide (¬ onD h tot to may (d - j) = noneW) then some ((onD h tot to may (d - j)).1 + colW h tot (to - (d : Int) - 1) (to - (d : Int) + j), to - (d : Int) + j) else none)
termination_by d => d
decreasing_by all_goals omega
def onW (h tot to : Int) (may : Int → Bool) (n : Int) : Int × Int := if n ≤ to then onD h tot to may (to - n).toNat else noneW

/-- What may be gone on to from n, of the first j numbers behind it. -/
def waysW (h tot to : Int) (may : Int → Bool) (n : Int) (j : Nat) : List (Int × Int) :=
  noneW :: (List.range j).filterMap fun (i : Nat) => if may (n + 1 + i) && decide (¬ onW h tot to may (n + 1 + i) = noneW) then some ((onW h tot to may (n + 1 + i)).1 + colW h tot n (n + 1 + i), n + 1 + i) else none
theorem waysW_succ (h tot to : Int) (may : Int → Bool) (n : Int) (j : Nat) : waysW h tot to may n (j + 1) = waysW h tot to may n j ++ (if may (n + 1 + j) && decide (¬ onW h tot to may (n + 1 + j) = noneW) then [((onW h tot to may (n + 1 + j)).1 + colW h tot n (n + 1 + j), n + 1 + j)] else []) := by
  simp only [waysW, List.range_succ, List.filterMap_append, List.cons_append]
  congr 2
  by_cases c : (may (n + 1 + j) && decide (¬ onW h tot to may (n + 1 + j) = noneW)) = true
  · simp only [List.filterMap_cons, List.filterMap_nil, if_pos c]
  · simp only [List.filterMap_cons, List.filterMap_nil, if_neg c]
theorem waysW_no (h tot to : Int) {may : Int → Bool} {n : Int} {j : Nat} (hm : may (n + 1 + j) = false ∨ onW h tot to may (n + 1 + j) = noneW) : waysW h tot to may n (j + 1) = waysW h tot to may n j := by
  rw [waysW_succ, if_neg, List.append_nil]
  rcases hm with hm | hm <;> simp [hm]
theorem waysW_yes (h tot to : Int) {may : Int → Bool} {n : Int} {j : Nat} (hm : may (n + 1 + j) = true) (ho : ¬ onW h tot to may (n + 1 + j) = noneW) : waysW h tot to may n (j + 1) = waysW h tot to may n j ++ [((onW h tot to may (n + 1 + j)).1 + colW h tot n (n + 1 + j), n + 1 + j)] := by
  rw [waysW_succ, if_pos]
  simp [hm, ho]
theorem waysW_len (h tot to : Int) (may : Int → Bool) (n : Int) (j : Nat) : (waysW h tot to may n j).length ≤ j + 1 := by
  simp only [waysW, List.length_cons]
  have := List.length_filterMap_le (fun (i : Nat) => if may (n + 1 + i) && decide (¬ onW h tot to may (n + 1 + i) = noneW) then some ((onW h tot to may (n + 1 + i)).1 + colW h tot n (n + 1 + i), n + 1 + i) else none) (List.range j)
  simp only [List.length_range] at this
  omega
theorem filterMap_same {α β : Type} {f g : α → Option β} : ∀ {l : List α}, (∀ x ∈ l, f x = g x) → l.filterMap f = l.filterMap g
  | [], _ => rfl
  | x :: l, h => by
    rw [List.filterMap_cons, List.filterMap_cons, h x (by simp), filterMap_same fun y hy => h y (by simp [hy])]
theorem onW_eq (h tot to : Int) (may : Int → Bool) (n : Int) (hn : n ≠ to) : onW h tot to may n = firstW (waysW h tot to may n (min (to - n) h).toNat) := by
  by_cases hle : n ≤ to
  · obtain ⟨d, hd⟩ : ∃ d : Nat, (to - n).toNat = d + 1 := ⟨(to - n).toNat - 1, by omega⟩
    have hm : (min (to - n) h).toNat = min (d + 1) h.toNat := by omega
    simp only [onW, if_pos hle, hd, onD, waysW, hm]
    congr 2
    apply filterMap_same
    intro j hj
    have hj' : j < min (d + 1) h.toNat := by simpa using hj
    have e1 : to - (d : Int) + j = n + 1 + j := by omega
    have e2 : to - (d : Int) - 1 = n := by omega
    have e3 : n + 1 + (j : Int) ≤ to := by omega
    have e4 : (to - (n + 1 + (j : Int))).toNat = d - j := by omega
    rw [e1, e2]
    simp only [onW, if_pos e3, e4]
  · have hm : (min (to - n) h).toNat = 0 := by omega
    simp only [onW, if_neg hle, hm, waysW, List.range_zero, List.filterMap_nil]
    decide
theorem onW_to (h tot to : Int) (may : Int → Bool) : onW h tot to may to = (0, to) := by
  simp [onW, onD]
theorem foldl_best_mem : ∀ (ws : List (Int × Int)) (b : Int × Int), ws.foldl bestW b = b ∨ ws.foldl bestW b ∈ ws
  | [], b => .inl rfl
  | x :: ws, b => by
    rw [List.foldl_cons]
    rcases foldl_best_mem ws (bestW b x) with h | h
    · rw [h]
      unfold bestW
      split
      · exact .inr (by simp)
      · exact .inl rfl
    · exact .inr (by simp [h])
theorem firstW_mem {ws : List (Int × Int)} (h : ws ≠ []) : firstW ws ∈ ws := by
  unfold firstW
  rcases foldl_best_mem ws (ws.headD noneW) with e | e
  · rw [e]
    cases ws with
    | nil => exact absurd rfl h
    | cons x xs => simp
  · exact e
/-- The way that is taken from n. -/
theorem onW_step {h tot to : Int} {may : Int → Bool} {n : Int} (hn : n ≠ to) (ho : onW h tot to may n ≠ noneW) : ∃ i : Nat, (i : Int) < min (to - n) h ∧ may (n + 1 + i) = true ∧ onW h tot to may (n + 1 + i) ≠ noneW ∧ onW h tot to may n = ((onW h tot to may (n + 1 + i)).1 + colW h tot n (n + 1 + i), n + 1 + i) := by
  have hm := firstW_mem (ws := waysW h tot to may n (min (to - n) h).toNat) (by simp [waysW])
  rw [← onW_eq _ _ _ _ _ hn] at hm
  rcases List.mem_cons.1 hm with e | hm
  · exact absurd e ho
  · obtain ⟨i, hi, e⟩ := List.mem_filterMap.1 hm
    have hi' : i < (min (to - n) h).toNat := by simpa using hi
    by_cases c : (may (n + 1 + i) && decide (¬ onW h tot to may (n + 1 + i) = noneW)) = true
    · rw [if_pos c] at e
      simp only [Bool.and_eq_true, decide_eq_true_eq] at c
      exact ⟨i, by omega, c.1, c.2, (Option.some.inj e).symm⟩
    · rw [if_neg c] at e; cases e
theorem colW_near {h tot n : Int} {i : Nat} (hi : (i : Int) < h) (hh : h ≤ 1000) : 0 ≤ colW h tot n (n + 1 + i) ∧ colW h tot n (n + 1 + i) ≤ 9000000 := by
  simp only [colW]
  split
  · omega
  · exact sq_bound (by omega)
theorem onW_bound {h tot to : Int} {may : Int → Bool} (hh : h ≤ 1000) : ∀ (d : Nat) (n : Int), (to - n).toNat ≤ d → onW h tot to may n = noneW ∨ (0 ≤ (onW h tot to may n).1 ∧ (onW h tot to may n).1 ≤ d * 9000000) := by
  intro d
  induction d using Nat.strongRecOn with
  | _ d ih =>
  intro n hd
  by_cases ho : onW h tot to may n = noneW
  · exact .inl ho
  · right
    by_cases hn : n = to
    · subst hn; rw [onW_to]; simp; omega
    · obtain ⟨i, h1, h2, h3, h4⟩ := onW_step hn ho
      have hc := colW_near (tot := tot) (n := n) (i := i) (h := h) (by omega) hh
      have hb := (ih (d - 1) (by omega) (n + 1 + i) (by omega)).resolve_left h3
      rw [h4]
      simp only
      have e : ((d - 1 : Nat) : Int) = (d : Int) - 1 := by omega
      rw [e] at hb
      omega

/-- Behind which numbers columns end from n on. -/
def pathW (h tot to : Int) (may : Int → Bool) : Nat → Int → List Int
  | 0, _ => []
  | k + 1, n => if n < to then (onW h tot to may n).2 :: pathW h tot to may k (onW h tot to may n).2 else []
theorem pathW_same {h tot to : Int} {may : Int → Bool} : ∀ (k k' : Nat) (n : Int), (to - n).toNat ≤ k → (to - n).toNat ≤ k' → onW h tot to may n ≠ noneW → pathW h tot to may k n = pathW h tot to may k' n := by
  intro k
  induction k with
  | zero =>
    intro k' n h1 h2 _
    cases k' with
    | zero => rfl
    | succ k' => simp only [pathW]; rw [if_neg (by omega)]
  | succ k ih =>
    intro k' n h1 h2 ho
    cases k' with
    | zero => simp only [pathW]; rw [if_neg (by omega)]
    | succ k' =>
      simp only [pathW]
      by_cases hlt : n < to
      · obtain ⟨i, e1, e2, e3, e4⟩ := onW_step (by omega) ho
        rw [if_pos hlt, if_pos hlt, e4]
        simp only
        rw [ih k' (n + 1 + i) (by omega) (by omega) e3]
      · rw [if_neg hlt, if_neg hlt]
theorem pathW_step {h tot to : Int} {may : Int → Bool} {n : Int} (hlt : n < to) (ho : onW h tot to may n ≠ noneW) : pathW h tot to may (to - n).toNat n = (onW h tot to may n).2 :: pathW h tot to may (to - (onW h tot to may n).2).toNat (onW h tot to may n).2 := by
  obtain ⟨i, e1, e2, e3, e4⟩ := onW_step (by omega) ho
  obtain ⟨k, hk⟩ : ∃ k, (to - n).toNat = k + 1 := ⟨(to - n).toNat - 1, by omega⟩
  rw [hk]
  simp only [pathW]
  rw [if_pos hlt, e4]
  simp only
  rw [pathW_same k (to - (n + 1 + (i : Int))).toNat (n + 1 + i) (by omega) (by omega) e3]
theorem onW_le {h tot to : Int} {may : Int → Bool} {n : Int} (ho : onW h tot to may n ≠ noneW) : n ≤ to := by
  by_cases hle : n ≤ to
  · exact hle
  · exact absurd (by simp only [onW, if_neg hle]) ho
end Go.Proofs.YtfebegbjggoijaaGreatDoor

/- galley, plain laws: what columns cost, from behind. -/
namespace Go.Proofs.YtfebegbjggoijaaGreatDoor
open Go.RowKit

def costD (h tot to : Int) (may : Int → Bool) : Nat → Int
  | 0 => 0
  | d + 1 => (List.range (min (d + 1) h.toNat)).foldl (fun acc (j : Nat) =>
      if may (to - (d : Int) + j) then min acc (colW h tot (to - (d : Int) - 1) (to - (d : Int) + j) + costD h tot to may (d - j)) else acc) 1000000000
termination_by d => d
decreasing_by all_goals omega
def costR (h tot to : Int) (may : Int → Bool) (n : Int) : Int := costD h tot to may (to - n).toNat
def valR (h tot to : Int) (may : Int → Bool) (n : Int) (i : Nat) : Int := colW h tot n (n + 1 + i) + costR h tot to may (n + 1 + i)
/-- What it costs to go on from n, by the first j numbers behind it. -/
def costP (h tot to : Int) (may : Int → Bool) (n : Int) : Nat → Int
  | 0 => 1000000000
  | j + 1 => if may (n + 1 + j) then min (costP h tot to may n j) (valR h tot to may n j) else costP h tot to may n j

theorem costP_fold (h tot to : Int) (may : Int → Bool) (n : Int) (j : Nat) : (List.range j).foldl (fun acc (i : Nat) => if may (n + 1 + i) then min acc (valR h tot to may n i) else acc) 1000000000 = costP h tot to may n j := by
  induction j with
  | zero => rfl
  | succ j ih => rw [List.range_succ, List.foldl_append, ih]; rfl
theorem foldl_same {α β : Type} {f g : β → α → β} : ∀ {l : List α} {b : β}, (∀ x ∈ l, ∀ b, f b x = g b x) → l.foldl f b = l.foldl g b
  | [], _, _ => rfl
  | x :: l, b, h => by
    rw [List.foldl_cons, List.foldl_cons, h x (by simp), foldl_same fun y hy => h y (by simp [hy])]
theorem costR_eq {h tot to : Int} (may : Int → Bool) {n : Int} (hn : n < to) : costR h tot to may n = costP h tot to may n (min (to - n) h).toNat := by
  obtain ⟨d, hd⟩ : ∃ d : Nat, (to - n).toNat = d + 1 := ⟨(to - n).toNat - 1, by omega⟩
  have hm : (min (to - n) h).toNat = min (d + 1) h.toNat := by omega
  rw [← costP_fold, costR, hd, costD, hm]
  apply foldl_same
  intro j hj b
  have hj' : j < min (d + 1) h.toNat := by simpa using hj
  have e1 : to - (d : Int) + j = n + 1 + j := by omega
  have e2 : to - (d : Int) - 1 = n := by omega
  have e4 : (to - (n + 1 + (j : Int))).toNat = d - j := by omega
  rw [e1, e2, valR, costR, e4]
theorem costR_to (h tot to : Int) (may : Int → Bool) : costR h tot to may to = 0 := by simp [costR, costD]

theorem colW_small {h tot n : Int} {i : Nat} (hi : (i : Int) < h) (hh : h ≤ 40) : 0 ≤ colW h tot n (n + 1 + i) ∧ colW h tot n (n + 1 + i) ≤ 1600 := by
  simp only [colW]
  split
  · omega
  · generalize hx : h - (n + 1 + (i : Int)) + n = x
    have h0 : 0 ≤ x ∧ x ≤ 40 := by omega
    have h1 := Int.mul_le_mul h0.2 h0.2 h0.1 (by omega : (0 : Int) ≤ 40)
    have h2 := Int.mul_nonneg h0.1 h0.1
    omega

/-- What ways(j) and cost(j) are to one another. -/
structure OnP (h tot to : Int) (may : Int → Bool) (n : Int) (j : Nat) : Prop where
  le : ∀ i : Nat, i < j → may (n + 1 + i) = true → costP h tot to may n j ≤ valR h tot to may n i
  way : (firstW (waysW h tot to may n j) = noneW ∧ costP h tot to may n j = 1000000000) ∨
    ∃ i : Nat, i < j ∧ may (n + 1 + i) = true ∧ firstW (waysW h tot to may n j) = (costP h tot to may n j, n + 1 + i) ∧ costP h tot to may n j = valR h tot to may n i ∧ 0 ≤ costP h tot to may n j ∧ costP h tot to may n j ≤ (to - n) * 1600 ∧
      ∀ i' : Nat, i' < i → may (n + 1 + i') = true → costP h tot to may n j < valR h tot to may n i'
def OnC (h tot to : Int) (may : Int → Bool) (n : Int) : Prop := (onW h tot to may n = noneW ∧ costR h tot to may n = 1000000000) ∨ (onW h tot to may n ≠ noneW ∧ (onW h tot to may n).1 = costR h tot to may n ∧ 0 ≤ costR h tot to may n ∧ costR h tot to may n ≤ (to - n) * 1600)

theorem firstW_snoc (ws : List (Int × Int)) (x : Int × Int) : firstW (noneW :: ws ++ [x]) = bestW (firstW (noneW :: ws)) x := by
  simp [firstW, List.foldl_append]
theorem waysW_cons (h tot to : Int) (may : Int → Bool) (n : Int) (j : Nat) : ∃ ws, waysW h tot to may n j = noneW :: ws := ⟨_, rfl⟩
theorem firstW_yes {h tot to : Int} {may : Int → Bool} {n : Int} {j : Nat} (hm : may (n + 1 + j) = true) (ho : ¬ onW h tot to may (n + 1 + j) = noneW) :
    firstW (waysW h tot to may n (j + 1)) = bestW (firstW (waysW h tot to may n j)) ((onW h tot to may (n + 1 + j)).1 + colW h tot n (n + 1 + j), n + 1 + j) := by
  rw [waysW_yes _ _ _ hm ho]
  obtain ⟨ws, e⟩ := waysW_cons h tot to may n j
  rw [e, firstW_snoc]

theorem onP_all {h tot to : Int} {may : Int → Bool} {n : Int} (hh : 0 ≤ h ∧ h ≤ 40) (hn : to - n ≤ 1000) (hc : ∀ k, n < k → k ≤ to → OnC h tot to may k) : ∀ j : Nat, (j : Int) ≤ min (to - n) h → OnP h tot to may n j := by
  intro j
  induction j with
  | zero => intro _; exact ⟨fun i hi => by omega, .inl ⟨rfl, rfl⟩⟩
  | succ j ih =>
    intro hj
    have hj1 : (j : Int) + 1 ≤ to - n ∧ (j : Int) + 1 ≤ h := by omega
    obtain ⟨ile, iway⟩ := ih (by omega)
    have hcol := colW_small (tot := tot) (n := n) (i := j) (h := h) (by omega) hh.2
    have hck := hc (n + 1 + j) (by omega) (by omega)
    cases hm : may (n + 1 + j) with
    | false =>
      have e1 : costP h tot to may n (j + 1) = costP h tot to may n j := by rw [costP, hm]; rfl
      have e2 : waysW h tot to may n (j + 1) = waysW h tot to may n j := waysW_no _ _ _ (.inl hm)
      refine ⟨fun i hi hmi => ?_, ?_⟩
      · rw [e1]
        by_cases e : i = j
        · subst e; rw [hm] at hmi; cases hmi
        · exact ile i (by omega) hmi
      · rw [e1, e2]
        rcases iway with h1 | ⟨i, h1, h2⟩
        · exact .inl h1
        · exact .inr ⟨i, by omega, h2⟩
    | true =>
      have e1 : costP h tot to may n (j + 1) = min (costP h tot to may n j) (valR h tot to may n j) := by rw [costP, hm]; rfl
      have hv : valR h tot to may n j = colW h tot n (n + 1 + j) + costR h tot to may (n + 1 + j) := rfl
      have hle : ∀ i : Nat, i < j + 1 → may (n + 1 + i) = true → min (costP h tot to may n j) (valR h tot to may n j) ≤ valR h tot to may n i := by
        intro i hi hmi
        by_cases e : i = j
        · subst e; omega
        · have := ile i (by omega) hmi
          omega
      refine ⟨fun i hi hmi => by rw [e1]; exact hle i hi hmi, ?_⟩
      rw [e1]
      rcases hck with ⟨ho, hcr⟩ | ⟨ho, hcr, h0, h1⟩
      · -- that way leads nowhere
        have hbig : costP h tot to may n j ≤ 1000000000 := by
          rcases iway with h1 | ⟨i, h1, h2, h3, h4, h5, h6, h7⟩ <;> omega
        have emin : min (costP h tot to may n j) (valR h tot to may n j) = costP h tot to may n j := by omega
        have e2 : waysW h tot to may n (j + 1) = waysW h tot to may n j := waysW_no _ _ _ (.inr ho)
        rw [emin, e2]
        rcases iway with h1 | ⟨i, h1, h2⟩
        · exact .inl h1
        · exact .inr ⟨i, by omega, h2⟩
      · have hb : ((to - (n + 1 + (j : Int))) * 1600 : Int) ≤ (to - n) * 1600 - 1600 := by omega
        rw [firstW_yes hm ho, hcr, show costR h tot to may (n + 1 + j) + colW h tot n (n + 1 + j) = valR h tot to may n j from by omega]
        rcases iway with ⟨h3, h4⟩ | ⟨i, h3, h4, h5, h6, h7, h8, h9⟩
        · right
          have emin : min (costP h tot to may n j) (valR h tot to may n j) = valR h tot to may n j := by omega
          rw [emin, h3]
          refine ⟨j, by omega, hm, bestW_yes ?_, rfl, by omega, by omega, fun i' hi' hmi => ?_⟩
          · simp only [cheapB, Bool.and_eq_true, decide_eq_true_eq, Bool.or_eq_true]
            refine ⟨fun e => ?_, .inl trivial⟩
            have := congrArg Prod.fst e
            simp only [noneW] at this
            omega
          · have := ile i' hi' hmi
            omega
        · right
          rw [h5]
          by_cases c : valR h tot to may n j < costP h tot to may n j
          · have emin : min (costP h tot to may n j) (valR h tot to may n j) = valR h tot to may n j := by omega
            rw [emin]
            refine ⟨j, by omega, hm, bestW_yes ?_, rfl, by omega, by omega, fun i' hi' hmi => ?_⟩
            · simp only [cheapB, Bool.and_eq_true, decide_eq_true_eq, Bool.or_eq_true]
              refine ⟨fun e => ?_, .inr c⟩
              have := congrArg Prod.fst e
              simp only [noneW] at this
              omega
            · have := ile i' hi' hmi
              omega
          · have emin : min (costP h tot to may n j) (valR h tot to may n j) = costP h tot to may n j := by omega
            rw [emin]
            refine ⟨i, by omega, h4, bestW_no ?_, h6, h7, h8, h9⟩
            simp only [cheapB, Bool.and_eq_false_iff, Bool.or_eq_false_iff, decide_eq_false_iff_not]
            refine .inr ⟨fun e => ?_, c⟩
            have := congrArg Prod.fst e
            simp only [noneW] at this
            omega

theorem onC_all {h tot to : Int} {may : Int → Bool} (hh : 0 ≤ h ∧ h ≤ 40) : ∀ (d : Nat) (n : Int), (to - n).toNat = d → n ≤ to → to - n ≤ 1000 → OnC h tot to may n := by
  intro d
  induction d using Nat.strongRecOn with
  | _ d ih =>
  intro n hd hn hl
  by_cases e : n = to
  · subst e
    right
    rw [onW_to, costR_to]
    exact ⟨by intro e; have := congrArg Prod.fst e; simp [noneW] at this, rfl, by omega, by omega⟩
  · have hp := onP_all (may := may) (tot := tot) (n := n) hh hl (fun k h1 h2 => ih (to - k).toNat (by omega) k rfl h2 (by omega)) (min (to - n) h).toNat (by omega)
    unfold OnC
    rw [onW_eq _ _ _ _ _ e, costR_eq may (by omega)]
    rcases hp.way with h1 | ⟨i, h1, h2, h3, h4, h5, h6, _⟩
    · exact .inl h1
    · right
      rw [h3]
      refine ⟨fun e => ?_, rfl, h5, h6⟩
      have := congrArg Prod.fst e
      simp only [noneW] at this
      omega
theorem onP_any {h tot to : Int} {may : Int → Bool} {n : Int} (hh : 0 ≤ h ∧ h ≤ 40) (hl : to - n ≤ 1000) (hn : n ≤ to) : OnP h tot to may n (min (to - n) h).toNat :=
  onP_all hh hl (fun k h1 h2 => onC_all hh (to - k).toNat k rfl h2 (by omega)) _ (by omega)
end Go.Proofs.YtfebegbjggoijaaGreatDoor

/- galley, plain laws: a corrected block. -/
namespace Go.Proofs.YtfebegbjggoijaaGreatDoor
open Go.RowKit

def setB (bs : List Blk) (k : Nat) (ln : Int) : List Blk := bs.set k ((bs.getD k (ByteArray.empty, 0)).1, ln)
theorem setB_len (bs : List Blk) (k : Nat) (ln : Int) : (setB bs k ln).length = bs.length := by simp [setB]
theorem setB_ok {bs : List Blk} {k : Nat} {ln : Int} (hb : ∀ b ∈ bs, 1 ≤ b.2 ∧ b.2 ≤ 20) (hln : 1 ≤ ln ∧ ln ≤ 20) : ∀ b ∈ setB bs k ln, 1 ≤ b.2 ∧ b.2 ≤ 20 := fun b hm => by
  rcases List.mem_or_eq_of_mem_set hm with h | h
  · exact hb b h
  · subst h; exact hln
theorem setB_sum {bs : List Blk} : ∀ {k : Nat} {ln : Int}, k < bs.length → sumL (setB bs k ln) = sumL bs + (ln - linesL bs k) := by
  induction bs with
  | nil => intro k ln h; simp at h
  | cons b bs ih =>
    intro k ln h
    cases k with
    | zero => simp [setB, sumL, linesL]; omega
    | succ k =>
      have := ih (k := k) (ln := ln) (by simp at h; omega)
      simp only [setB, sumL, linesL, List.set_cons_succ, List.map_cons, List.sum_cons, List.getD_cons_succ] at this ⊢
      omega
theorem may_tot {bs : List Blk} (hb : ∀ b ∈ bs, 1 ≤ b.2 ∧ b.2 ≤ 20) : ∀ {p : Int}, bs ≠ [] → mayR (p + sumL bs) p bs = true := by
  induction bs with
  | nil => intro p h; exact absurd rfl h
  | cons b bs ih =>
    intro p _
    have h1 := hb b (by simp)
    have h2 := sumL_le (bs := bs) fun x hx => hb x (by simp [hx])
    have e : sumL (b :: bs) = b.2 + sumL bs := by simp [sumL]
    cases bs with
    | nil =>
      have e0 : sumL ([] : List Blk) = 0 := rfl
      rw [mayR, if_pos (by omega), decide_eq_true (by omega), endOk_eq (by omega)]
      rfl
    | cons b' bs' =>
      have h3 := hb b' (by simp)
      have e' : sumL (b' :: bs') = b'.2 + sumL bs' := by simp [sumL]
      have h4 := sumL_le (bs := bs') fun x hx => hb x (by simp [hx])
      rw [mayR, if_neg (by omega), e, ← Int.add_assoc]
      exact ih (fun x hx => hb x (by simp [hx])) (by simp)

/-- The next number at which a column may end is at most three lines off. -/
theorem may_next {bs : List Blk} (hb : ∀ b ∈ bs, 1 ≤ b.2 ∧ b.2 ≤ 20) {n : Int} (h0 : 0 ≤ n) (hn : n < sumL bs) : ∃ m, mayR m 0 bs = true ∧ n < m ∧ m ≤ n + 3 := by
  have hne : bs ≠ [] := by rintro rfl; simp [sumL] at hn; omega
  have ht := may_tot (p := 0) hb hne
  rw [Int.zero_add] at ht
  suffices ∀ (d : Nat) (m : Int), (m - n).toNat = d → n < m → mayR m 0 bs = true → ∃ m, mayR m 0 bs = true ∧ n < m ∧ m ≤ n + 3 from this _ (sumL bs) rfl hn ht
  intro d
  induction d using Nat.strongRecOn with
  | _ d ih =>
  intro m hd hm hmay
  by_cases h3 : m ≤ n + 3
  · exact ⟨m, hmay, hm, h3⟩
  · obtain ⟨m', h4, h5, h6, h7⟩ := may_gap hb hmay
    have : n < m' := by omega
    rcases h4 with e | e
    · omega
    · exact ih (m' - n).toNat (by omega) m' rfl this e

theorem onW_some {h tot to : Int} {may : Int → Bool} {n : Int} (hh : 0 ≤ h ∧ h ≤ 40) (hl : to - n ≤ 1000) {m : Int} (hnm : n < m) (hmh : m - n ≤ h) (hmt : m ≤ to) (hm : may m = true) (ho : onW h tot to may m ≠ noneW) : onW h tot to may n ≠ noneW := by
  have hp := onP_any (may := may) (tot := tot) hh hl (by omega : n ≤ to)
  obtain ⟨i, hi⟩ : ∃ i : Nat, m = n + 1 + i := ⟨(m - n - 1).toNat, by omega⟩
  have hle := hp.le i (by omega) (by rw [← hi]; exact hm)
  have hcol := colW_small (tot := tot) (n := n) (i := i) (h := h) (by omega) hh.2
  have hc := onC_all (may := may) (tot := tot) hh (to - m).toNat m rfl hmt (by omega)
  have hv : valR h tot to may n i = colW h tot n (n + 1 + i) + costR h tot to may m := by rw [valR, ← hi]
  rw [onW_eq _ _ _ _ _ (by omega)]
  rcases hc with ⟨e, _⟩ | ⟨_, _, c1, c2⟩
  · exact absurd e ho
  · rcases hp.way with ⟨_, e⟩ | ⟨q, h1, h2, h3, h4, h5, h6, _⟩
    · omega
    · rw [h3]
      intro e
      have := congrArg Prod.fst e
      simp only [noneW] at this
      omega
/-- From wherever one begins, columns can go on to the end. -/
theorem reach {h tot : Int} {bs : List Blk} (hb : ∀ b ∈ bs, 1 ≤ b.2 ∧ b.2 ≤ 20) (hh : 3 ≤ h ∧ h ≤ 40) (hs : sumL bs ≤ 1000) : ∀ (d : Nat) (n : Int), (sumL bs - n).toNat = d → 0 ≤ n → n ≤ sumL bs → onW h tot (sumL bs) (fun n => mayR n 0 bs) n ≠ noneW := by
  intro d
  induction d using Nat.strongRecOn with
  | _ d ih =>
  intro n hd h0 hn
  by_cases e : n = sumL bs
  · subst e
    rw [onW_to]
    intro e; have := congrArg Prod.fst e; simp [noneW] at this
  · obtain ⟨m, h1, h2, h3⟩ := may_next hb h0 (by omega)
    have hin := may_in hb h1
    exact onW_some (by omega) (by omega) h2 (by omega) hin.2 h1 (ih (sumL bs - m).toNat (by omega) m rfl (by omega) hin.2)

theorem pathW_len {h tot to : Int} {may : Int → Bool} : ∀ (k : Nat) (n : Int), (pathW h tot to may k n).length ≤ k
  | 0, _ => by simp [pathW]
  | k + 1, n => by
    simp only [pathW]
    split
    · have := pathW_len (h := h) (tot := tot) (to := to) (may := may) k (onW h tot to may n).2
      simp; omega
    · simp
theorem drop_get {l : List Int} {t i : Nat} (h : i < (l.drop t).length) : (l.drop t)[i] = l.getD (t + i) 0 := by
  have h2 : t + i < l.length := by simp at h; omega
  simp [List.getD_eq_getElem?_getD, h2]
theorem standF_low : ∀ {l : List Int} {line : Int} {j : Nat}, j < standF l line → l.getD j 0 ≤ line
  | [], _, _, h => by simp [standF] at h
  | x :: l, line, j, h => by
    by_cases c : x ≤ line
    · cases j with
      | zero => exact c
      | succ j =>
        have : j < standF l line := by
          simp only [standF, List.takeWhile_cons, decide_eq_true c, if_true, List.length_cons] at h
          simp only [standF]; omega
        have := standF_low this
        simpa using this
    · simp [standF, c] at h
theorem standF_high : ∀ {l : List Int} {line : Int}, standF l line < l.length → line < l.getD (standF l line) 0
  | [], _, h => by simp at h
  | x :: l, line, h => by
    by_cases c : x ≤ line
    · have e : standF (x :: l) line = standF l line + 1 := by simp [standF, c]
      rw [e] at h ⊢
      have := standF_high (l := l) (line := line) (by simp at h; omega)
      simpa using this
    · have e : standF (x :: l) line = 0 := by simp [standF, c]
      rw [e]
      show line < x
      omega
theorem standF_last {l : List Int} {line : Int} (hp : 0 < l.length) (h : line < l.getD (l.length - 1) 0) : standF l line < l.length := by
  rcases Nat.lt_or_ge (standF l line) l.length with c | c
  · exact c
  · have := standF_low (l := l) (line := line) (j := l.length - 1) (by omega)
    omega

/-- What the correction's ways are asked with. -/
structure FixD (h : Int) (bs : List Blk) (l : List Int) (k : Nat) (ln : Int) : Prop where
  hk : k < bs.length
  hln : 1 ≤ ln ∧ ln ≤ 20
  hb : ∀ b ∈ bs, 1 ≤ b.2 ∧ b.2 ≤ 20
  hbl : bs.length ≤ 30
  hh : 4 ≤ h ∧ h ≤ 40
  V : ValidI h bs l
def startF (bs : List Blk) (l : List Int) (k : Nat) : Int := prevD l (colF bs l k)
def moreF (bs : List Blk) (k : Nat) (ln : Int) : Int := ln - linesL bs k
def okT (h : Int) (bs : List Blk) (l : List Int) (k : Nat) (ln : Int) (t : Nat) : Prop :=
  onW h (sumL (setB bs k ln)) (l.getD t 0 + moreF bs k ln) (fun n => mayR n 0 (setB bs k ln)) (startF bs l k) ≠ noneW
structure FixT (h : Int) (bs : List Blk) (l : List Int) (k : Nat) (ln : Int) (t : Nat) : Prop where
  lo : colT bs l k ≤ t
  hi : t < l.length
  ok : okT h bs l k ln t
  min : ∀ j, colT bs l k ≤ j → j < t → ¬ okT h bs l k ln j
theorem FixT.uniq {h : Int} {bs : List Blk} {l : List Int} {k : Nat} {ln : Int} {t t' : Nat} (a : FixT h bs l k ln t) (b : FixT h bs l k ln t') : t = t' := by
  rcases Nat.lt_trichotomy t t' with c | c | c
  · exact absurd a.ok (b.min t a.lo c)
  · exact c
  · exact absurd b.ok (a.min t' b.lo c)
def fixL (h : Int) (bs : List Blk) (l : List Int) (k : Nat) (ln : Int) (t : Nat) : List Int :=
  l.take (colF bs l k) ++ pathW h (sumL (setB bs k ln)) (l.getD t 0 + moreF bs k ln) (fun n => mayR n 0 (setB bs k ln)) (l.getD t 0 + moreF bs k ln - startF bs l k).toNat (startF bs l k) ++ (l.drop (t + 1)).map fun n => n + moreF bs k ln

section
variable {h : Int} {bs : List Blk} {l : List Int} {k : Nat} {ln : Int}
theorem FixD.facts (D : FixD h bs l k ln) : 0 < l.length ∧ sumL bs ≤ 600 ∧ 0 ≤ beginL bs k ∧ 1 ≤ linesL bs k ∧ linesL bs k ≤ 20 ∧ beginL bs k + linesL bs k ≤ sumL bs ∧ l.getD (l.length - 1) 0 = sumL bs ∧ colT bs l k < l.length ∧ colF bs l k ≤ l.length ∧ 0 ≤ startF bs l k ∧ startF bs l k ≤ beginL bs k := by
  have hsl := sumL_le D.hb
  have hkk := D.hk
  have hlk := D.hb bs[k] (List.getElem_mem D.hk)
  have hle : linesL bs k = bs[k].2 := by simp [linesL, List.getD_eq_getElem?_getD, D.hk]
  have hpre := sumL_pre0 D.hb (by have := D.hbl; omega) k
  have h1 : sumL bs = sumL (bs.take (k + 1)) + sumL (bs.drop (k + 1)) := by rw [← sumL_append, List.take_append_drop]
  have h2 := sumL_le (bs := bs.drop (k + 1)) fun b h => D.hb b (List.mem_of_mem_drop h)
  rw [sumL_take_succ hkk] at h1
  have hpos := D.V.pos (by omega)
  have hlast : l.getD (l.length - 1) 0 = sumL bs := by
    obtain ⟨q, hq⟩ : ∃ q, l.length = q + 1 := ⟨l.length - 1, by omega⟩
    have := D.V.last
    rw [hq] at this ⊢
    exact this
  have hbg : beginL bs k = sumL (bs.take k) := rfl
  have hcT : colT bs l k < l.length := standF_last hpos (by rw [hlast]; omega)
  have hcF : colF bs l k ≤ l.length := standF_le _ _
  have hbl := D.hbl
  have hst : 0 ≤ startF bs l k ∧ startF bs l k ≤ beginL bs k := by
    unfold startF
    cases hc : colF bs l k with
    | zero => exact ⟨Int.le_refl (0 : Int), (by omega : (0 : Int) ≤ beginL bs k)⟩
    | succ q =>
      have h4 : l.getD q 0 ≤ beginL bs k := standF_low (l := l) (line := beginL bs k) (j := q) (by have : standF l (beginL bs k) = q + 1 := hc; omega)
      have h5 := D.V.step q (by omega)
      exact ⟨by simp only [prevD]; omega, h4⟩
  exact ⟨hpos, by omega, by omega, by omega, by omega, by omega, hlast, hcT, hcF, hst.1, hst.2⟩
theorem FixD.at_ (D : FixD h bs l k ln) {t : Nat} (h1 : colT bs l k ≤ t) (h2 : t < l.length) : beginL bs k + linesL bs k ≤ l.getD t 0 ∧ l.getD t 0 ≤ sumL bs := by
  obtain ⟨f1, f2, f3, f4, f5, f6, f7, f8, f9, f10, f11⟩ := D.facts
  have h3 : beginL bs k + linesL bs k - 1 < l.getD (colT bs l k) 0 := standF_high f8
  have h4 := D.V.step t h2
  by_cases e : colT bs l k = t
  · subst e; omega
  · have := D.V.up t (colT bs l k) (by omega) h2
    omega
theorem FixD.sum (D : FixD h bs l k ln) : sumL (setB bs k ln) = sumL bs + moreF bs k ln := setB_sum D.hk
/-- The last column always serves. -/
theorem FixD.last_ok (D : FixD h bs l k ln) : okT h bs l k ln (l.length - 1) := by
  obtain ⟨f1, f2, f3, f4, f5, f6, f7, f8, f9, f10, f11⟩ := D.facts
  have hs := D.sum
  have hm : moreF bs k ln = ln - linesL bs k := rfl
  have hln := D.hln
  have hh := D.hh
  unfold okT
  rw [f7, ← hs]
  exact reach (setB_ok D.hb D.hln) (by omega) (by omega) _ _ rfl f10 (by omega)
end
end Go.Proofs.YtfebegbjggoijaaGreatDoor

/- galley: broken, Waste. -/
namespace Go.Proofs.YtfebegbjggoijaaGreatDoor
open Go.RowKit

theorem lz {bs : List Blk} (hb : ∀ b ∈ bs, 1 ≤ b.2 ∧ b.2 ≤ 20) (hne : 1 ≤ bs.length) : lastZ (endsF 0 bs) = sumL bs := by
  have := ends_last hb 0 0 (by intro e; subst e; simp at hne)
  rw [Int.zero_add] at this
  exact this

section
variable (h : Int) (a : Option Addr) (c : Nat) (bs : List Blk) (la : Option Addr) (lc : Nat) (l : List Int) (w : World)
theorem broken_galley (hrow : RowV w true 2 (.slice a bs.length c) (bs.map encB)) (hbs : ∀ b ∈ bs, b.1.size ≤ 140737488351232) (htorn : At w 1 0 tornC) [hl : RowI w (.slice la l.length lc) false 1 (l.map intV)] :
    Ct Tryz.prog 53 [.agg #[.int .i64 h, .slice a bs.length c], .slice la l.length lc] w fun v w' => (brkE h bs l ≠ 0 ∧ v = .tuple #[.pointer none, .int .i64 (brkE h bs l)]) ∨
      (brkE h bs l = 0 ∧ galleyB h bs = true ∧ validB h bs l = true ∧ ∃ pf mb, v = .tuple #[.pointer (some ⟨pf, 0, none⟩), .int .i64 0] ∧ w.heap.size ≤ pf ∧ w.heap.size ≤ mb ∧ FormO pf mb h a c bs w') := by
  have hll := hl.h.len
  simp only [List.length_map] at hll
  refine Ct.ofW (by simp) ?_
  (refine jjB ?_; refine jjC ?_)
  (refine jy rfl ?_; intro b1 w_b1 hb_b1 hs_b1 hS_b1 hk_b1; have hA_b1 := At.ofBlock hk_b1)
  (apply jJ; exact eN rfl; apply jJ; exact eI rfl; refine jz ?_; refine jjH ?_; refine jjB ?_; refine jjC ?_; refine jO rfl rfl rfl rfl ?_)
  refine jjQ (open_galley h a c bs _ (hrow.ext inferInstance) hbs (htorn.ext inferInstance)) rfl rfl ?_
  rintro _ w2 hS2 (⟨hg, rfl⟩ | ⟨hg, pf, mb, rfl, h1, h2, h3⟩)
  · (apply jI; exact eU rfl; refine ju rfl rfl ?_; refine ju rfl rfl ?_; apply jJ; exact eN rfl; apply jJ; exact eI rfl; refine jz ?_; refine jjB ?_; refine jjB ?_; refine jjC ?_; apply jI; exact eI rfl; refine jc rfl rfl ?_; refine jz ?_; refine jjJ rfl ?_; refine jjB ?_; refine jjC ?_; apply jI; exact eI rfl; apply jJ; exact eN rfl; apply jJ; exact eI rfl; refine jz ?_; refine jjF ?_; refine jC rfl rfl rfl ⟨inferInstance, ?_⟩)
    have e : brkE h bs l = 80 := by simp [brkE, hg]
    rw [e]
    exact .inl ⟨by decide, rfl⟩
  · have hs := galleyB_spec hg
    have hfr := h3.frm
    rw [lz hs.1 hs.2.1] at hfr
    have hsl := sumL_le hs.1
    have hbad : ∀ k, k < l.length → stepB h bs l k = false → brkE h bs l = 81 := fun k hk hst => by simp [brkE, hg, valid_no hk hst]
    have z1 := hS_b1.size
    have z2 := hS2.size
    (apply jI; exact eU rfl; refine ju rfl rfl ?_; refine ju rfl rfl ?_; apply jJ; exact eP rfl; apply jJ; exact eI rfl; refine jz ?_; refine jjB ?_; refine jjB ?_; refine jjC ?_; apply jI; exact eI rfl; refine jc rfl rfl ?_; refine jz ?_; refine jjK rfl ?_; refine jjG ?_; refine jjB ?_; refine jjC ?_; apply jJ; exact eI rfl; refine jz ?_; refine jjB ?_; refine jjI ?_; refine jjB ?_; refine jjB ?_; refine jjC ?_; apply jI; exact eS rfl; refine jh rfl ?_; apply jI; exact eI rfl; refine jz ?_; refine jjD ?_)
    refine W.loop (22 :: 23 :: 24 :: 10 :: 25 :: 26 :: 27 :: 28 :: 29 :: 30 :: 31 :: 32 :: 33 :: 34 :: 35 :: 36 :: 37 :: 38 :: 39 :: 40 :: 41 :: 42 :: 43 :: 8 :: 4 :: 5 :: 44 :: 21 :: []) (fun g s' _ => ∃ k : Nat, s' 21 = .int .i64 k ∧ s' 8 = .int .i64 (prevD l k) ∧ g = l.length - k ∧ k ≤ l.length ∧ ∀ j, j < k → stepB h bs l j = true) l.length ⟨0, rfl, rfl, rfl, Nat.zero_le _, by intros; omega⟩ ?_
    rintro _ d w' hS ⟨k, h21, h8, rfl, hk, hpre⟩
    refine W.fix h21 (W.fix (d := 8) h8 ?_)
    clear h21 h8
    repeat' (first|((first|apply jI|apply jJ); (first|exact eI rfl|exact eP rfl|exact eN rfl))|(refine jM ?_; (first|refine jN rfl rfl rfl ?_|refine jQ rfl rfl ?_))|(refine jW ?_; (first|refine jX rfl rfl ?_|refine jc rfl rfl ?_))|(refine jm ?_; refine jn rfl ?_)|(refine jE ?_; (refine jF rfl rfl rfl (map_get (by omega)) ?_; intro _ _ _))|refine jw rfl ?_|refine jz ?_|(refine jjA ?_; (first|refine jjB ?_|refine jjC ?_|refine jjD ?_|refine jjE ?_|refine jjF ?_|refine jjG ?_))|(refine jjA ?_; (refine jjN rfl ?_ ?_ <;> intro _))|refine jC rfl rfl rfl ⟨inferInstance, ?_⟩)
    · have hk' : k < l.length := by omega
      have hgk := getD_lt hk'
      refine Ops.lookup (h3.may.ext inferInstance) rfl rfl ?_
      rw [mget_may]
      by_cases hm : l[k] ∈ endsF 0 bs
      · rw [decide_eq_true hm]
        have hmr := (mem_endsF hs.1 _).1 hm
        have hin := may_in hs.1 hmr
        have hpb : 0 ≤ prevD l k ∧ prevD l k ≤ sumL bs := by
          cases k with
          | zero => exact ⟨Int.le_refl _, hsl.1⟩
          | succ k =>
            have := hpre k (by omega)
            simp only [stepB, Bool.and_eq_true] at this
            have := may_in hs.1 this.1
            simp only [prevD]; omega
        (apply jI; exact eB rfl; refine jT rfl rfl rfl ?_; apply jI; exact eP rfl; refine jT rfl rfl rfl ?_; refine jw rfl ?_; refine jT rfl rfl rfl ?_; refine jm ?_; refine jn rfl ?_; refine jT rfl rfl rfl ?_; refine jm ?_; refine jn rfl ?_; refine jT rfl rfl rfl ?_; refine jN rfl rfl rfl ?_; refine jT rfl rfl rfl ?_; apply jI; exact eI rfl; refine jT rfl rfl rfl ?_; apply jI; exact eI rfl; refine jT rfl rfl rfl ?_; refine jZ rfl rfl (by omega) ?_; refine jT rfl rfl rfl ?_)
        (refine jjP (v := .int _ _) rfl (by exact rfl) (by exact rfl) (by exact rfl) (by exact rfl) ?_; intro b40 w_b40 hb_b40 hs_b40 hS_b40 hk_b40; have hR_b40 := RowV.one (agg := false) (k := 1) rfl hk_b40)
        (((refine jT rfl rfl rfl ?_)); refine jjQ (in_galley 1 h _ [l[k] - prevD l k] _ hR_b40) rfl rfl ?_)
        rintro _ w3 hS3 rfl
        have est : stepB h bs l k = [l[k] - prevD l k].all (inB 1 h) := by rw [stepB, hgk, hmr]; simp [inB]
        repeat' (first|((first|apply jI|apply jJ|apply jK rfl); (first|exact eI rfl|exact eB rfl|exact eN rfl))|(refine jW ?_; refine jY rfl rfl (by omega) ?_)|refine jz ?_|(refine jjA ?_; (first|refine jjB ?_|refine jjC ?_|refine jjE ?_|refine jjF ?_|refine jjG ?_))|(refine jjA ?_; (refine jjO rfl ?_ ?_ <;> intro _))|refine jC rfl rfl rfl ⟨inferInstance, ?_⟩)
        · refine ⟨rfl, by ((refine Same.upd rfl ?_; refine Same.upd rfl ?_; refine Same.upd rfl ?_; refine Same.upd rfl ?_; refine Same.upd rfl ?_; refine Same.upd rfl ?_; refine Same.upd rfl ?_; refine Same.upd rfl ?_; refine Same.upd rfl ?_; refine Same.upd rfl ?_; refine Same.upd rfl ?_; refine Same.upd rfl ?_; refine Same.upd rfl ?_; refine Same.upd rfl ?_; refine Same.upd rfl ?_; refine Same.upd rfl ?_; refine Same.upd rfl ?_; refine Same.upd rfl ?_; refine Same.upd rfl ?_; refine Same.upd rfl ?_; refine Same.upd rfl ?_; refine Same.upd rfl ?_; refine Same.upd rfl ?_; refine Same.upd rfl ?_; refine Same.upd rfl ?_; refine Same.upd rfl ?_; refine Same.upd rfl ?_; refine Same.upd rfl ?_; exact Same.ovN)), l.length - (k + 1), by omega, inferInstance, k + 1, rfl, congrArg (Value.int .i64) (by simp only [prevD]; exact hgk.symm), rfl, by omega, fun j hj => ?_⟩
          by_cases e : j = k
          · subst e; rw [est]; assumption
          · exact hpre j (by omega)
        · have e := hbad k hk' (by rw [est]; assumption)
          rw [e]
          exact .inl ⟨by decide, rfl⟩
      · rw [decide_eq_false hm]
        have e := hbad k hk' (by
          have : mayR l[k] 0 bs = false := by
            cases hq : mayR l[k] 0 bs
            · rfl
            · exact absurd ((mem_endsF hs.1 _).2 hq) hm
          rw [stepB, hgk, this]; rfl)
        (apply jI; exact eB rfl; refine jU rfl rfl rfl rfl ?_; refine jU rfl rfl rfl rfl ?_; refine jU rfl rfl rfl rfl ?_; refine jU rfl rfl rfl rfl ?_; refine jU rfl rfl rfl rfl ?_; refine jU rfl rfl rfl rfl ?_; refine jU rfl rfl rfl rfl ?_; refine jU rfl rfl rfl rfl ?_; refine jU rfl rfl rfl rfl ?_; refine jU rfl rfl rfl rfl ?_; apply jL rfl; exact eB rfl; refine jz ?_; refine jjK rfl ?_; refine jjG ?_; refine jjB ?_; refine jjC ?_; apply jJ; exact eN rfl; apply jJ; exact eI rfl; refine jz ?_; refine jjF ?_; refine jC rfl rfl rfl ⟨inferInstance, ?_⟩)
        rw [e]
        exact .inl ⟨by decide, rfl⟩
    · have hke : k = l.length := by omega
      subst hke
      have e : brkE h bs l = 81 := by simp [brkE, hg, valid_end ‹_›]
      rw [e]
      exact .inl ⟨by decide, rfl⟩
    · have hke : k = l.length := by omega
      subst hke
      have hv : validB h bs l = true := valid_yes (fun j hj => hpre j hj) (Decidable.not_not.1 ‹_›)
      have e : brkE h bs l = 0 := by simp [brkE, hg, hv]
      exact .inr ⟨e, hg, hv, pf, mb, rfl, by omega, by omega, h3.ext hS.ext⟩

def wasteS (h : Int) (bs : List Blk) (l : List Int) : Int := if brkE h bs l = 0 then wasteP h (sumL bs) l l.length else 0
theorem Waste_galley (hll : l.length ≤ 100000) (hrow : RowV w true 2 (.slice a bs.length c) (bs.map encB)) (hbs : ∀ b ∈ bs, b.1.size ≤ 140737488351232) (htorn : At w 1 0 tornC) [hl : RowI w (.slice la l.length lc) false 1 (l.map intV)] :
    Ct Tryz.prog 22 [.agg #[.int .i64 h, .slice a bs.length c], .slice la l.length lc] w fun v _ => v = .tuple #[.int .i64 (wasteS h bs l), .int .i64 (brkE h bs l)] := by
  refine Ct.ofW (by simp) ?_
  (refine jjB ?_; refine jjC ?_)
  (refine jy rfl ?_; intro b1 w_b1 hb_b1 hs_b1 hS_b1 hk_b1; have hA_b1 := At.ofBlock hk_b1)
  (((apply jJ; exact eI rfl; apply jJ; exact eI rfl; refine jz ?_; refine jjB ?_; refine jjC ?_; refine jO rfl rfl rfl rfl ?_; apply jI; exact eS rfl)); refine jjQ (broken_galley h a c bs la lc l _ (hrow.ext inferInstance) hbs (htorn.ext inferInstance)) rfl rfl ?_)
  rintro _ w2 hS2 (⟨he, rfl⟩ | ⟨he, hg, hv, pf, mb, rfl, h1, h2, h3⟩)
  · repeat' (first|((first|apply jI|apply jJ); (first|exact eI rfl|exact eS rfl|exact eU rfl|exact eN rfl))|(refine jW ?_; refine jc rfl rfl ?_)|(refine jg ?_; refine jh rfl ?_)|refine ju rfl rfl ?_|refine jz ?_|(refine jjA ?_; (first|refine jjB ?_|refine jjC ?_|refine jjD ?_|refine jjF ?_|refine jjG ?_))|(refine jjA ?_; (refine jjN rfl ?_ ?_ <;> intro _))|refine jC rfl rfl rfl ⟨inferInstance, ?_⟩)
    · rw [wasteS, if_neg he]; exact rfl
    · exact absurd (Decidable.not_not.1 ‹_›) he
  · have hs := galleyB_spec hg
    have hfr := h3.frm
    rw [lz hs.1 hs.2.1] at hfr
    have hsl := sumL_le hs.1
    have V := validI hs.1 hv
    have hbd : ∀ k, k < l.length → 0 ≤ l.getD k 0 ∧ l.getD k 0 ≤ 1000 := fun k hk => by have := V.step k hk; omega
    (apply jI; exact eU rfl; refine ju rfl rfl ?_; refine ju rfl rfl ?_; apply jJ; exact eP rfl; apply jJ; exact eI rfl; refine jz ?_; refine jjB ?_; refine jjB ?_; refine jjC ?_; apply jI; exact eI rfl; refine jc rfl rfl ?_; refine jz ?_; refine jjK rfl ?_; refine jjG ?_; refine jjB ?_; refine jjC ?_; apply jJ; exact eI rfl; apply jJ; exact eI rfl; refine jz ?_; refine jjB ?_; refine jjB ?_; refine jjC ?_; apply jI; exact eS rfl; refine jh rfl ?_; apply jI; exact eI rfl; refine jz ?_; refine jjD ?_)
    refine W.loop (24 :: 25 :: 26 :: 11 :: 27 :: 28 :: 29 :: 30 :: 31 :: 32 :: 8 :: 33 :: 9 :: 34 :: 23 :: []) (fun g s' _ => ∃ k : Nat, s' 23 = .int .i64 k ∧ s' 9 = .int .i64 (prevD l k) ∧ s' 8 = .int .i64 (wasteP h (sumL bs) l k) ∧ g = l.length - k ∧ k ≤ l.length) l.length ⟨0, rfl, rfl, rfl, rfl, Nat.zero_le _⟩ ?_
    rintro _ d w' hS ⟨k, h23, h9, h8, rfl, hk⟩
    refine W.fix h23 (W.fix (d := 9) h9 (W.fix (d := 8) h8 ?_))
    clear h23 h9 h8
    have hwb := wasteP_bound (h := h) (tot := sumL bs) (by omega) hbd k hk
    repeat' (first|((first|apply jI|apply jJ); (first|exact eI rfl|exact eP rfl))|(refine jM ?_; refine jQ rfl rfl ?_)|(refine jW ?_; refine jX rfl rfl ?_)|(refine jE ?_; (refine jF rfl rfl rfl (map_get (by omega)) ?_; intro _ _ _))|refine jz ?_|(refine jjA ?_; (first|refine jjB ?_|refine jjC ?_|refine jjD ?_|refine jjE ?_|refine jjF ?_|refine jjG ?_))|(refine jjA ?_; (refine jjN rfl ?_ ?_ <;> intro _))|refine jC rfl rfl rfl ⟨inferInstance, ?_⟩)
    · have hk' : k < l.length := by omega
      have hgk := getD_lt hk'
      have hp := V.prev hsl.1 k hk
      have hlk := hbd k hk'
      have hcw := colW_bound (h := h) (tot := sumL bs) (frm := prevD l k) (to := l.getD k 0) (by omega) (by omega) (by omega)
      rw [← hgk]
      refine jjQ (column_galley pf h (sumL bs) (.slice a bs.length c) (.map (some mb)) (prevD l k) (l.getD k 0) _ (by omega) (by omega) (by omega)) rfl rfl ?_
      rintro _ w3 hS3 rfl
      (refine jY rfl rfl (by omega) ?_; apply jJ; exact eI rfl; refine jz ?_; refine jjC ?_; apply jI; exact eI rfl; apply jJ; exact eI rfl; refine jz ?_; refine jjC ?_; refine jY rfl rfl (by omega) ?_; apply jI; exact eI rfl; refine jz ?_)
      exact ⟨rfl, by ((refine Same.upd rfl ?_; refine Same.upd rfl ?_; refine Same.upd rfl ?_; refine Same.upd rfl ?_; refine Same.upd rfl ?_; refine Same.upd rfl ?_; refine Same.upd rfl ?_; refine Same.upd rfl ?_; refine Same.upd rfl ?_; refine Same.upd rfl ?_; refine Same.upd rfl ?_; refine Same.upd rfl ?_; refine Same.upd rfl ?_; refine Same.upd rfl ?_; refine Same.upd rfl ?_; refine Same.upd rfl ?_; refine Same.upd rfl ?_; refine Same.upd rfl ?_; exact Same.ovN)), l.length - (k + 1), by omega, inferInstance, k + 1, rfl, rfl, rfl, rfl, by omega⟩
    · have hke : k = l.length := by omega
      subst hke
      rw [wasteS, if_pos he, he]
      exact rfl
end
end Go.Proofs.YtfebegbjggoijaaGreatDoor

/- slices.BinarySearch (of int); galley: at, At. -/
namespace Go.Proofs.YtfebegbjggoijaaGreatDoor
open Go.RowKit

theorem isNaN_slices (x : Int) (w : World) : Ct Tryz.prog 103 [.int .i64 x] w fun v _ => v = .bool false := by
  refine Ct.ofW (by simp) ?_
  (refine jjB ?_; refine jjC ?_; apply jJ; exact eB rfl; refine jz ?_; refine jjB ?_; refine jjC ?_; apply jI; exact eI rfl; apply jI; exact eI rfl; refine jc rfl rfl ?_; apply jJ; exact eB rfl; refine jz ?_; refine jjF ?_; refine jB rfl rfl ⟨inferInstance, ?_⟩)
  exact congrArg Value.bool (by simp)
theorem Less_int (x y : Int) (w : World) : Ct Tryz.prog 102 [.int .i64 x, .int .i64 y] w fun v _ => v = .bool (decide (x < y)) := by
  refine Ct.ofW (by simp) ?_
  (refine jjB ?_; refine jjC ?_; apply jJ; exact eB rfl; refine jz ?_; refine jjB ?_; refine jjC ?_; apply jI; exact eI rfl)
  refine jjQ (isNaN_cmp x _) rfl rfl ?_
  rintro _ w2 hS2 rfl
  (apply jI; exact eB rfl; refine jU rfl rfl rfl rfl ?_; refine jU rfl rfl rfl rfl ?_; refine jU rfl rfl rfl rfl ?_; apply jL rfl; exact eB rfl; apply jI; exact eB rfl; refine jT rfl rfl rfl ?_; apply jI; exact eI rfl; refine jT rfl rfl rfl ?_; apply jI; exact eI rfl; refine jT rfl rfl rfl ?_; refine jX rfl rfl ?_; apply jL rfl; exact eB rfl; apply jJ; exact eB rfl; refine jz ?_; refine jjF ?_; refine jB rfl rfl ⟨inferInstance, ?_⟩)
  exact rfl

theorem BinarySearch_int (la : Option Addr) (lc : Nat) (l : List Int) (t : Int) (w : World) (hll : l.length ≤ 1000000) (hup : ∀ j i, i < j → j < l.length → l.getD i 0 < l.getD j 0) [hl : RowI w (.slice la l.length lc) false 1 (l.map intV)] :
    Ct Tryz.prog 86 [.slice la l.length lc, .int .i64 t] w fun v _ => ∃ b, v = .tuple #[.int .i64 ((standF l (t - 1) : Nat) : Int), .bool b] := by
  refine Ct.ofW (by simp) ?_
  (refine jjB ?_; refine jjC ?_; apply jJ; exact eI rfl; apply jJ; exact eB rfl; refine jz ?_; refine jjB ?_; refine jjC ?_; apply jI; exact eS rfl; refine jh rfl ?_; apply jJ; exact eI rfl; refine jz ?_; refine jjB ?_; refine jjC ?_; apply jI; exact eI rfl; apply jJ; exact eI rfl; apply jJ; exact eI rfl; refine jz ?_; refine jjB ?_; refine jjD ?_)
  refine W.loop (13 :: 14 :: 15 :: 16 :: 17 :: 18 :: 19 :: 20 :: 21 :: 9 :: 22 :: 23 :: 24 :: 25 :: 26 :: 27 :: 28 :: 29 :: 7 :: 30 :: 8 :: []) (fun g s' _ => ∃ lo hi : Nat, s' 7 = .int .i64 lo ∧ s' 8 = .int .i64 hi ∧ g = hi - lo ∧ lo ≤ hi ∧ hi ≤ l.length ∧ (∀ j, j < lo → l.getD j 0 < t) ∧ (hi < l.length → t ≤ l.getD hi 0)) l.length ⟨0, l.length, rfl, rfl, rfl, Nat.zero_le _, Nat.le_refl _, by intros; omega, by intros; omega⟩ ?_
  rintro _ d w' hS ⟨lo, hi, h7, h8, rfl, hlo, hhi, hp, hq⟩
  refine W.fix h7 (W.fix (d := 8) h8 ?_)
  clear h7 h8
  repeat' (first|((first|apply jI|apply jJ|apply jK rfl|apply jL rfl); (first|exact eI rfl|exact eB rfl|exact eS rfl))|(refine jM ?_; refine jQ rfl rfl ?_)|(refine jS ?_; (first|refine jT rfl rfl rfl ?_|refine jU rfl rfl rfl rfl ?_|refine jV rfl rfl ?_))|(refine jW ?_; (first|refine jX rfl rfl ?_|refine jY rfl rfl (by omega) ?_|refine jb rfl rfl ?_))|(refine jE ?_; (refine jF rfl rfl rfl (map_get (by omega)) ?_; intro _ _ _))|refine jz ?_|(refine jjA ?_; (first|refine jjB ?_|refine jjC ?_|refine jjD ?_|refine jjE ?_|refine jjF ?_|refine jjG ?_))|(refine jS ?_; (refine jjL rfl rfl ?_ ?_ <;> intro _))|(refine jjA ?_; (refine jjN rfl ?_ ?_ <;> intro _))|refine jC rfl rfl rfl ⟨inferInstance, ?_⟩)
  · refine Ops.convI rfl rfl (wrap64 (by omega) (by omega)) ?_
    refine Ops.half (a := lo + hi) rfl (by omega) rfl ?_
    refine Ops.convI rfl rfl (wrapi (by omega) (by omega)) ?_
    have hm1 : lo ≤ (lo + hi) / 2 := by omega
    have hm2 : (lo + hi) / 2 < hi := by omega
    generalize (lo + hi) / 2 = mid at *
    have hml : mid < l.length := by omega
    have hgm := getD_lt hml
    (apply jJ; exact eI rfl; refine jz ?_; refine jjB ?_; refine jjC ?_; apply jI; exact eS rfl; apply jI; exact eI rfl; refine jF rfl rfl rfl (map_get (by omega)) ?_; intro _ _ _; refine jQ rfl rfl ?_; apply jI; exact eI rfl)
    refine jjQ (Less_int l[mid] t _) rfl rfl ?_
    rintro _ w2 hS2 rfl
    repeat' (first|((first|apply jI|apply jJ); exact eI rfl)|(refine jW ?_; refine jY rfl rfl (by omega) ?_)|refine jz ?_|(refine jjA ?_; refine jjC ?_)|(refine jjA ?_; (refine jjN rfl ?_ ?_ <;> intro _)))
    · refine ⟨rfl, by ((refine Same.upd rfl ?_; refine Same.upd rfl ?_; refine Same.upd rfl ?_; refine Same.upd rfl ?_; refine Same.upd rfl ?_; refine Same.upd rfl ?_; refine Same.upd rfl ?_; refine Same.upd rfl ?_; refine Same.upd rfl ?_; refine Same.upd rfl ?_; refine Same.upd rfl ?_; refine Same.upd rfl ?_; refine Same.upd rfl ?_; refine Same.upd rfl ?_; refine Same.upd rfl ?_; refine Same.upd rfl ?_; refine Same.upd rfl ?_; refine Same.upd rfl ?_; refine Same.upd rfl ?_; refine Same.upd rfl ?_; refine Same.upd rfl ?_; exact Same.ovN)), hi - (mid + 1), by omega, inferInstance, mid + 1, hi, rfl, rfl, rfl, by omega, hhi, fun j hj => ?_, hq⟩
      by_cases e : j = mid
      · subst e; rw [hgm]; assumption
      · have := hup mid j (by omega) hml
        rw [hgm] at this
        omega
    · refine ⟨rfl, by ((refine Same.upd rfl ?_; refine Same.upd rfl ?_; refine Same.upd rfl ?_; refine Same.upd rfl ?_; refine Same.upd rfl ?_; refine Same.upd rfl ?_; refine Same.upd rfl ?_; refine Same.upd rfl ?_; refine Same.upd rfl ?_; refine Same.upd rfl ?_; refine Same.upd rfl ?_; refine Same.upd rfl ?_; refine Same.upd rfl ?_; refine Same.upd rfl ?_; refine Same.upd rfl ?_; refine Same.upd rfl ?_; refine Same.upd rfl ?_; refine Same.upd rfl ?_; refine Same.upd rfl ?_; refine Same.upd rfl ?_; exact Same.ovN)), mid - lo, by omega, inferInstance, lo, mid, rfl, rfl, rfl, hm1, by omega, hp, fun _ => ?_⟩
      rw [hgm]; omega
  all_goals
    have hlh : lo = hi := by omega
    subst hlh
    have hst : standF l (t - 1) = lo := standF_of hhi (fun j hj => by have := hp j hj; omega) (fun h => by have := hq h; omega)
    rw [hst]
  · exact ⟨_, rfl⟩
  · refine jjQ (isNaN_slices _ _) rfl rfl ?_
    rintro _ w2 hS2 rfl
    (refine jT rfl rfl rfl ?_; apply jI; exact eB rfl; refine jU rfl rfl rfl rfl ?_; refine jU rfl rfl rfl rfl ?_; refine jT rfl rfl rfl ?_; apply jL rfl; exact eB rfl; refine jT rfl rfl rfl ?_; apply jL rfl; exact eB rfl; apply jK rfl; exact eB rfl; apply jJ; exact eI rfl; apply jJ; exact eB rfl; refine jz ?_; refine jjF ?_; refine jC rfl rfl rfl ⟨inferInstance, ?_⟩)
    exact ⟨_, rfl⟩
  · exact ⟨_, rfl⟩

section
variable (h : Int) (a : Option Addr) (c : Nat) (bs : List Blk) (la : Option Addr) (lc : Nat) (l : List Int) (w : World)
theorem at_galley (line : Int) (hll : l.length ≤ 1000000) (hup : ∀ j i, i < j → j < l.length → l.getD i 0 < l.getD j 0) (hln : -1000000 ≤ line ∧ line ≤ 1000000) [hl : RowI w (.slice la l.length lc) false 1 (l.map intV)] :
    Ct Tryz.prog 56 [.slice la l.length lc, .int .i64 line] w fun v _ => v = .int .i64 ((standF l line : Nat) : Int) := by
  refine Ct.ofW (by simp) ?_
  (refine jjB ?_; refine jjC ?_; apply jJ; exact eI rfl; refine jz ?_; refine jjB ?_; refine jjC ?_; apply jI; exact eS rfl; apply jI; exact eI rfl; refine jY rfl rfl (by omega) ?_)
  refine jjQ (BinarySearch_int la lc l (line + 1) _ hll hup) rfl rfl ?_
  rintro _ w2 hS2 ⟨b, rfl⟩
  rw [show line + 1 - 1 = line from by omega]
  (apply jI; exact eU rfl; refine ju rfl rfl ?_; refine ju rfl rfl ?_; apply jJ; exact eI rfl; apply jJ; exact eB rfl; refine jz ?_; refine jjB ?_; refine jjC ?_; apply jI; exact eI rfl; apply jJ; exact eI rfl; refine jz ?_; refine jjF ?_; refine jB rfl rfl ⟨inferInstance, ?_⟩)
  exact rfl

def atS (h : Int) (bs : List Blk) (l : List Int) (line : Int) : Int × Int × Int :=
  if brkE h bs l = 0 then (if 0 ≤ line ∧ line ≤ sumL bs - 1 then ((standF l line : Int), line - prevD l (standF l line), 0) else (0, 0, 2)) else (0, 0, brkE h bs l)
def v3 (p : Int × Int × Int) : Value := .tuple #[.int .i64 p.1, .int .i64 p.2.1, .int .i64 p.2.2]
theorem at_err {h : Int} {bs : List Blk} {l : List Int} {line : Int} (he : brkE h bs l ≠ 0) : atS h bs l line = (0, 0, brkE h bs l) := by rw [atS, if_neg he]
theorem at_arg {h : Int} {bs : List Blk} {l : List Int} {line : Int} (he : brkE h bs l = 0) (hn : ¬ (0 ≤ line ∧ line ≤ sumL bs - 1)) : atS h bs l line = (0, 0, 2) := by rw [atS, if_pos he, if_neg hn]
theorem at_ok {h : Int} {bs : List Blk} {l : List Int} {line : Int} (he : brkE h bs l = 0) (hn : 0 ≤ line ∧ line ≤ sumL bs - 1) : atS h bs l line = ((standF l line : Int), line - prevD l (standF l line), 0) := by rw [atS, if_pos he, if_pos hn]
theorem in_1 {lo hi x : Int} : [x].all (inB lo hi) = decide (lo ≤ x ∧ x ≤ hi) := by simp only [List.all_cons, List.all_nil, Bool.and_true, inB]

theorem At_galley (line : Int) (hll : l.length ≤ 100000) (hrow : RowV w true 2 (.slice a bs.length c) (bs.map encB)) (hbs : ∀ b ∈ bs, b.1.size ≤ 140737488351232) (htorn : At w 1 0 tornC) [hl : RowI w (.slice la l.length lc) false 1 (l.map intV)] :
    Ct Tryz.prog 19 [.agg #[.int .i64 h, .slice a bs.length c], .slice la l.length lc, .int .i64 line] w fun v _ => v = v3 (atS h bs l line) := by
  refine Ct.ofW (by simp) ?_
  (refine jjB ?_; refine jjC ?_)
  (refine jy rfl ?_; intro b1 w_b1 hb_b1 hs_b1 hS_b1 hk_b1; have hA_b1 := At.ofBlock hk_b1)
  (apply jJ; exact eI rfl; apply jJ; exact eI rfl; apply jJ; exact eI rfl; refine jz ?_; refine jjB ?_; refine jjC ?_; refine jO rfl rfl rfl rfl ?_; apply jI; exact eS rfl)
  refine jjQ (broken_galley h a c bs la lc l _ (hrow.ext inferInstance) hbs (htorn.ext inferInstance)) rfl rfl ?_
  rintro _ w2 hS2 (⟨he, rfl⟩ | ⟨he, hg, hv, pf, mb, rfl, h1, h2, h3⟩)
  · repeat' (first|((first|apply jI|apply jJ); (first|exact eI rfl|exact eU rfl|exact eN rfl))|(refine jW ?_; refine jc rfl rfl ?_)|refine ju rfl rfl ?_|refine jz ?_|(refine jjA ?_; (first|refine jjB ?_|refine jjC ?_|refine jjF ?_|refine jjG ?_))|(refine jjA ?_; (refine jjN rfl ?_ ?_ <;> intro _))|refine jD rfl rfl rfl rfl ⟨inferInstance, ?_⟩)
    · rw [at_err he]; exact rfl
    · exact absurd (Decidable.not_not.1 ‹_›) he
  · have hs := galleyB_spec hg
    have hfr := h3.frm
    rw [lz hs.1 hs.2.1] at hfr
    have hsl := sumL_le hs.1
    have V := validI hs.1 hv
    (apply jI; exact eU rfl; refine ju rfl rfl ?_; refine ju rfl rfl ?_; apply jJ; exact eP rfl; apply jJ; exact eI rfl; refine jz ?_; refine jjB ?_; refine jjB ?_; refine jjC ?_; apply jI; exact eI rfl; refine jc rfl rfl ?_; refine jz ?_; refine jjK rfl ?_; refine jjG ?_; refine jjB ?_; refine jjB ?_; refine jjC ?_; apply jI; exact eP rfl; refine jw rfl ?_; refine jm ?_; refine jn rfl ?_; refine jN rfl rfl rfl ?_; refine jZ rfl rfl (by omega) ?_; apply jI; exact eI rfl)
    (refine jjP (v := .int _ _) rfl (by exact rfl) (by exact rfl) (by exact rfl) (by exact rfl) ?_; intro b25 w_b25 hb_b25 hs_b25 hS_b25 hk_b25; have hR_b25 := RowV.one (agg := false) (k := 1) rfl hk_b25)
    ((skip); refine jjQ (in_galley 0 (sumL bs - 1) _ [line] _ hR_b25) rfl rfl ?_)
    rintro _ w3 hS3 rfl
    rw [in_1]
    repeat' (first|((first|apply jI|apply jJ); (first|exact eI rfl|exact eS rfl))|(refine jo ?_; refine jr rfl ?_)|refine jz ?_|(refine jjA ?_; (first|refine jjB ?_|refine jjC ?_|refine jjF ?_|refine jjG ?_))|(refine jjA ?_; (refine jjN rfl ?_ ?_ <;> intro _))|refine jD rfl rfl rfl rfl ⟨inferInstance, ?_⟩)
    · rw [at_arg he ‹_›]; exact rfl
    · have hin := Decidable.not_not.1 ‹¬ ¬ (0 ≤ line ∧ line ≤ sumL bs - 1)›
      refine jjQ (at_galley la lc l _ line (by omega) V.up (by omega)) rfl rfl ?_
      rintro _ w4 hS4 rfl
      have hst := standF_le l line
      rw [at_ok he hin]
      repeat' (first|((first|apply jI|apply jJ); (first|exact eI rfl|exact eS rfl))|(refine jW ?_; (first|refine jZ rfl rfl (by omega) ?_|refine je rfl rfl ?_))|refine jz ?_|(refine jjA ?_; (first|refine jjB ?_|refine jjC ?_|refine jjF ?_|refine jjG ?_))|(refine jjA ?_; (refine jjN rfl ?_ ?_ <;> intro _))|refine jD rfl rfl rfl rfl ⟨inferInstance, ?_⟩)
      · have hq : standF l line - 1 < l.length := by omega
        have hgk := getD_lt hq
        have hpv : prevD l (standF l line) = l.getD (standF l line - 1) 0 := by
          obtain ⟨q, e⟩ : ∃ q, standF l line = q + 1 := ⟨standF l line - 1, by omega⟩
          rw [e]; rfl
        have hstp := V.step (standF l line - 1) hq
        refine jF (j := standF l line - 1) rfl rfl (by omega) (map_get hq) ?_
        intro _ _ _
        (refine jQ rfl rfl ?_; refine jZ rfl rfl (by omega) ?_; apply jJ; exact eI rfl; refine jz ?_; refine jjB ?_; refine jjC ?_; apply jI; exact eI rfl; apply jI; exact eI rfl; apply jJ; exact eI rfl; apply jJ; exact eI rfl; apply jJ; exact eI rfl; refine jz ?_; refine jjF ?_; refine jD rfl rfl rfl rfl ⟨inferInstance, ?_⟩)
        rw [hpv, hgk]
        exact rfl
      · have h0 : standF l line = 0 := by omega
        rw [h0]
        simp only [prevD, Int.sub_zero]
        exact rfl
end
end Go.Proofs.YtfebegbjggoijaaGreatDoor

/- galley: columns, Columns, Torn. -/
namespace Go.Proofs.YtfebegbjggoijaaGreatDoor
open Go.RowKit

theorem linesL_get {bs : List Blk} {k : Nat} (hk : k < bs.length) : linesL bs k = bs[k].2 := by simp [linesL, List.getD_eq_getElem?_getD, hk]

section
variable (h : Int) (a : Option Addr) (c : Nat) (bs : List Blk) (la : Option Addr) (lc : Nat) (l : List Int) (w : World)
theorem columns_galley (pf : Nat) (tot : Int) (mp : Value) (k : Nat) (hk : k < bs.length) (hb : ∀ b ∈ bs, 1 ≤ b.2 ∧ b.2 ≤ 20) (hbl : bs.length ≤ 1000) (hll : l.length ≤ 1000000) (hup : ∀ j i, i < j → j < l.length → l.getD i 0 < l.getD j 0)
    [hB : At w pf 0 [.int .i64 h, .slice a bs.length c, .int .i64 tot, mp]] [hrow : RowI w (.slice a bs.length c) true 2 (bs.map encB)] [hl : RowI w (.slice la l.length lc) false 1 (l.map intV)] :
    Ct Tryz.prog 55 [.pointer (some ⟨pf, 0, none⟩), .slice la l.length lc, .int .i64 k] w fun v _ => v = .tuple #[.int .i64 ((colF bs l k : Nat) : Int), .int .i64 ((colT bs l k : Nat) : Int)] := by
  have hsk := sumL_pre0 hb hbl
  have hlk := hb bs[k] (List.getElem_mem hk)
  refine Ct.ofW (by simp) ?_
  (refine jjB ?_; refine jjC ?_; apply jJ; exact eI rfl; apply jJ; exact eI rfl; refine jz ?_; refine jjB ?_; refine jjC ?_; apply jJ; exact eI rfl; refine jz ?_; refine jjB ?_; refine jjB ?_; refine jjC ?_; apply jI; exact eP rfl; refine jw rfl ?_; refine jm ?_; refine jn rfl ?_; refine jm ?_; refine jn rfl ?_; refine jN rfl rfl rfl ?_; apply jI; exact eI rfl)
  refine Ops.sliceH hrow.h rfl rfl rfl (by simp; omega) ?_
  rintro _ hRk ⟨ak, ck, rfl⟩
  rw [← List.map_take] at hRk
  have hIk := RowI.mk hRk
  have hlt : (bs.take k).length = k := by simp; omega
  (refine jh rfl ?_; apply jI; exact eI rfl; refine jz ?_; refine jjD ?_)
  refine W.keep0 [(0, _), (1, _), (2, _), (8, _), (17, _), (18, _), (19, _)] ⟨eP rfl, eS rfl, eI rfl, eI rfl, eS rfl, eI rfl, eI rfl, trivial⟩ fun s0 => ?_
  refine W.loop (20 :: 21 :: 22 :: 10 :: 23 :: 24 :: 25 :: 26 :: 8 :: 27 :: 19 :: []) (fun g s' _ => ∃ j : Nat, s' 19 = .int .i64 j ∧ s' 8 = .int .i64 (sumL (bs.take j)) ∧ g = k - j ∧ j ≤ k) k ⟨0, rfl, rfl, rfl, Nat.zero_le _⟩ ?_
  rintro _ d w' hS ⟨j, h19, h8, rfl, hj⟩
  refine W.fix h19 (W.fix (d := 8) h8 ?_)
  clear h19 h8
  have hsj := hsk j
  repeat' (first|(refine jM ?_; refine jQ rfl rfl ?_)|(refine jW ?_; refine jX rfl rfl ?_)|(refine jE ?_; (refine jF rfl rfl rfl (map_get (by omega)) ?_; intro _ _ _))|refine jz ?_|(refine jjA ?_; (first|refine jjB ?_|refine jjC ?_|refine jjD ?_|refine jjE ?_|refine jjG ?_))|(refine jjA ?_; (refine jjN rfl ?_ ?_ <;> intro _)))
  · have hj' : j < k := by omega
    have hjb : j < bs.length := by omega
    have e : (bs.take k)[j]'(by omega) = bs[j] := by simp
    have hlj := hb bs[j] (List.getElem_mem hjb)
    rw [e]
    (apply jjR rfl; (intro _; first|exact eI rfl|exact eB rfl|exact eP rfl|exact eS rfl|exact eT rfl|exact eA rfl|exact eU rfl|exact eF rfl|exact eM rfl|exact eN rfl|exact rfl); exact rfl; exact rfl; exact rfl; exact rfl; intro b10 w_b10 hb_b10 hs_b10 hS_b10 hk_b10; have hA_b10 := Bk.of hk_b10)
    (refine jz ?_; refine jjC ?_; apply jI; exact eI rfl; refine jm ?_; refine jn rfl ?_; refine jN rfl rfl rfl ?_; refine jY rfl rfl (by omega) ?_; apply jJ; exact eI rfl; refine jz ?_; refine jjC ?_; refine jY rfl rfl (by omega) ?_; apply jI; exact eI rfl; refine jz ?_)
    exact ⟨rfl, by ((refine Same.upd rfl ?_; refine Same.upd rfl ?_; refine Same.upd rfl ?_; refine Same.upd rfl ?_; refine Same.upd rfl ?_; refine Same.upd rfl ?_; refine Same.upd rfl ?_; refine Same.upd rfl ?_; refine Same.upd rfl ?_; refine Same.upd rfl ?_; refine Same.upd rfl ?_; refine Same.upd rfl ?_; refine Same.upd rfl ?_; exact Same.ovN)), k - (j + 1), by omega, inferInstance, j + 1, rfl, congrArg (Value.int .i64) (sumL_take_succ hjb).symm, rfl, by omega⟩
  · have hjk : j = k := by omega
    subst hjk
    refine W.draw (fun w'' => Ext w' w'') ?_
    intro V1 hS1
    obtain ⟨q1, o1, rfl, hA1⟩ := (hrow.h.ext hS.ext).place' (map_get hk)
    refine jjV [0, 1, 3, 4, 5, 6, 7, 8, 9, 10, 11, 12, 13, 14, 15] (by decide +kernel) hS1.ext ?_
    (((apply jjT; exact rfl; rintro w' hq; have := hq.toStep; apply jI; exact eS rfl; refine jz ?_; exact ⟨rfl, rfl⟩; apply jjT; exact rfl; rintro w' hq; have := hq.toStep; apply jI; exact eI rfl; refine jz ?_; exact ⟨rfl, rfl⟩; apply jjT; exact rfl; rintro w' hq; have := hq.toStep; apply jI; exact eS rfl; refine jz ?_; exact ⟨rfl, rfl⟩; apply jjT; exact rfl; rintro w' hq; have := hq.toStep; apply jI; exact eI rfl; refine jz ?_; exact ⟨rfl, rfl⟩; apply jjT; exact rfl; rintro w' hq; have := hq.toStep; apply jI; exact eP rfl; refine jz ?_; exact ⟨rfl, rfl⟩; apply jjT; exact rfl; rintro w' hq; have := hq.toStep; refine jw rfl ?_; refine jz ?_; exact ⟨rfl, rfl⟩; apply jjT; exact rfl; rintro w' hq; have := hq.toStep; refine jm ?_; refine jn rfl ?_; refine jz ?_; exact ⟨rfl, rfl⟩; apply jjT; exact rfl; rintro w' hq; have := hq.toStep; refine jm ?_; refine jn rfl ?_; refine jz ?_; exact ⟨rfl, rfl⟩; apply jjT; exact rfl; rintro w' hq; have := hq.toStep; refine jN rfl rfl rfl ?_; refine jz ?_; exact ⟨rfl, rfl⟩; apply jjT; exact rfl; rintro w' hq; have := hq.toStep; apply jI; exact eI rfl; refine jz ?_; exact ⟨rfl, rfl⟩; apply jjT; exact rfl; rintro w' hq; have := hq.toStep; refine jH _ rfl rfl rfl (by omega) ?_; refine jz ?_; exact ⟨rfl, rfl⟩; apply jjT; exact rfl; rintro w' hq; have := hq.toStep; refine jm ?_; refine jn rfl ?_; refine jz ?_; exact ⟨rfl, rfl⟩; apply jjT; exact rfl; rintro w' hq; have := hq.toStep; refine jP rfl rfl rfl ?_; refine jz ?_; exact ⟨rfl, rfl⟩; apply jjT; exact rfl; rintro w' hq; have := hq.toStep; refine jY rfl rfl (by omega) ?_; refine jz ?_; exact ⟨rfl, rfl⟩; apply jjT; exact rfl; rintro w' hq; have := hq.toStep; refine jZ rfl rfl (by omega) ?_; refine jz ?_; exact ⟨rfl, rfl⟩; refine jjU ?_)))
    apply jjW 2 (by decide +kernel) rfl hS1.ext
    refine jjQ (at_galley la lc l _ (sumL (bs.take j)) hll hup (by omega)) rfl rfl ?_
    rintro _ V2 hS2 rfl
    have hE2 := hS1.ext.trans hS2.ext
    refine jz ?_
    apply jjW 16 (by decide +kernel) rfl hE2
    refine jjQ (at_galley la lc l _ (sumL (bs.take j) + bs[j].2 - 1) hll hup (by omega)) rfl rfl ?_
    rintro _ V3 hS3 rfl
    have hE3 := hE2.trans hS3.ext
    refine jz ?_
    refine jjV [17, 18] (by decide +kernel) hE3 ?_
    (((apply jjT; exact rfl; rintro w' hq; have := hq.toStep; apply jJ; exact eI rfl; refine jz ?_; exact ⟨rfl, rfl⟩; apply jjT; exact rfl; rintro w' hq; have := hq.toStep; apply jJ; exact eI rfl; refine jz ?_; exact ⟨rfl, rfl⟩; refine jjU ?_)))
    refine jjX (by decide +kernel) hE3 ?_
    (refine jjF ?_; refine jC rfl rfl rfl ⟨inferInstance, ?_⟩)
    rw [colF, colT, linesL_get hk]
    exact rfl

def colS (h : Int) (bs : List Blk) (l : List Int) (k : Int) : Int × Int × Int :=
  if brkE h bs l = 0 then (if 0 ≤ k ∧ k ≤ bs.length - 1 then ((colF bs l k.toNat : Int), (colT bs l k.toNat : Int), 0) else (0, 0, 2)) else (0, 0, brkE h bs l)
theorem col_err {h : Int} {bs : List Blk} {l : List Int} {k : Int} (he : brkE h bs l ≠ 0) : colS h bs l k = (0, 0, brkE h bs l) := by rw [colS, if_neg he]
theorem col_arg {h : Int} {bs : List Blk} {l : List Int} {k : Int} (he : brkE h bs l = 0) (hn : ¬ (0 ≤ k ∧ k ≤ (bs.length : Int) - 1)) : colS h bs l k = (0, 0, 2) := by rw [colS, if_pos he, if_neg hn]
theorem col_ok {h : Int} {bs : List Blk} {l : List Int} {k : Nat} (he : brkE h bs l = 0) (hn : k < bs.length) : colS h bs l k = ((colF bs l k : Int), (colT bs l k : Int), 0) := by
  rw [colS, if_pos he, if_pos (by omega), Int.toNat_natCast]

theorem Columns_galley (k : Int) (hll : l.length ≤ 100000) (hrow : RowV w true 2 (.slice a bs.length c) (bs.map encB)) (hbs : ∀ b ∈ bs, b.1.size ≤ 140737488351232) (htorn : At w 1 0 tornC) [hl : RowI w (.slice la l.length lc) false 1 (l.map intV)] :
    Ct Tryz.prog 18 [.agg #[.int .i64 h, .slice a bs.length c], .slice la l.length lc, .int .i64 k] w fun v _ => v = v3 (colS h bs l k) := by
  have hrowI := RowI.mk hrow
  refine Ct.ofW (by simp) ?_
  (refine jjB ?_; refine jjC ?_)
  (refine jy rfl ?_; intro b1 w_b1 hb_b1 hs_b1 hS_b1 hk_b1; have hA_b1 := At.ofBlock hk_b1)
  (apply jJ; exact eI rfl; apply jJ; exact eI rfl; apply jJ; exact eI rfl; refine jz ?_; refine jjB ?_; refine jjC ?_; refine jO rfl rfl rfl rfl ?_; apply jI; exact eS rfl)
  refine jjQ (broken_galley h a c bs la lc l _ (hrow.ext inferInstance) hbs (htorn.ext inferInstance)) rfl rfl ?_
  rintro _ w2 hS2 (⟨he, rfl⟩ | ⟨he, hg, hv, pf, mb, rfl, h1, h2, h3⟩)
  · repeat' (first|((first|apply jI|apply jJ); (first|exact eI rfl|exact eU rfl|exact eN rfl))|(refine jM ?_; refine jN rfl rfl rfl ?_)|(refine jW ?_; (first|refine jZ rfl rfl (by omega) ?_|refine jc rfl rfl ?_))|(refine jg ?_; refine jh rfl ?_)|(refine jm ?_; refine jn rfl ?_)|refine ju rfl rfl ?_|refine jz ?_|(refine jjA ?_; (first|refine jjB ?_|refine jjC ?_|refine jjF ?_|refine jjG ?_))|(refine jjA ?_; (refine jjN rfl ?_ ?_ <;> intro _))|refine jD rfl rfl rfl rfl ⟨inferInstance, ?_⟩)
    · rw [col_err he]; exact rfl
    · exact absurd (Decidable.not_not.1 ‹_›) he
  · have hs := galleyB_spec hg
    have hfr := h3.frm
    have hsl := sumL_le hs.1
    have V := validI hs.1 hv
    (apply jI; exact eU rfl; refine ju rfl rfl ?_; refine ju rfl rfl ?_; apply jJ; exact eP rfl; apply jJ; exact eI rfl; refine jz ?_; refine jjB ?_; refine jjB ?_; refine jjC ?_; apply jI; exact eI rfl; refine jc rfl rfl ?_; refine jz ?_; refine jjK rfl ?_; refine jjG ?_; refine jjB ?_; refine jjB ?_; refine jjC ?_; refine jm ?_; refine jn rfl ?_; refine jN rfl rfl rfl ?_; refine jh rfl ?_; refine jZ rfl rfl (by omega) ?_; apply jI; exact eI rfl)
    (refine jjP (v := .int _ _) rfl (by exact rfl) (by exact rfl) (by exact rfl) (by exact rfl) ?_; intro b24 w_b24 hb_b24 hs_b24 hS_b24 hk_b24; have hR_b24 := RowV.one (agg := false) (k := 1) rfl hk_b24)
    ((skip); refine jjQ (in_galley 0 ((bs.length : Int) - 1) _ [k] _ hR_b24) rfl rfl ?_)
    rintro _ w3 hS3 rfl
    rw [in_1]
    repeat' (first|((first|apply jI|apply jJ); (first|exact eI rfl|exact eP rfl|exact eS rfl))|(refine jo ?_; refine jr rfl ?_)|refine jz ?_|(refine jjA ?_; (first|refine jjB ?_|refine jjC ?_|refine jjF ?_|refine jjG ?_))|(refine jjA ?_; (refine jjN rfl ?_ ?_ <;> intro _))|refine jD rfl rfl rfl rfl ⟨inferInstance, ?_⟩)
    · rw [col_arg he ‹_›]; exact rfl
    · have hin := Decidable.not_not.1 ‹¬ ¬ (0 ≤ k ∧ k ≤ (bs.length : Int) - 1)›
      obtain ⟨q, rfl⟩ : ∃ q : Nat, k = q := ⟨k.toNat, by omega⟩
      refine jjQ (columns_galley h a c bs la lc l _ pf (lastZ (endsF 0 bs)) (.map (some mb)) q (by omega) hs.1 (by omega) (by omega) V.up) rfl rfl ?_
      rintro _ w4 hS4 rfl
      rw [col_ok he (by omega)]
      (apply jI; exact eU rfl; refine ju rfl rfl ?_; refine ju rfl rfl ?_; apply jJ; exact eI rfl; apply jJ; exact eI rfl; refine jz ?_; refine jjB ?_; refine jjC ?_; apply jI; exact eI rfl; apply jI; exact eI rfl; apply jJ; exact eI rfl; apply jJ; exact eI rfl; apply jJ; exact eI rfl; refine jz ?_; refine jjF ?_; refine jD rfl rfl rfl rfl ⟨inferInstance, ?_⟩)
      exact rfl

end
end Go.Proofs.YtfebegbjggoijaaGreatDoor

/- Plain law: rows and columns of a valid breaking (GalleyRules). -/
namespace Go.Proofs.YtfebegbjggoijaaGreatDoor
open Go.RowKit

theorem sumL_cons (b : Blk) (bs : List Blk) : sumL (b :: bs) = b.2 + sumL bs := by simp [sumL]
section
variable {h : Int} {bs : List Blk} {l : List Int} (V : ValidI h bs l)
include V
end
end Go.Proofs.YtfebegbjggoijaaGreatDoor

/- galley: between$1, the walk. -/
namespace Go.Proofs.YtfebegbjggoijaaGreatDoor
open Go.RowKit

structure Cf where
  bk : Nat
  kmb : Nat
  bto : Nat
  bff : Nat
  bon : Nat
  pf : Nat
  mb : Nat
  h : Int
  tot : Int
  to : Int
  sl : Value
  xs : List Int

def Cf.on (c : Cf) (n : Int) : Int × Int := onW c.h c.tot c.to (fun n => decide (n ∈ c.xs)) n
def Cf.args (c : Cf) : List Value := [.pointer (some ⟨c.bk, 0, none⟩), .pointer (some ⟨c.bto, 0, none⟩), .pointer (some ⟨c.bff, 0, none⟩), .pointer (some ⟨c.bon, 0, none⟩)]
def KOk (c : Cf) (m : List (Int × Value)) : Prop := mget m c.to = some (encII (0, c.to)) ∧ ∀ n v, mget m n = some v → v = encII (c.on n)

structure KF (c : Cf) (w : World) : Prop where
  kn : At w c.bk 0 [.map (some c.kmb)]
  to : At w c.bto 0 [.int .i64 c.to]
  ff : At w c.bff 0 [.pointer (some ⟨c.pf, 0, none⟩)]
  on : At w c.bon 0 [.func (.func 78) #[] c.args.toArray]
  nn : At w 0 0 [.int .i64 (-1), .int .i64 (-1)]
  frm : Bk w c.pf [.int .i64 c.h, c.sl, .int .i64 c.tot, .map (some c.mb)] 91
  may : MapE (Value.int .i64) w c.mb (mayM c.xs)
  km : ∃ m, MapE (Value.int .i64) w c.kmb m ∧ KOk c m
  ne : c.bk ≠ c.kmb ∧ c.bto ≠ c.kmb ∧ c.bff ≠ c.kmb ∧ c.bon ≠ c.kmb ∧ 0 ≠ c.kmb ∧ c.pf ≠ c.kmb ∧ c.mb ≠ c.kmb
theorem KF.only {c : Cf} {w w' : World} (f : KF c w) (o : Only c.kmb w w') (h : ∃ m, MapE (Value.int .i64) w' c.kmb m ∧ KOk c m) : KF c w' :=
  ⟨o.at_ f.kn f.ne.1, o.at_ f.to f.ne.2.1, o.at_ f.ff f.ne.2.2.1, o.at_ f.on f.ne.2.2.2.1, o.at_ f.nn f.ne.2.2.2.2.1, o.bk f.frm f.ne.2.2.2.2.2.1, o.map f.may f.ne.2.2.2.2.2.2, h, f.ne⟩
theorem KF.ext {c : Cf} {w w' : World} (f : KF c w) (e : Ext w w') : KF c w' := f.only (.ofExt e) (f.km.imp fun _ h => ⟨h.1.ext e, h.2⟩)

theorem on_galley (c : Cf) (hh : 0 ≤ c.h ∧ c.h ≤ 1000) (hto : 0 ≤ c.to ∧ c.to ≤ 1000) (hbd : ∀ n, 0 ≤ n → c.on n = noneW ∨ (0 ≤ (c.on n).1 ∧ (c.on n).1 ≤ 1000000000000)) :
    ∀ (d : Nat) (n : Int) (w : World), (c.to - n).toNat ≤ d → 0 ≤ n ∧ n ≤ 1000 → KF c w →
      Calls Tryz.prog 78 ([Value.int .i64 n] ++ c.args).toArray w fun e w' => ∃ v, e = .returned v ∧ v = encII (c.on n) ∧ Only c.kmb w w' ∧ KF c w' := by
  intro d
  induction d using Nat.strongRecOn with
  | _ d ih =>
  intro n w hd hn hK
  have := hK.kn
  have := hK.nn
  have := hK.to
  have := hK.ff
  have := hK.frm
  refine Calls.ofW (by simp [Cf.args]) ?_
  (((refine jjB ?_; refine jjC ?_)); refine jjY ?_; intro b6 w_b6 hb_b6 hs_b6 hS_b6 hk_b6; have hA_b6 := Bk.of hk_b6)
  (refine jz ?_; refine jjB ?_; refine jjB ?_; refine jjC ?_; refine jN rfl rfl rfl ?_; apply jI; exact eI rfl)
  obtain ⟨m, hm, hok⟩ := hK.km
  refine Ops.lookupOk (hm.ext inferInstance) rfl rfl ?_
  cases hg : mget m n with
  | some v =>
    obtain rfl := hok.2 n v hg
    (apply jI; exact eU rfl; refine ju rfl rfl ?_; refine ju rfl rfl ?_)
    (apply jjR rfl; (intro _; first|exact eI rfl|exact eB rfl|exact eP rfl|exact eS rfl|exact eT rfl|exact eA rfl|exact eU rfl|exact eF rfl|exact eM rfl|exact eN rfl|exact rfl); exact rfl; exact rfl; exact rfl; exact rfl; intro b7 w_b7 hb_b7 hs_b7 hS_b7 hk_b7; have hA_b7 := Bk.of hk_b7)
    (apply jJ; exact eB rfl; refine jz ?_; refine jjB ?_; refine jjC ?_; apply jI; exact eB rfl; refine jz ?_; refine jjJ rfl ?_; refine jjB ?_; refine jjC ?_; refine jO rfl rfl rfl rfl ?_)
    refine Ops.store rfl rfl rfl rfl rfl ?_
    intro w4 hp4
    have hB4' := Bk.of hp4.new
    (refine jz ?_; refine jjF ?_)
    refine fin1C rfl rfl rfl rfl rfl ?_
    have hE : Ext w w4 := hp4.ext inferInstance (by omega)
    exact ⟨_, rfl, rfl, .ofExt hE, hK.ext hE⟩
  | none =>
    (apply jI; exact eU rfl; refine ju rfl rfl ?_; refine ju rfl rfl ?_)
    (apply jjR rfl; (intro _; first|exact eI rfl|exact eB rfl|exact eP rfl|exact eS rfl|exact eT rfl|exact eA rfl|exact eU rfl|exact eF rfl|exact eM rfl|exact eN rfl|exact rfl); exact rfl; exact rfl; exact rfl; exact rfl; intro b7 w_b7 hb_b7 hs_b7 hS_b7 hk_b7; have hA_b7 := Bk.of hk_b7)
    (apply jJ; exact eB rfl; refine jz ?_; refine jjB ?_; refine jjC ?_; apply jI; exact eB rfl; refine jz ?_; refine jjK rfl ?_; refine jjG ?_; refine jjB ?_; refine jjC ?_; refine jO rfl rfl rfl rfl ?_)
    (refine jjP (v := .agg _) rfl (by exact rfl) (by exact rfl) (by exact rfl) (by exact rfl) ?_; intro b21 w_b21 hb_b21 hs_b21 hS_b21 hk_b21; have hR_b21 := RowV.one (agg := true) (k := 2) rfl hk_b21)
    have hO21 := OwnL.one (agg := true) (k := 2) (B := w_b7.heap.size) rfl (by omega) hk_b21
    have hE21 : Ext w w_b21 := inferInstance
    have hkm := hm.lt
    (apply jJ; exact eS rfl; refine jz ?_; refine jjB ?_; refine jjB ?_; refine jjC ?_; apply jI; exact eI rfl; refine jY rfl rfl (by omega) ?_; apply jJ; exact eI rfl; refine jz ?_; refine jjD ?_)
    refine W.loopG (24 :: 25 :: 26 :: 27 :: 28 :: 29 :: 30 :: 31 :: 32 :: 33 :: 34 :: 37 :: 38 :: 39 :: 40 :: 41 :: 42 :: 43 :: 44 :: 45 :: 46 :: 11 :: 47 :: 48 :: 49 :: 50 :: 51 :: 52 :: 53 :: 54 :: 55 :: 56 :: 57 :: 58 :: 59 :: 60 :: 61 :: 9 :: 35 :: 36 :: 10 :: []) (fun g s' w' => ∃ j : Nat, s' 10 = .int .i64 (n + 1 + j) ∧ j ≤ (min (c.to - n) c.h).toNat ∧ g = (min (c.to - n) c.h).toNat - j ∧ Only c.kmb w w' ∧ KF c w' ∧ Bk w' b6 [.int .i64 0, .int .i64 0] 136 ∧ ∃ v, s' 9 = v ∧ OwnL w' w_b7.heap.size 136 true 2 v ((waysW c.h c.tot c.to (fun n => decide (n ∈ c.xs)) n j).map encII)) (min (c.to - n) c.h).toNat ⟨0, (congrArg (Value.int .i64) (by omega)), by omega, by omega, .ofExt hE21, hK.ext hE21, inferInstance, _, rfl, hO21⟩ ?_
    rintro _ e w' ⟨j, h10, hj, rfl, hOn, hKj, hB6, v9, h9, hO9⟩
    have := hKj.kn
    have := hKj.nn
    have := hKj.to
    have := hKj.ff
    have := hKj.frm
    refine W.fix h10 (W.fix (d := 9) h9 ?_)
    (refine jjB ?_; refine jjB ?_)
    refine W.draw (fun wq => Ext w' wq) ?_
    intro w1 hS1
    (refine jjV [0, 1, 2, 3, 4, 5, 6, 7, 8, 9, 10] ?_ ?_ ?_; (decide +kernel); (exact hS1.ext); (((apply jjT; exact rfl; rintro wq hq; have := hq.toStep; apply jI; exact eI rfl; refine jz ?_; exact ⟨rfl, rfl⟩; apply jjT; exact rfl; rintro wq hq; have := hq.toStep; refine jN rfl rfl rfl ?_; refine jz ?_; exact ⟨rfl, rfl⟩; apply jjT; exact rfl; rintro wq hq; have := hq.toStep; apply jI; exact eI rfl; refine jz ?_; exact ⟨rfl, rfl⟩; apply jjT; exact rfl; rintro wq hq; have := hq.toStep; refine jN rfl rfl rfl ?_; refine jz ?_; exact ⟨rfl, rfl⟩; apply jjT; exact rfl; rintro wq hq; have := hq.toStep; refine jw rfl ?_; refine jz ?_; exact ⟨rfl, rfl⟩; apply jjT; exact rfl; rintro wq hq; have := hq.toStep; refine jm ?_; refine jn rfl ?_; refine jz ?_; exact ⟨rfl, rfl⟩; apply jjT; exact rfl; rintro wq hq; have := hq.toStep; refine jm ?_; refine jn rfl ?_; refine jz ?_; exact ⟨rfl, rfl⟩; apply jjT; exact rfl; rintro wq hq; have := hq.toStep; refine jN rfl rfl rfl ?_; refine jz ?_; exact ⟨rfl, rfl⟩; apply jjT; exact rfl; rintro wq hq; have := hq.toStep; refine jY rfl rfl (by omega) ?_; refine jz ?_; exact ⟨rfl, rfl⟩; apply jjT; exact rfl; rintro wq hq; have := hq.toStep; refine jj rfl rfl ?_; refine jz ?_; exact ⟨rfl, rfl⟩; apply jjT; exact rfl; rintro wq hq; have := hq.toStep; refine jd rfl rfl ?_; refine jz ?_; exact ⟨rfl, rfl⟩; refine jjU ?_))))
    refine jjX ?_ ?_ ?_
    · decide +kernel
    · exact hS1.ext
    have hK1 := hKj.ext hS1.ext
    repeat' (first|(apply jI; exact eI rfl)|(refine jM ?_; refine jN rfl rfl rfl ?_)|(refine jm ?_; refine jn rfl ?_)|refine jw rfl ?_|(refine jjA ?_; (first|refine jjB ?_|refine jjC ?_|refine jjD ?_|refine jjE ?_|refine jjG ?_))|(refine jjA ?_; (refine jjN rfl ?_ ?_ <;> intro _)))
    · refine Ops.lookup hK1.may rfl rfl ?_
      rw [mget_may]
      repeat' (first|((first|apply jI|apply jJ); exact eI rfl)|(refine jW ?_; refine jY rfl rfl (by omega) ?_)|(refine jo ?_; refine jr rfl ?_)|refine jz ?_|(refine jjA ?_; (first|refine jjB ?_|refine jjC ?_|refine jjE ?_|refine jjG ?_))|(refine jjA ?_; (refine jjN rfl ?_ ?_ <;> intro _)))
      · have hmay : decide ((n + 1 + (j : Int)) ∈ c.xs) = false := decide_eq_false ‹_›
        refine ⟨rfl, by ((refine Same.upd rfl ?_; refine Same.upd rfl ?_; refine Same.upd rfl ?_; refine Same.upd rfl ?_; refine Same.upd rfl ?_; refine Same.upd rfl ?_; refine Same.upd rfl ?_; refine Same.upd rfl ?_; refine Same.upd rfl ?_; refine Same.upd rfl ?_; refine Same.upd rfl ?_; refine Same.upd rfl ?_; refine Same.upd rfl ?_; refine Same.upd rfl ?_; refine Same.upd rfl ?_; refine Same.upd rfl ?_; refine Same.upd rfl ?_; refine Same.upd rfl ?_; refine Same.upd rfl ?_; refine Same.upd rfl ?_; refine Same.upd rfl ?_; refine Same.upd rfl ?_; refine Same.upd rfl ?_; exact Same.ovN)), (min (c.to - n) c.h).toNat - (j + 1), by omega, j + 1, congrArg (Value.int .i64) (by omega), by omega, rfl, hOn.trans (.ofExt hS1.ext), hK1, hB6.ext hS1.ext, v9, rfl, ?_⟩
        rw [waysW_no _ _ _ (.inl hmay)]
        exact hO9.ext hS1.ext
      · have hmay : decide ((n + 1 + (j : Int)) ∈ c.xs) = true := decide_eq_true (Decidable.not_not.1 ‹_›)
        have := hK1.on
        (refine jN rfl rfl rfl ?_; apply jI; exact eI rfl)
        refine Ops.callR rfl (Enters.h (P := Tryz.prog) (g := 78)) rfl (ih (d - 1) (by omega) (n + 1 + j) _ (by omega) (by omega) hK1) ?_
        rintro _ w2 ⟨v, rfl, rfl, hOn2, hK2⟩
        refine ⟨_, rfl, ?_⟩
        have := hK2.kn
        have := hK2.nn
        have := hK2.to
        have := hK2.ff
        have := hK2.frm
        (apply jjR rfl; (intro _; first|exact eI rfl|exact eB rfl|exact eP rfl|exact eS rfl|exact eT rfl|exact eA rfl|exact eU rfl|exact eF rfl|exact eM rfl|exact eN rfl|exact rfl); exact rfl; exact rfl; exact rfl; exact rfl; intro b11 w_b11 hb_b11 hs_b11 hS_b11 hk_b11; have hA_b11 := Bk.of hk_b11)
        (refine jz ?_; refine jjB ?_; refine jjC ?_; refine jO rfl rfl rfl rfl ?_; refine jO rfl rfl rfl rfl ?_)
        have hE12 := hOn.trans (.ofExt hS1.ext)
        have hS11 := hS_b11.ext
        refine Ops.neqT (enc := encII) (c.on (n + 1 + j)) noneW rfl rfl ?_
        have hB62 := hOn2.bk (hB6.ext hS1.ext) (by omega)
        have hO92 := hOn2.own (hO9.ext hS1.ext) (by omega)
        have hOn3 := (hE12.trans hOn2).trans (.ofExt hS11)
        have hlt62 := hB62.lt
        repeat' (first|((first|apply jI|apply jJ); exact eI rfl)|(refine jW ?_; refine jY rfl rfl (by omega) ?_)|refine jz ?_|(refine jjA ?_; (first|refine jjC ?_|refine jjG ?_))|(refine jjA ?_; (refine jjN rfl ?_ ?_ <;> intro _)))
        · have hne : ¬ c.on (n + 1 + (j : Int)) = noneW := ‹_›
          have hon := (hbd (n + 1 + (j : Int)) (by omega)).resolve_left hne
          refine W.draw (fun wq => At wq b11 0 [.int .i64 (c.on (n + 1 + (j : Int))).1, .int .i64 (c.on (n + 1 + (j : Int))).2] ∧ At wq c.bff 0 [.pointer (some ⟨c.pf, 0, none⟩)]) ?_
          intro w4 hS4
          have a11 : At w4 b11 0 [.int .i64 (c.on (n + 1 + (j : Int))).1, .int .i64 (c.on (n + 1 + (j : Int))).2] := (hA_b11.ext hS4.ext).toAt
          have aff : At w4 c.bff 0 [.pointer (some ⟨c.pf, 0, none⟩)] := hK2.ff.ext (hS11.trans hS4.ext)
          (refine jjV [0, 1, 2, 3, 4, 5, 8] ?_ ?_ ?_; (decide +kernel); (exact ⟨a11, aff⟩); (((apply jjT; exact rfl; rintro wq ⟨q1, q2⟩; apply jI; exact rfl; refine jz ?_; exact ⟨rfl, rfl⟩; apply jjT; exact rfl; rintro wq ⟨q1, q2⟩; refine jm ?_; refine jn rfl ?_; refine jz ?_; exact ⟨rfl, rfl⟩; apply jjT; exact rfl; rintro wq ⟨q1, q2⟩; refine jN rfl rfl rfl ?_; refine jz ?_; exact ⟨rfl, rfl⟩; apply jjT; exact rfl; rintro wq ⟨q1, q2⟩; refine jN rfl rfl rfl ?_; refine jz ?_; exact ⟨rfl, rfl⟩; apply jjT; exact rfl; rintro wq ⟨q1, q2⟩; apply jI; exact eI rfl; refine jz ?_; exact ⟨rfl, rfl⟩; apply jjT; exact rfl; rintro wq ⟨q1, q2⟩; apply jI; exact eI rfl; refine jz ?_; exact ⟨rfl, rfl⟩; apply jjT; exact rfl; rintro wq ⟨q1, q2⟩; apply jI; exact eI rfl; refine jz ?_; exact ⟨rfl, rfl⟩; refine jjU ?_))))
          (apply jjW 6; (decide +kernel); exact rfl; (exact ⟨a11, aff⟩))
          refine jjQ (column_galley c.pf c.h c.tot c.sl (.map (some c.mb)) n (n + 1 + j) _ (by omega) (by omega) (by omega)) rfl rfl ?_
          rintro _ w5 hS5 rfl
          have hcol := colW_bound (h := c.h) (tot := c.tot) (frm := n) (to := n + 1 + j) (by omega) (by omega) (by omega)
          refine jz ?_
          (refine jjV [7] ?_ ?_ ?_; (decide +kernel); (exact ⟨a11.ext hS5.ext, aff.ext hS5.ext⟩); (((apply jjT; exact rfl; rintro wq ⟨q1, q2⟩; refine jY rfl rfl (by omega) ?_; refine jz ?_; exact ⟨rfl, rfl⟩; refine jjU ?_))))
          refine jjV [9] ?_ ?_ ?_
          · decide +kernel
          · exact ⟨a11.ext hS5.ext, aff.ext hS5.ext⟩
          apply jjT
          · exact rfl
          · intro wq _
            (refine jjS (cells := [.int .i64 ((c.on (n + 1 + (j : Int))).1 + colW c.h c.tot n (n + 1 + j)), .int .i64 (n + 1 + j)]) ?_ ?_; exact rfl)
            refine jz ?_
            exact ⟨rfl, rfl⟩
          refine jjU ?_
          (apply jjW 10; (decide +kernel); exact rfl; (exact ⟨a11.ext hS5.ext, aff.ext hS5.ext⟩))
          (refine jjP (v := .agg _) rfl (by exact rfl) (by exact rfl) (by exact rfl) (by exact rfl) ?_; intro b60 w_b60 hb_b60 hs_b60 hS_b60 hk_b60; have hR_b60 := RowV.one (agg := true) (k := 2) rfl hk_b60)
          refine jz ?_
          have hS45 := (hS4.ext.trans hS5.ext).trans hS_b60.ext
          have hO95 := hO92.ext (hS11.trans hS45)
          (apply jjW 11; (decide +kernel); exact rfl; (exact ⟨(a11.ext hS5.ext).ext hS_b60.ext, (aff.ext hS5.ext).ext hS_b60.ext⟩))
          have hz9 : ∀ g, v9.ownBlock = some g → w_b7.heap.size ≤ g ∧ g < w2.heap.size := fun g hg => ⟨(hO92.block g hg).1, (hO92.block g hg).2⟩
          have hwl := waysW_len c.h c.tot c.to (fun n => decide (n ∈ c.xs)) n j
          have hszz := hS45.size
          have hsz11 := hS11.size
          have hsz2 := hOn3.size
          refine Ops.appendL hO95 (by omega) hR_b60 rfl rfl rfl rfl rfl ?_ ?_ ?_
          · simp only [List.length_map, List.length_cons, List.length_nil]; omega
          · simp only [List.length_map, List.length_cons, List.length_nil]; omega
          intro v61 w7 hA7 hO7 _ _
          obtain ⟨a61, c61, rfl⟩ := hO7.slice
          have hne11 : v9.ownBlock ≠ some b11 := fun e => by have := hz9 _ e; omega
          have hff := hK.ff.lt
          have hneff : v9.ownBlock ≠ some c.bff := fun e => by have := hz9 _ e; omega
          have hnek : c.kmb ≠ c.kmb → False := fun h => h rfl
          have a11' := hA7.at_ ((a11.ext hS5.ext).ext hS_b60.ext) hne11
          have aff' := hA7.at_ ((aff.ext hS5.ext).ext hS_b60.ext) hneff
          refine jz ?_
          (refine jjV [12] ?_ ?_ ?_; (decide +kernel); (exact ⟨a11', aff'⟩); (((apply jjT; exact rfl; rintro wq ⟨q1, q2⟩; apply jJ; exact eS rfl; refine jz ?_; exact ⟨rfl, rfl⟩; refine jjU ?_))))
          refine jjX ?_ ?_ ?_
          · decide +kernel
          · exact ⟨a11', aff'⟩
          have hOn7 := (hOn3.trans (.ofExt hS45)).app hA7 (by omega)
          have hK7 := hK.only hOn7 (((hK2.ext hS11).ext hS45).km.imp fun m h => ⟨h.1.app hA7 (fun e => by have := hz9 _ e; omega), h.2⟩)
          (refine jjC ?_; apply jI; exact eI rfl; refine jY rfl rfl (by omega) ?_; apply jJ; exact eI rfl; refine jz ?_)
          refine ⟨rfl, by ((refine Same.upd rfl ?_; refine Same.upd rfl ?_; refine Same.upd rfl ?_; refine Same.upd rfl ?_; refine Same.upd rfl ?_; refine Same.upd rfl ?_; refine Same.upd rfl ?_; refine Same.upd rfl ?_; refine Same.upd rfl ?_; refine Same.upd rfl ?_; refine Same.upd rfl ?_; refine Same.upd rfl ?_; refine Same.upd rfl ?_; refine Same.upd rfl ?_; refine Same.upd rfl ?_; refine Same.upd rfl ?_; refine Same.upd rfl ?_; refine Same.upd rfl ?_; refine Same.upd rfl ?_; refine Same.upd rfl ?_; refine Same.upd rfl ?_; refine Same.upd rfl ?_; refine Same.upd rfl ?_; refine Same.upd rfl ?_; refine Same.upd rfl ?_; refine Same.upd rfl ?_; refine Same.upd rfl ?_; refine Same.upd rfl ?_; refine Same.upd rfl ?_; refine Same.upd rfl ?_; refine Same.upd rfl ?_; refine Same.upd rfl ?_; refine Same.upd rfl ?_; refine Same.upd rfl ?_; refine Same.upd rfl ?_; refine Same.upd rfl ?_; refine Same.upd rfl ?_; refine Same.upd rfl ?_; refine Same.upd rfl ?_; refine Same.upd rfl ?_; refine Same.upd rfl ?_; refine Same.upd rfl ?_; refine Same.upd rfl ?_; exact Same.ovN)), (min (c.to - n) c.h).toNat - (j + 1), by omega, j + 1, congrArg (Value.int .i64) (by omega), by omega, rfl, hOn7, hK7, hA7.bk (hB62.ext (hS11.trans hS45)) (fun e => by have := hz9 _ e; omega), _, rfl, ?_⟩
          rw [waysW_yes _ _ _ hmay hne, List.map_append]
          exact hO7
        · have hne : c.on (n + 1 + (j : Int)) = noneW := Decidable.not_not.1 ‹_›
          refine ⟨rfl, by ((refine Same.upd rfl ?_; refine Same.upd rfl ?_; refine Same.upd rfl ?_; refine Same.upd rfl ?_; refine Same.upd rfl ?_; refine Same.upd rfl ?_; refine Same.upd rfl ?_; refine Same.upd rfl ?_; refine Same.upd rfl ?_; refine Same.upd rfl ?_; refine Same.upd rfl ?_; refine Same.upd rfl ?_; refine Same.upd rfl ?_; refine Same.upd rfl ?_; refine Same.upd rfl ?_; refine Same.upd rfl ?_; refine Same.upd rfl ?_; refine Same.upd rfl ?_; refine Same.upd rfl ?_; refine Same.upd rfl ?_; refine Same.upd rfl ?_; refine Same.upd rfl ?_; refine Same.upd rfl ?_; refine Same.upd rfl ?_; refine Same.upd rfl ?_; refine Same.upd rfl ?_; refine Same.upd rfl ?_; refine Same.upd rfl ?_; refine Same.upd rfl ?_; refine Same.upd rfl ?_; exact Same.ovN)), (min (c.to - n) c.h).toNat - (j + 1), by omega, j + 1, congrArg (Value.int .i64) (by omega), by omega, rfl, hOn3, hK2.ext hS11, hB62.ext hS11, v9, rfl, ?_⟩
          rw [waysW_no _ _ _ (.inr hne)]
          exact hO92.ext hS11
    · have hnt : n ≠ c.to := fun e => by rw [e, hok.1] at hg; cases hg
      have hjJ : j = (min (c.to - n) c.h).toNat := by omega
      have hkn1 := hK1.kn
      refine W.draw (fun wq => At wq c.bk 0 [.map (some c.kmb)]) ?_
      intro w5 hS5
      (refine jjV [0, 1, 2] ?_ ?_ ?_; (decide +kernel); (exact hkn1.ext hS5.ext); (((apply jjT; exact rfl; rintro wq hq; refine jN rfl rfl rfl ?_; refine jz ?_; exact ⟨rfl, rfl⟩; apply jjT; exact rfl; rintro wq hq; apply jI; exact eI rfl; refine jz ?_; exact ⟨rfl, rfl⟩; apply jjT; exact rfl; rintro wq hq; apply jI; exact rfl; refine jz ?_; exact ⟨rfl, rfl⟩; refine jjU ?_))))
      (apply jjW 3; (decide +kernel); exact rfl; (exact hkn1.ext hS5.ext))
      have hK5 := hK1.ext hS5.ext
      have hws : 0 < (waysW c.h c.tot c.to (fun n => decide (n ∈ c.xs)) n j).length := by simp [waysW]
      refine jjQ (first_galley _ v9 _ hws (hO9.row.ext (hS1.ext.trans hS5.ext)) hK5.nn) rfl rfl ?_
      rintro _ w6 hS6 rfl
      have hK6 := hK5.ext hS6.ext
      refine jz ?_
      (apply jjW 4; (decide +kernel); exact rfl; (exact hK6.kn))
      obtain ⟨m6, hm6, hok6⟩ := hK6.km
      refine Ops.mapUpdate hm6 rfl rfl rfl ?_
      intro w7 o7 hp7 hM7
      refine jz ?_
      refine jjX ?_ ?_ ?_
      · decide +kernel
      · exact hp7.at_ hK6.kn hK6.ne.1
      have hval : firstW (waysW c.h c.tot c.to (fun n => decide (n ∈ c.xs)) n j) = c.on n := by rw [Cf.on, onW_eq _ _ _ _ _ hnt, hjJ]
      rw [hval] at hM7
      have hok7 : KOk c (mset m6 n (encII (c.on n))) := by
        refine ⟨by rw [mget_set_other _ _ (Ne.symm hnt)]; exact hok6.1, fun k v hk => ?_⟩
        by_cases e : k = n
        · subst e; rw [mget_set_same] at hk; cases hk; rfl
        · rw [mget_set_other _ _ e] at hk; exact hok6.2 k v hk
      have hOn7 : Only c.kmb w w7 := (hOn.trans (.ofExt ((hS1.ext.trans hS5.ext).trans hS6.ext))).trans (.ofPut hp7)
      have hK7 := hK.only hOn7 ⟨_, hM7, hok7⟩
      have := hK7.kn
      (refine jjB ?_; refine jjC ?_; refine jN rfl rfl rfl ?_; apply jI; exact eI rfl)
      refine Ops.lookup hM7 rfl rfl ?_
      rw [mget_set_same]
      have hB67 := hp7.bk (hB6.ext ((hS1.ext.trans hS5.ext).trans hS6.ext)) (by omega)
      skip
      refine Ops.store rfl rfl rfl rfl rfl ?_
      intro w8 hp8
      have hB8 := Bk.of hp8.new
      (refine jz ?_; refine jjF ?_)
      refine fin1C rfl rfl rfl rfl rfl ?_
      have hOn8 : Only c.kmb w w8 := ⟨hp8.os.trans hOn7.os, hp8.tape.trans hOn7.tape, hp8.output.trans hOn7.output, by rw [hp8.size]; exact hOn7.size, fun k hk hne => (hp8.other k (by omega)).trans (hOn7.other k hk hne)⟩
      exact ⟨_, rfl, rfl, hOn8, hK.only hOn8 ⟨_, hM7.put hp8 (by omega), hok7⟩⟩
end Go.Proofs.YtfebegbjggoijaaGreatDoor
