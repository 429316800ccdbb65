/- Texts of the proof, part 6: PkD, PkE, PkH, RefI, Rb0, Gk1, PkX, PkO, LatP, LatQ, LtP, Lt2, Rf5, Rf6, Rf7, Rf8, PkG, Eng37, Eng39, Eng41, Rk2, Rk3, ShT, ShU, Rk4, Ra5, Rk5, Ra6. -/
import Derived.Shelf.SlSortCmp.WholeK
import Derived.Shelf.Small.Bits
import Derived.Test.YtgnkloloehlfnaaGreatDoorTL5
namespace Go.Proofs.YtgnkloloehlfnaaGreatDoor
open Go.RowKit

def RisI (d L : List Int) : Prop := (∀ x ∈ L, 0 ≤ x ∧ x < d.length) ∧ L.Pairwise fun a b => a < b ∧ keyD d a ≤ keyD d b
theorem key_nat {d : List Int} {x : Int} (_h : 0 ≤ x) : keyD d x = gd d x.toNat := rfl
theorem ris_head {d C : List Int} (hC : BegR d C) : ∀ {L : List Int} {x : Int}, RisI d (x :: L) → ((x :: L).length : Int) ≤ gd C x.toNat
  | [], x, ⟨h1, _⟩ => by
    have := h1 x (by simp)
    have := hC.pos x.toNat (by omega)
    simpa using this
  | y :: L, x, ⟨h1, h2⟩ => by
    obtain ⟨a1, a2⟩ := List.pairwise_cons.1 h2
    have hx := h1 x (by simp)
    have hy := h1 y (by simp)
    obtain ⟨b1, b2⟩ := a1 y (by simp)
    have ih := ris_head hC (L := L) (x := y) ⟨fun z hz => h1 z (List.mem_cons_of_mem _ hz), a2⟩
    have := hC.up x.toNat y.toNat (by omega) (by omega) b2
    simp only [List.length_cons] at ih ⊢
    push_cast at ih ⊢
    omega
theorem ris_len {d C L : List Int} (hC : BegR d C) (h : RisI d L) : (L.length : Int) ≤ maxC C := by
  cases L with
  | nil => exact (maxC_ge C).1
  | cons x L =>
    have h1 := ris_head hC h
    have hx := h.1 x (by simp)
    have := (maxC_ge C).2 _ (gd_mem (l := C) (i := x.toNat) (by rw [hC.len]; omega))
    omega
theorem path_ris {d C : List Int} : ∀ (m i : Nat), d.length - i = m → i < d.length → RisI d (pathK d C i) ∧ ∀ x ∈ pathK d C i, (i : Int) ≤ x ∧ gd d i ≤ keyD d x := by
  intro m
  induction m using Nat.strongRecOn with
  | ind m ih =>
    intro i hm hi
    rw [pathK_eq hi]
    cases hk : nextK d C i with
    | none =>
      refine ⟨⟨fun x hx => ?_, ?_⟩, fun x hx => ?_⟩
      · simp at hx; omega
      · simp
      · simp at hx; subst hx; exact ⟨Int.le_refl _, Int.le_refl _⟩
    | some k =>
      obtain ⟨n1, n2, n3, n4⟩ := nextK_some hk
      obtain ⟨⟨r1, r2⟩, r3⟩ := ih (d.length - k) (by omega) k rfl n2
      have e : ((some k).map (pathK d C)).getD [] = pathK d C k := rfl
      rw [e]
      have e2 : ∀ x : Int, x ∈ pathK d C k → (i : Int) < x ∧ gd d i ≤ keyD d x := fun x hx => by
        obtain ⟨a, b⟩ := r3 x hx
        exact ⟨by omega, Int.le_trans n4 b⟩
      refine ⟨⟨fun x hx => ?_, ?_⟩, fun x hx => ?_⟩
      · rcases List.mem_cons.1 hx with rfl | hx
        · omega
        · exact r1 x hx
      · exact List.pairwise_cons.2 ⟨fun x hx => e2 x hx, r2⟩
      · rcases List.mem_cons.1 hx with rfl | hx
        · exact ⟨Int.le_refl _, Int.le_refl _⟩
        · have := e2 x hx; exact ⟨by omega, this.2⟩
theorem keep_facts {d C : List Int} (hC : BegR d C) : RisI d (keepK d C) ∧ ((keepK d C).length : Int) = maxC C := by
  rw [keepK_rest hC, restK]
  cases hf : (upR 0 d.length).find? (nxB d C none (maxC C)) with
  | none =>
    have h := find_none hf
    refine ⟨⟨by simp, by simp⟩, ?_⟩
    rcases maxC_mem C with e | e
    · simp [e]
    · exfalso
      obtain ⟨i, hi, he⟩ := mem_gd e
      have := h i (Nat.zero_le _) (by rw [← hC.len]; exact hi)
      rw [nxB, he] at this
      simp at this
  | some i =>
    have hm := upR_mem.1 (List.mem_of_find?_eq_some hf)
    have hp := List.find?_some hf
    simp only [nxB, Bool.and_true, decide_eq_true_eq] at hp
    exact ⟨(path_ris _ i rfl hm.2).1, by rw [← hp]; exact pathK_len hC i hm.2⟩
theorem ris_keep {d C L : List Int} (hC : BegR d C) (h : RisI d L) : L.length ≤ (keepK d C).length := by
  have := ris_len hC h
  have := (keep_facts hC).2
  omega
theorem filter_erase {l : List Int} {f : Nat} {x : Int} (h : l[f]? = some x) {p : Int → Bool} (hp : p x = false) : (l.eraseIdx f).filter p = l.filter p := by
  obtain ⟨hf, rfl⟩ := List.getElem?_eq_some_iff.1 h
  rw [List.eraseIdx_eq_take_drop_succ, List.filter_append]
  have e : l = l.take f ++ l[f] :: l.drop (f + 1) := by rw [← List.drop_eq_getElem_cons hf, List.take_append_drop]
  conv => rhs; rw [e]
  rw [List.filter_append, List.filter_cons, hp]
  rfl
theorem filter_mv {l : List Int} {f t : Nat} {x : Int} (h : l[f]? = some x) {p : Int → Bool} (hp : p x = false) : (mvF l f t).filter p = l.filter p := by
  have hx : l.getD f 0 = x := by simp [List.getD_eq_getElem?_getD, h]
  rw [mvF, hx, List.filter_append, List.filter_cons, hp]
  show (List.filter p _) ++ (List.filter p _) = _
  rw [← List.filter_append, List.take_append_drop, filter_erase h hp]
def RightI (d l : List Int) : Prop := l.Perm (upN d.length) ∧ l.Pairwise fun a b => keyD d a ≤ keyD d b
theorem mem_uniq {α : Type} {R : α → α → Prop} (hR : ∀ a b, R a b → R b a → False) : ∀ {l m : List α}, (∀ x, x ∈ l ↔ x ∈ m) → l.Pairwise R → m.Pairwise R → l = m
  | [], [], _, _, _ => rfl
  | [], y :: m, h, _, _ => absurd ((h y).2 (by simp)) (by simp)
  | x :: l, [], h, _, _ => absurd ((h x).1 (by simp)) (by simp)
  | x :: l, y :: m, h, h1, h2 => by
    obtain ⟨a1, a2⟩ := List.pairwise_cons.1 h1
    obtain ⟨b1, b2⟩ := List.pairwise_cons.1 h2
    have e : x = y := Classical.byContradiction fun hne => by
      have hx : x ∈ m := by
        rcases List.mem_cons.1 ((h x).1 (by simp)) with g | g
        · exact absurd g hne
        · exact g
      have hy : y ∈ l := by
        rcases List.mem_cons.1 ((h y).2 (by simp)) with g | g
        · exact absurd g.symm hne
        · exact g
      exact hR x y (a1 y hy) (b1 x hx)
    subst e
    rw [mem_uniq hR (l := l) (m := m) (fun z => ⟨fun hz => ?_, fun hz => ?_⟩) a2 b2]
    · rcases List.mem_cons.1 ((h z).1 (List.mem_cons_of_mem _ hz)) with g | g
      · subst g; exact (hR z z (a1 z hz) (a1 z hz)).elim
      · exact g
    · rcases List.mem_cons.1 ((h z).2 (List.mem_cons_of_mem _ hz)) with g | g
      · subst g; exact (hR z z (b1 z hz) (b1 z hz)).elim
      · exact g
theorem toM_spec (d S r : List Int) (i : Nat) : (∀ j, (hj : j < r.length) → j < toM d S r i → pM d S i r[j] = false) ∧ ∀ h : toM d S r i < r.length, pM d S i r[toM d S r i] = true := by
  rw [toM]
  unfold idxV
  cases hf : r.findIdx? (pM d S i) with
  | none =>
    have h := List.findIdx?_eq_none_iff.1 hf
    have e : (if (-1 : Int) < 0 then r.length else ((-1 : Int)).toNat) = r.length := if_pos (by omega)
    simp only [e]
    exact ⟨fun j hj _ => h _ (List.getElem_mem hj), fun h => absurd h (Nat.lt_irrefl _)⟩
  | some k =>
    obtain ⟨hk, h1, h2⟩ := List.findIdx?_eq_some_iff_getElem.1 hf
    have e : (if ((k : Nat) : Int) < 0 then r.length else ((k : Nat) : Int).toNat) = k := by rw [if_neg (by omega)]; omega
    simp only [e]
    refine ⟨fun j hj hjk => ?_, fun _ => h1⟩
    have := h2 j hjk
    simpa using this
structure MendI (d K : List Int) (m : Nat) (st : MSt) : Prop where
  set : ∀ x, x ∈ st.2.1 ↔ x ∈ K ∨ (0 ≤ x ∧ x < m)
  srt : (st.1.filter fun x => decide (x ∈ st.2.1)).Pairwise fun a b => keyD d a ≤ keyD d b
  kept : st.1.filter (fun x => decide (x ∈ K)) = K
  bad : ∀ v ∈ st.2.2, mvBad d.length v = false
  mv : movedF d.length st.2.2 = st.1
  num : st.2.2.length + (K.filter fun x => decide (x < (m : Int))).length = m
theorem filter_next {K : List Int} (hn : K.Nodup) (m : Nat) : (K.filter fun x => decide (x < ((m + 1 : Nat) : Int))).length = (K.filter fun x => decide (x < (m : Int))).length + if (m : Int) ∈ K then 1 else 0 := by
  induction K with
  | nil => rfl
  | cons x K ih =>
    obtain ⟨h1, h2⟩ := List.nodup_cons.1 hn
    have := ih h2
    rw [List.filter_cons, List.filter_cons]
    by_cases e : x = (m : Int)
    · subst e
      rw [if_neg h1] at this
      rw [if_pos (by simp; omega), if_neg (by simp), if_pos (by simp), List.length_cons]
      omega
    · have e2 : ((m : Int) ∈ x :: K) ↔ (m : Int) ∈ K := by rw [List.mem_cons]; exact ⟨fun h => h.resolve_left fun h => e h.symm, Or.inr⟩
      simp only [e2]
      by_cases c : x < (m : Int)
      · rw [if_pos (by simp; omega), if_pos (by simp [c]), List.length_cons, List.length_cons]; omega
      · rw [if_neg (by simp; omega), if_neg (by simp [c])]; exact this
theorem mend_step {d K : List Int} (hK : RisI d K) : ∀ m, m ≤ d.length → MendI d K m (mendF d K m) := by
  have hKn : K.Nodup := hK.2.imp fun {a b} h e => by omega
  intro m
  induction m with
  | zero =>
    intro _
    have e : (upN d.length).filter (fun x => decide (x ∈ K)) = K := mem_uniq (R := fun a b => a < b) (fun a b h g => by omega) (fun x => by
      rw [List.mem_filter, upN_mem]
      constructor
      · rintro ⟨_, h⟩; simpa using h
      · intro h; exact ⟨hK.1 x h, by simpa using h⟩) ((upN_up _).filter _) (hK.2.imp fun {a b} h => h.1)
    refine ⟨fun x => ⟨.inl, fun h => h.elim id fun h => by omega⟩, ?_, e, by simp [mendF], rfl, ?_⟩
    · show ((upN d.length).filter fun x => decide (x ∈ K)).Pairwise _
      rw [e]
      exact hK.2.imp fun {a b} h => h.2
    · show 0 + _ = 0
      rw [List.filter_eq_nil_iff.2 fun x hx => by have := hK.1 x hx; simp; omega]
      rfl
  | succ m ih =>
    intro hm
    have I := ih (by omega)
    have hp := mendF_perm d K m (by omega)
    rw [mendF_succ]
    generalize mendF d K m = st at *
    have hnx := filter_next hKn m
    have hnum := I.num
    rw [mendS]
    by_cases c : (m : Int) ∈ st.2.1
    · rw [if_pos c]
      have hmK : (m : Int) ∈ K := by rcases (I.set _).1 c with h | h; exact h; omega
      rw [if_pos hmK] at hnx
      refine ⟨fun x => ?_, I.srt, I.kept, I.bad, I.mv, by omega⟩
      rw [I.set]
      constructor
      · rintro (h | h)
        · exact .inl h
        · exact .inr (by omega)
      · rintro (h | h)
        · exact .inl h
        · by_cases e : x = (m : Int)
          · subst e; exact .inl hmK
          · exact .inr (by omega)
    · rw [if_neg c]
      have hmK : (m : Int) ∉ K := fun h => c ((I.set _).2 (.inl h))
      rw [if_neg hmK] at hnx
      have hml : (m : Int) ∈ st.1 := by rw [hp.mem_iff, upN_mem]; omega
      obtain ⟨f1, f2, f3⟩ := idxOf_facts hml
      have hlen : st.1.length = d.length := by rw [hp.length_eq, upN_len]
      generalize st.1.idxOf (m : Int) = f at *
      have hrl : (st.1.eraseIdx f).length = st.1.length - 1 := by rw [List.length_eraseIdx, if_pos f1]
      have htl := toM_le d st.2.1 (st.1.eraseIdx f) m
      obtain ⟨t1, t2⟩ := toM_spec d st.2.1 (st.1.eraseIdx f) m
      have hfs := filter_erase (p := fun x => decide (x ∈ st.2.1)) f2 (by simpa using c)
      have hx : st.1.getD f 0 = (m : Int) := by simp [List.getD_eq_getElem?_getD, f2]
      have hmvf : mvF st.1 f (toM d st.2.1 (st.1.eraseIdx f) m) = (st.1.eraseIdx f).take (toM d st.2.1 (st.1.eraseIdx f) m) ++ (m : Int) :: (st.1.eraseIdx f).drop (toM d st.2.1 (st.1.eraseIdx f) m) := by rw [mvF, hx]
      have hnm : (m : Int) ∉ st.1.eraseIdx f := fun h => by
        have hnd := (eraseIdx_perm f2).nodup_iff.2 (hp.nodup_iff.2 (upN_nodup _))
        exact (List.nodup_cons.1 hnd).1 h
      have hkf := filter_mv (t := toM d st.2.1 (st.1.eraseIdx f) m) (p := fun x => decide (x ∈ K)) f2 (by simpa using hmK)
      have hsrt := I.srt
      rw [← hfs] at hsrt
      refine ⟨fun x => ?_, ?_, ?_, ?_, ?_, ?_⟩
      · show x ∈ (m : Int) :: st.2.1 ↔ _
        rw [List.mem_cons, I.set]
        constructor
        · rintro (h | h | h)
          · exact .inr (by omega)
          · exact .inl h
          · exact .inr (by omega)
        · rintro (h | h)
          · exact .inr (.inl h)
          · by_cases e : x = (m : Int)
            · exact .inl e
            · exact .inr (.inr (by omega))
      · show ((mvF st.1 f (toM d st.2.1 (st.1.eraseIdx f) m)).filter fun x => decide (x ∈ (m : Int) :: st.2.1)).Pairwise _
        rw [hmvf, List.filter_append, List.filter_cons, if_pos (by simp)]
        generalize st.1.eraseIdx f = r at *
        generalize ht : toM d st.2.1 r m = t at *
        have e1 : ∀ z : List Int, (∀ x ∈ z, x ∈ r) → z.filter (fun x => decide (x ∈ (m : Int) :: st.2.1)) = z.filter fun x => decide (x ∈ st.2.1) := fun z hz => List.filter_congr fun x hx => by
          have : x ≠ (m : Int) := fun e => hnm (e ▸ hz x hx)
          simp [this]
        rw [e1 _ fun x h => List.mem_of_mem_take h, e1 _ fun x h => List.mem_of_mem_drop h]
        have e2 : r.filter (fun x => decide (x ∈ st.2.1)) = (r.take t).filter (fun x => decide (x ∈ st.2.1)) ++ (r.drop t).filter fun x => decide (x ∈ st.2.1) := by rw [← List.filter_append, List.take_append_drop]
        rw [e2, List.pairwise_append] at hsrt
        obtain ⟨s1, s2, s3⟩ := hsrt
        have lo : ∀ x ∈ (r.take t).filter (fun x => decide (x ∈ st.2.1)), keyD d x ≤ keyD d (m : Int) := fun x hx => by
          obtain ⟨h1, h2⟩ := List.mem_filter.1 hx
          obtain ⟨j, hj, rfl⟩ := List.getElem_of_mem h1
          rw [List.length_take] at hj
          have h3 := t1 j (by omega) (by omega)
          rw [List.getElem_take] at h2 ⊢
          simp only [pM, h2, Bool.true_and, decide_eq_false_iff_not] at h3
          exact Int.not_lt.1 h3
        have hi : ∀ x ∈ (r.drop t).filter (fun x => decide (x ∈ st.2.1)), keyD d (m : Int) ≤ keyD d x := fun x hx => by
          have hxd := (List.mem_filter.1 hx).1
          have htr : t < r.length := by
            refine Decidable.by_contra fun hc => ?_
            rw [List.drop_eq_nil_of_le (by omega)] at hxd
            simp at hxd
          have h3 := t2 htr
          simp only [pM, Bool.and_eq_true, decide_eq_true_eq] at h3
          have h4 : keyD d (m : Int) < keyD d r[t] := h3.2
          rw [List.drop_eq_getElem_cons htr, List.filter_cons, if_pos (by simpa using h3.1)] at hx s2
          rcases List.mem_cons.1 hx with e | e
          · rw [e]; omega
          · have := (List.pairwise_cons.1 s2).1 x e; omega
        rw [List.pairwise_append]
        refine ⟨s1, List.pairwise_cons.2 ⟨hi, s2⟩, fun a ha b hb => ?_⟩
        rcases List.mem_cons.1 hb with e | e
        · rw [e]; exact lo a ha
        · exact s3 a ha b e
      · exact hkf.trans I.kept
      · intro v hv
        rcases List.mem_append.1 hv with h | h
        · exact I.bad v h
        · rw [List.mem_singleton] at h
          subst h
          simp only [mvBad, inB, Bool.not_eq_false', Bool.and_eq_true, decide_eq_true_eq]
          omega
      · show movedF d.length (st.2.2 ++ [_]) = _
        rw [movedF_snoc, I.mv, mvS]
        rfl
      · show (st.2.2 ++ [_]).length + _ = m + 1
        rw [List.length_append, hnx]
        simp only [List.length_cons, List.length_nil]
        omega
theorem mend_facts {d C : List Int} (hC : BegR d C) {l : List (Int × Int)} (hl : l = (mendF d (keepK d C) d.length).2.2) :
    l.length + (keepK d C).length = d.length ∧ (∀ v ∈ l, mvBad d.length v = false) ∧ RightI d (movedF d.length l) ∧ (movedF d.length l).filter (fun x => decide (x ∈ keepK d C)) = keepK d C := by
  subst hl
  have hK := (keep_facts hC).1
  have I := mend_step hK d.length (Nat.le_refl _)
  have hp := mendF_perm d (keepK d C) d.length (Nat.le_refl _)
  have hn := I.num
  rw [List.filter_eq_self.2 fun x hx => by simpa using (hK.1 x hx).2] at hn
  refine ⟨hn, I.bad, ?_, by rw [I.mv]; exact I.kept⟩
  rw [I.mv]
  refine ⟨hp, ?_⟩
  have hs := I.srt
  rwa [List.filter_eq_self.2 fun x hx => by
    have := upN_mem.1 (hp.mem_iff.1 hx)
    simpa using (I.set x).2 (.inr this)] at hs


def ranksR (l : List Slp) (n : Int) : List Int × Int :=
  if 60 < l.length then ([], 4) else if ¬ l.all slipB = true then ([], 31) else if ¬ (1 ≤ n ∧ n ≤ 4) then ([], 2) else (l.map fun s => (rankF (cmpBy n) l s : Int), 0)
theorem rank_le {α : Type} (f : α → α → Int) (l : List α) (s : α) : rankF f l s ≤ l.length := by
  have := List.length_filter_le (isFst f l s) (List.range l.length)
  rw [List.length_range] at this
  exact this
theorem ranksR_ok {l : List Slp} {n : Int} (h1 : l.length ≤ 60) (h2 : l.all slipB = true) (h3 : 1 ≤ n ∧ n ≤ 4) : ranksR l n = (l.map fun s => (rankF (cmpBy n) l s : Int), 0) := by
  rw [ranksR, if_neg (by omega), if_neg (by simp [h2]), if_neg (by simp [h3])]
theorem ranks_deck {l : List Slp} {n : Int} : ∀ x ∈ (l.map fun s => (rankF (cmpBy n) l s : Int)), 0 ≤ x ∧ x ≤ l.length := by
  intro x hx
  obtain ⟨s, _, rfl⟩ := List.mem_map.1 hx
  have := rank_le (cmpBy n) l s
  omega

theorem RowV.place {w : World} {agg : Bool} {k l c j : Nat} {a : Option Addr} {xs : List Value} {x : Value} (h : RowV w agg k (.slice a l c) xs) (hj : xs[j]? = some x) : ∃ b o, a = some ⟨b, o, none⟩ ∧ At w b (o + j * k) x.cells.toList := by
  rcases h.at_ with ⟨rfl, _⟩ | ⟨b, o, c', hv, hl, hc⟩
  · simp at hj
  · simp only [Value.slice.injEq] at hv
    exact ⟨b, o, hv.1, hc j x hj⟩
theorem list_ne_len {α : Type} {xs ys : List α} (h : xs.length ≠ ys.length) : xs ≠ ys := fun e => h (by rw [e])
theorem list_ne_get {α : Type} {xs ys : List α} {k : Nat} (hk : k < xs.length) (hk' : k < ys.length) (h : xs[k] ≠ ys[k]) : xs ≠ ys := fun e => by subst e; exact h rfl
theorem list_eq_get {α : Type} {xs ys : List α} (hl : xs.length = ys.length) (h : ∀ k (h1 : k < xs.length) (h2 : k < ys.length), xs[k] = ys[k]) : xs = ys := List.ext_getElem hl h


section
variable (a : Option Addr) (c : Nat) (d : List Int) (w : World) [hrow : RowI w (.slice a d.length c) false 1 (d.map intV)]
end


def exD : List Int := [3, 1, 2, 1]

theorem pass_is {b m p q : Nat} (h : PassR b m p) (g1 : m < b ^ q) (g2 : ∀ i, i < q → b ^ i ≤ m) : p = q := h.uniq ⟨g1, g2⟩
def fileE (l : List Slp) (by_ boxes : Int) : Int := if (ranksR l by_).2 = 0 then opE (ranksR l by_).1 boxes else (ranksR l by_).2
def fileL (l : List Slp) (by_ boxes : Int) : List Slp := if fileE l by_ boxes = 0 then (ordF (ranksR l by_).1).map fun i => l.getD i.toNat ((0, 0, 0), ⟨#[]⟩, ⟨#[]⟩, ⟨#[]⟩) else []
def FileR (l : List Slp) (by_ boxes : Int) (B : Nat) (v : Value) (w' : World) : Prop :=
  ∃ (p : Nat) (a : Option Addr) (c : Nat), (if fileE l by_ boxes = 0 then PassR boxes.toNat (endF (ranksR l by_).1).length p else p = 0) ∧
    v = .tuple #[.slice a (fileL l by_ boxes).length c, .int .i64 (p : Int), .int .i64 (fileE l by_ boxes)] ∧ OwnL w' B 46 true 6 (.slice a (fileL l by_ boxes).length c) ((fileL l by_ boxes).map encSl)

abbrev xSea : ByteArray := ⟨#[115, 101, 97]⟩
abbrev xOld : ByteArray := ⟨#[111, 108, 100]⟩
abbrev xIs : ByteArray := ⟨#[105, 115]⟩
abbrev xAnd : ByteArray := ⟨#[97, 110, 100]⟩
def exS : List Slp := [((0, 0, 0), xSea, ⟨#[]⟩, ⟨#[]⟩), ((0, 0, 0), xOld, ⟨#[]⟩, ⟨#[]⟩), ((0, 0, 0), xSea, ⟨#[]⟩, xIs), ((0, 0, 0), xAnd, ⟨#[]⟩, ⟨#[]⟩)]

section
variable {α : Type} {f : α → α → Int} (hf : Pre3 f)
include hf
theorem srt_ex (l : List α) : ∃ r : List α, r.Perm l ∧ r.Pairwise (fun a b => f b a ≠ -1) := by
  refine ⟨l.mergeSort (fun a b => decide (f b a ≠ -1)), List.mergeSort_perm _ _, ?_⟩
  have h := List.pairwise_mergeSort (le := fun a b => decide (f b a ≠ -1)) (fun a b c h1 h2 => by
    simp only [decide_eq_true_eq] at *
    intro h3
    have r1 := hf.r a b
    have a1 := hf.anti a b
    by_cases e : f a b = 0
    · have := hf.eql a b c e
      have := hf.anti a c
      have := hf.anti b c
      omega
    · have := hf.tr c a b h3 (by omega)
      omega) (fun a b => by
    have r1 := hf.r a b
    have a1 := hf.anti a b
    rw [Bool.or_eq_true, decide_eq_true_eq, decide_eq_true_eq]
    omega) l
  exact h.imp fun h => of_decide_eq_true h
theorem rk_ex (l : List α) : ∃ C : List α, (∀ c ∈ C, c ∈ l) ∧ C.Pairwise (fun a b => f a b = -1) ∧ (∀ x ∈ l, ∃ c ∈ C, f c x = 0) ∧ ∀ s, rankF f l s = (C.filter fun c => decide (f c s < 0)).length := by
  obtain ⟨r, hp, hs⟩ := srt_ex hf l
  obtain ⟨h1, h2, h3⟩ := cpt_facts hf hs
  exact ⟨cptL f r, fun c hc => hp.mem_iff.1 (h1 c hc), h2, fun x hx => h3 x (hp.mem_iff.2 hx), fun s => rank_cpt hf hp hs⟩
theorem rank_eq {l : List α} {a b : α} (h : f a b = 0) : rankF f l a = rankF f l b := by
  obtain ⟨C, -, -, -, e⟩ := rk_ex hf l
  rw [e, e]
  congr 1
  refine List.filter_congr fun c _ => ?_
  have h1 := hf.eql a b c h
  have h2 := hf.anti c a
  have h3 := hf.anti c b
  rw [show f c a = f c b by omega]
theorem rank_lt {l : List α} {a b : α} (ha : a ∈ l) (h : f a b < 0) : rankF f l a < rankF f l b := by
  obtain ⟨C, -, -, hr, e⟩ := rk_ex hf l
  rw [e, e]
  have hab : f a b = -1 := by have := hf.r a b; omega
  have hs : C.filter (fun c => decide (f c a < 0)) = (C.filter fun c => decide (f c b < 0)).filter fun c => decide (f c a < 0) := by
    rw [List.filter_filter]
    refine List.filter_congr fun c _ => ?_
    by_cases hc : f c a < 0
    · have h1 := hf.r c a
      have := hf.tr c a b (by omega) hab
      have h2 : f c b < 0 := by omega
      simp [hc, h2]
    · simp [hc]
  rw [hs, List.length_filter_lt_length_iff_exists]
  obtain ⟨c, hc, e0⟩ := hr a ha
  refine ⟨c, List.mem_filter.2 ⟨hc, ?_⟩, ?_⟩
  · rw [hf.eql c a b e0]; exact decide_eq_true h
  · simp [e0]
theorem rank_law {l : List α} {a b : α} (ha : a ∈ l) (hb : b ∈ l) : (f a b = 0 → rankF f l a = rankF f l b) ∧ (f a b < 0 → rankF f l a < rankF f l b) ∧ (0 < f a b → rankF f l b < rankF f l a) :=
  ⟨rank_eq hf, rank_lt hf ha, fun h => rank_lt hf hb (by have := hf.anti a b; omega)⟩
end

abbrev dS : Slp := ((0, 0, 0), ⟨#[]⟩, ⟨#[]⟩, ⟨#[]⟩)
def rkD (n : Int) (l : List Slp) : List Int := l.map fun s => (rankF (cmpBy n) l s : Int)
def filF (d : List Int) (l : List Slp) : List Slp := (ordF d).map fun i => l.getD i.toNat dS
theorem rkD_len (n : Int) (l : List Slp) : (rkD n l).length = l.length := List.length_map _
theorem upN_get' (l : List Slp) : ((upN l.length).map fun i => l.getD i.toNat dS) = l := by
  refine List.ext_getElem (by simp [upN]) fun i h1 h2 => ?_
  simp [upN, h2]
theorem fil_perm {d : List Int} {l : List Slp} (h : d.length = l.length) : (filF d l).Perm l := by
  have := (ordF_perm d).map fun i : Int => l.getD i.toNat dS
  rwa [h, upN_get'] at this
theorem rkD_key {n : Int} {l : List Slp} {x : Int} (h : 0 ≤ x ∧ x < l.length) : keyD (rkD n l) x = (rankF (cmpBy n) l (l.getD x.toNat dS) : Int) := by
  have hx : x.toNat < l.length := by omega
  rw [key_nat h.1, gd_lt (by rw [rkD_len]; exact hx)]
  simp [rkD, hx]
theorem fil_keys (n : Int) (l : List Slp) : ((filF (rkD n l) l).map fun s => (rankF (cmpBy n) l s : Int)) = (ordF (rkD n l)).map (keyD (rkD n l)) := by
  rw [filF, List.map_map]
  refine List.map_congr_left fun x hx => ?_
  have := ordF_in.1 hx
  rw [rkD_len] at this
  exact (rkD_key this).symm
theorem fil_srt (n : Int) (l : List Slp) : ((filF (rkD n l) l).map fun s => (rankF (cmpBy n) l s : Int)).Pairwise (· ≤ ·) := by
  rw [fil_keys, List.pairwise_map]
  exact (ordF_pair _).imp fun h => by unfold bfD at h; omega
theorem fil_ord (n : Int) (l : List Slp) : (filF (rkD n l) l).Pairwise fun x y => cmpBy n x y ≤ 0 := by
  have h := fil_srt n l
  rw [List.pairwise_map] at h
  refine List.Pairwise.imp_of_mem (fun {a b} ha hb hab => ?_) h
  have ha' := (fil_perm (rkD_len n l)).mem_iff.1 ha
  have hb' := (fil_perm (rkD_len n l)).mem_iff.1 hb
  refine Int.not_lt.1 fun h0 => ?_
  have := (rank_law (pre_by n) ha' hb').2.2 h0
  omega
theorem ranks_rkD {n : Int} {l : List Slp} (h1 : l.length ≤ 60) (h2 : l.all slipB = true) (h3 : 1 ≤ n ∧ n ≤ 4) : ranksR l n = (rkD n l, 0) := ranksR_ok h1 h2 h3
theorem rkD_deck {n : Int} {l : List Slp} (h1 : l.length ≤ 60) : deckB (rkD n l) = true := by
  rw [deckB, Bool.and_eq_true, decide_eq_true_eq, List.all_eq_true, rkD_len]
  exact ⟨h1, fun x hx => by have := ranks_deck (l := l) (n := n) x hx; rw [inB, decide_eq_true_eq]; omega⟩
theorem rkD_open {n boxes : Int} {l : List Slp} (h1 : l.length ≤ 60) (hb : 2 ≤ boxes ∧ boxes ≤ 20) : opE (rkD n l) boxes = 0 := by
  rw [opE, rkD_deck h1, if_pos rfl, if_pos (by rw [inB, decide_eq_true_eq]; exact hb)]
section
variable {n boxes : Int} {l : List Slp} (h1 : l.length ≤ 60) (h2 : l.all slipB = true) (h3 : 1 ≤ n ∧ n ≤ 4) (hb : 2 ≤ boxes ∧ boxes ≤ 20)
include h1 h2 h3 hb
theorem file_ok : fileE l n boxes = 0 := by rw [fileE, ranks_rkD h1 h2 h3, if_pos rfl]; exact rkD_open h1 hb
theorem file_fil : fileL l n boxes = filF (rkD n l) l := by rw [fileL, if_pos (file_ok h1 h2 h3 hb), ranks_rkD h1 h2 h3]; rfl
theorem file_perm : (fileL l n boxes).Perm l := by rw [file_fil h1 h2 h3 hb]; exact fil_perm (rkD_len n l)
theorem file_ord : (fileL l n boxes).Pairwise fun x y => cmpBy n x y ≤ 0 := by rw [file_fil h1 h2 h3 hb]; exact fil_ord n l
end

theorem late_ris {F T : List Slp} (hF : F.Pairwise fun x y => cmpBy 1 x y ≤ 0) : RisI (rkD 1 (F ++ T)) (upN F.length) := by
  refine ⟨fun x hx => ?_, ?_⟩
  · have := upN_mem.1 hx
    rw [rkD_len, List.length_append]; omega
  · refine List.Pairwise.imp_of_mem (fun {a b} ha hb hab => ⟨hab, ?_⟩) (upN_up F.length)
    have h1 := upN_mem.1 ha
    have h2 := upN_mem.1 hb
    rw [rkD_key (by rw [List.length_append]; omega), rkD_key (by rw [List.length_append]; omega)]
    have ga : (F ++ T).getD a.toNat dS = F[a.toNat]'(by omega) := by
      rw [List.getD_eq_getElem?_getD, List.getElem?_append_left (by omega), List.getElem?_eq_getElem (by omega)]; rfl
    have gb : (F ++ T).getD b.toNat dS = F[b.toNat]'(by omega) := by
      rw [List.getD_eq_getElem?_getD, List.getElem?_append_left (by omega), List.getElem?_eq_getElem (by omega)]; rfl
    rw [ga, gb]
    have hle := List.pairwise_iff_getElem.1 hF a.toNat b.toNat (by omega) (by omega) (by omega)
    have ma : F[a.toNat]'(by omega) ∈ F ++ T := List.mem_append_left _ (List.getElem_mem _)
    have mb : F[b.toNat]'(by omega) ∈ F ++ T := List.mem_append_left _ (List.getElem_mem _)
    have h := rank_law (pre_by 1) ma mb
    by_cases e : cmpBy 1 (F[a.toNat]'(by omega)) (F[b.toNat]'(by omega)) = 0
    · have := h.1 e; omega
    · have := h.2.1 (by omega); omega
theorem right_want {D W : List Slp} {L : List Int} (hnd : D.Nodup) (hW : W.Perm D) (hWo : W.Pairwise fun x y => cmpBy 1 x y ≤ 0) (hL : RightI (rkD 1 D) L) : (L.map fun i => D.getD i.toNat dS) = W := by
  have hp : (L.map fun i : Int => D.getD i.toNat dS).Perm D := by
    have := hL.1.map fun i : Int => D.getD i.toNat dS
    rwa [rkD_len, upN_get'] at this
  have hin : ∀ x ∈ L, 0 ≤ x ∧ x < (D.length : Int) := fun x hx => by
    have := upN_mem.1 (hL.1.mem_iff.1 hx)
    rwa [rkD_len] at this
  have strict : ∀ {X : List Slp}, X.Nodup → (X.Pairwise fun x y => cmpBy 1 x y ≤ 0) → X.Pairwise fun x y => ordS x y = -1 := fun hn ho => by
    refine List.Pairwise.imp (R := fun x y => cmpBy 1 x y ≤ 0 ∧ x ≠ y) (fun {a b} hab => ?_) (ho.and hn)
    have e : cmpBy 1 a b = ordS a b := rfl
    have := ord_slip.r a b
    have := mt (ord_slip.z a b).1 hab.2
    rw [e] at hab
    omega
  refine perm_uniq (R := fun x y => ordS x y = -1) (fun a b h1 h2 => by have := ord_slip.anti a b; omega) (hp.trans hW.symm) (strict (hp.nodup_iff.2 hnd) ?_) (strict (hW.nodup_iff.2 hnd) hWo)
  rw [List.pairwise_map]
  refine List.Pairwise.imp_of_mem (fun {a b} ha hb hab => ?_) hL.2
  have h1 := hin a ha
  have h2 := hin b hb
  rw [rkD_key h1, rkD_key h2] at hab
  have ma : D.getD a.toNat dS ∈ D := by rw [List.getD_eq_getElem?_getD, List.getElem?_eq_getElem (by omega), Option.getD_some]; exact List.getElem_mem _
  have mb : D.getD b.toNat dS ∈ D := by rw [List.getD_eq_getElem?_getD, List.getElem?_eq_getElem (by omega), Option.getD_some]; exact List.getElem_mem _
  refine Int.not_lt.1 fun h0 => ?_
  have := (rank_law (pre_by 1) ma mb).2.2 h0
  omega
theorem late_few {F T : List Slp} {C : List Int} (hF : F.Pairwise fun x y => cmpBy 1 x y ≤ 0) (hC : BegR (rkD 1 (F ++ T)) C) {l : List (Int × Int)} (hl : l = (mendF (rkD 1 (F ++ T)) (keepK (rkD 1 (F ++ T)) C) (rkD 1 (F ++ T)).length).2.2) : l.length ≤ T.length := by
  have h1 := ris_keep hC (late_ris (T := T) hF)
  have h2 := (mend_facts hC hl).1
  rw [upN_len] at h1
  rw [rkD_len, List.length_append] at h2
  omega

abbrev lateB (t : Tx) (D : Nat → Bool) (s : Slp) : Bool := D (lineN t s.1)
theorem late_place {t : Tx} {D : Nat → Bool} {L : List Slp} {s : Slp} (hs : s ∈ L) : s.1 ∈ (L.filter (lateB t D)).map (·.1) ↔ lateB t D s = true := by
  constructor
  · intro h
    obtain ⟨s', h1, h2⟩ := List.mem_map.1 h
    have := (List.mem_filter.1 h1).2
    simp only [lateB] at this ⊢
    rw [← h2]; exact this
  · intro h
    exact List.mem_map.2 ⟨s, List.mem_filter.2 ⟨hs, h⟩, rfl⟩
def sureL (L : List Slp) (P : List Pl) : List Slp := L.filter fun s => !decide (s.1 ∈ P)
theorem sureL_snoc {L : List Slp} {P : List Pl} {k : Nat} (hk : k < L.length) : sureL (L.take (k + 1)) P = sureL (L.take k) P ++ if L[k].1 ∈ P then [] else [L[k]] := by
  rw [sureL, take_snoc_get (List.getElem?_eq_getElem hk), List.filter_append, ← sureL]
  congr 1
  by_cases h : L[k].1 ∈ P
  · rw [if_pos h, List.filter_cons_of_neg (by simpa using h)]; rfl
  · rw [if_neg h, List.filter_cons_of_pos (by simpa using h)]; rfl
theorem sure_perm (t : Tx) (D : Nat → Bool) (L : List Slp) : (sureL L ((L.filter (lateB t D)).map (·.1)) ++ L.filter (lateB t D)).Perm L := by
  have e : sureL L ((L.filter (lateB t D)).map (·.1)) = L.filter fun s => !lateB t D s := by
    refine List.filter_congr fun s hs => ?_
    have := late_place (t := t) (D := D) hs
    by_cases h : lateB t D s = true
    · rw [h, decide_eq_true (this.2 h)]
    · rw [Bool.not_eq_true] at h
      rw [h, decide_eq_false fun h' => by rw [this.1 h'] at h; cases h]
  rw [e]
  have := List.filter_append_perm (lateB t D) L
  exact List.perm_append_comm.trans this

abbrev wOldSea : ByteArray := ⟨#[111, 108, 100, 32, 115, 101, 97]⟩
abbrev wSeaSea : ByteArray := ⟨#[115, 101, 97, 32, 115, 101, 97]⟩
def lateT : Tx := [(3, [[wOld, wSea], [wSea]])]
def l0 : Slp := ((0, 0, 0), wOld, wNo, wSeaSea)
def l1 : Slp := ((0, 0, 1), wSea, wOld, wSea)
def l2 : Slp := ((0, 1, 0), wSea, wOldSea, wNo)
theorem late_valid : textB lateT = true := by kernel_rfl
theorem late_cut : cutB 12 1 = true := by kernel_rfl
theorem late_all : allP lateT lateT.length = [(0, 0, 0), (0, 0, 1), (0, 1, 0)] := by kernel_rfl
theorem late_lines : prL lateT lateT.length = [(0, 0), (0, 1)] := by kernel_rfl
theorem late_s0 : slP lateT 1 12 (0, 0, 0) = l0 := by
  rw [slP_eq (k := 0) (i := 0) (by decide) (by kernel_rfl)]; kernel_rfl
theorem late_s1 : slP lateT 1 12 (0, 0, 1) = l1 := by
  rw [slP_eq (k := 0) (i := 1) (by decide) (by kernel_rfl)]; kernel_rfl
theorem late_s2 : slP lateT 1 12 (0, 1, 0) = l2 := by
  rw [slP_eq (k := 0) (i := 2) (by decide) (by kernel_rfl)]; kernel_rfl
theorem late_slips : allS lateT 1 12 = [l0, l1, l2] := by
  rw [allS, late_all, List.map_cons, List.map_cons, List.map_cons, List.map_nil, late_s0, late_s1, late_s2]
theorem late_doubt {D : Nat → Bool} (h : ∀ n, n < 2 → D n = true) : doubtL lateT 1 12 D 2 = [l0, l1, l2] := by
  have e : doubtL lateT 1 12 D 2 = doubtL lateT 1 12 (fun _ => true) 2 := by
    rw [doubtL_succ, doubtL_succ, doubtL_succ, doubtL_succ, h 0 (by omega), h 1 (by omega)]
    rfl
  have h2 := doubt_filter lateT 1 12 (fun _ => true)
  rw [late_lines] at h2
  rw [e]
  refine h2.trans ?_
  rw [late_slips]
  rfl
abbrev ltS : List Slp := [l2, l1, l0]
theorem ltS_right : ltS.all slipB = true := by decide +kernel
theorem ltS_small : ∀ s ∈ ltS, SmallS s := by unfold SmallS; decide +kernel
theorem ltS_ranks : ranksR ltS 1 = ([2, 1, 0], 0) := by
  rw [ranksR_ok (by decide) ltS_right (by decide)]
  decide +kernel
theorem ltS_err : fileE ltS 1 2 = 0 := by rw [fileE, ltS_ranks]; decide +kernel
theorem ltS_file : fileL ltS 1 2 = [l0, l1, l2] := by
  rw [fileL, if_pos ltS_err, ltS_ranks]
  decide +kernel
theorem ltS_pass {p : Nat} (h : if fileE ltS 1 2 = 0 then PassR (2 : Int).toNat (endF (ranksR ltS 1).1).length p else p = 0) : p = 2 := by
  rw [if_pos ltS_err, ltS_ranks] at h
  refine pass_is (m := 2) (b := 2) ?_ (by decide) (by decide)
  have e : (endF [2, 1, 0]).length = 2 := by decide +kernel
  rw [← e]; exact h
theorem lt_beg : BegR [2, 1] [1, 1] where
  len := rfl
  pos := by decide
  up i k h1 h2 := (show ∀ k, k < 2 → ∀ i, i < k → gd [2, 1] i ≤ gd [2, 1] k → gd [1, 1] k + 1 ≤ gd [1, 1] i by decide) k h2 i h1
  ex i hi := by
    have := (show ∀ i, i < 2 → gd [1, 1] i = 1 by decide) i hi
    exact .inl this
theorem lt_deck : deckB [2, 1] = true := by decide +kernel

theorem lateCut_top (w : World) : Ct Tryz.prog 16 [] w fun v _ => v = encCut 12 1 := by
  refine Ct.ofW (by simp) ?_
  (((refine jjB (jjC ?_))); refine jjY ?_; intro b2 w_b2 hb_b2 hs_b2 hS_b2 hk_b2; have hA_b2 := Bk.of hk_b2)
  (refine jz (jjB (jjC ?_)))
  (refine jjS (cells := [.int .i64 12, .int .u8 1]) ?_ ?_; exact rfl)
  refine Ops.store rfl rfl rfl rfl rfl ?_
  intro V2 hp2
  have := Bk.toAt (h := Bk.of hp2.new)
  (refine jz (jjF ?_))
  exact fin1C rfl rfl rfl rfl rfl ⟨hp2.ext hS_b2.ext (by omega), rfl⟩
set_option maxHeartbeats 4000000 in
theorem lateRound_top (w : World) : Ct Tryz.prog 15 [] w fun v w' => ∃ (a : Option Addr) (c : Nat) (cs : List Ch) (ha : Option Addr) (hc : Nat), v = .agg #[.slice a cs.length c, .slice ha 1 hc, .slice none 0 0, .slice none 0 0] ∧ RowV w' true 2 (.slice a cs.length c) (cs.map encCh) ∧ TextI w' cs ∧ RowV w' true 3 (.slice ha 1 hc) (([(1, 1, 1)] : List Hp).map encHp) ∧ txF cs = lateT := by
  refine Ct.ofW (by simp) ?_
  (((refine jjB (jjC ?_))); refine jjY ?_; intro b0 w_b0 hb_b0 hs_b0 hS_b0 hk_b0; have hA_b0 := Bk.of hk_b0)
  (refine jz (jjB (jjC ?_)))
  refine Ops.buildSliceF (cells := [strV wOld, strV wSea]) rfl rfl rfl ?_
  intro b1 w1 hb1 hs1 hS1 hk1
  refine Ops.buildSliceF (cells := [strV wSea]) rfl rfl rfl ?_
  intro b2 w2 hb2 hs2 hS2 hk2
  refine Ops.buildSliceF (cells := [.slice (some ⟨b1, 0, none⟩) 2 2, .slice (some ⟨b2, 0, none⟩) 1 1]) rfl rfl rfl ?_
  intro b3 w3 hb3 hs3 hS3 hk3
  (refine jjS (cells := [.int .i64 3, .slice (some ⟨b3, 0, none⟩) 2 2]) ?_ ?_; exact rfl)
  refine Ops.buildSliceF (cells := [.int .i64 3, .slice (some ⟨b3, 0, none⟩) 2 2]) rfl rfl rfl ?_
  intro b5 w5 hb5 hs5 hS5 hk5
  (refine jjS (cells := [.slice (some ⟨b5, 0, none⟩) 1 1]) ?_ ?_; exact rfl)
  (refine jjS (cells := [.int .i64 1, .int .i64 1, .int .i64 1]) ?_ ?_; exact rfl)
  refine Ops.buildSliceF (cells := [.int .i64 1, .int .i64 1, .int .i64 1]) rfl rfl rfl ?_
  intro b8 w8 hb8 hs8 hS8 hk8
  (refine jjS (cells := [.slice (some ⟨b5, 0, none⟩) 1 1, .slice (some ⟨b8, 0, none⟩) 1 1, .slice none 0 0, .slice none 0 0]) ?_ ?_; exact rfl)
  have hb0 : Bk w8 b0 [.slice none 0 0, .slice none 0 0, .slice none 0 0, .slice none 0 0] 29 := inferInstance
  have hE8 : Ext w w8 := inferInstance
  have k1 : Bk w8 b1 [strV wOld, strV wSea] 9 := inferInstance
  have k2 : Bk w8 b2 [strV wSea] 9 := inferInstance
  have k3 : Bk w8 b3 [.slice (some ⟨b1, 0, none⟩) 2 2, .slice (some ⟨b2, 0, none⟩) 1 1] 66 := inferInstance
  have k5 : Bk w8 b5 [.int .i64 3, .slice (some ⟨b3, 0, none⟩) 2 2] 118 := inferInstance
  refine Ops.store rfl rfl rfl rfl rfl ?_
  intro V2 hp2
  have := Bk.toAt (h := Bk.of hp2.new)
  have z0 := hS_b0.size
  have z1 := hS1.size
  have z2 := hS2.size
  have z3 := hS3.size
  have z5 := hS5.size
  have z8 := hS8.size
  have m1 := hp2.bk k1 (by omega)
  have m2 := hp2.bk k2 (by omega)
  have m3 := hp2.bk k3 (by omega)
  have m5 := hp2.bk k5 (by omega)
  have m8 := hp2.bk hk8 (by omega)
  (refine jz (jjF ?_))
  refine fin1C rfl rfl rfl rfl rfl ⟨hp2.ext hE8 (by omega), some ⟨b5, 0, none⟩, 1, [(3, some ⟨b3, 0, none⟩, 2, [(some ⟨b1, 0, none⟩, 2, [wOld, wSea]), (some ⟨b2, 0, none⟩, 1, [wSea])])], some ⟨b8, 0, none⟩, 1, rfl, ?_, ⟨?_, ?_⟩, ?_, rfl⟩
  · exact Bk.rows (xs := [encCh (3, some ⟨b3, 0, none⟩, 2, [(some ⟨b1, 0, none⟩, 2, [wOld, wSea]), (some ⟨b2, 0, none⟩, 1, [wSea])])]) m5 (by simp [fitsV]) (by simp)
  · intro x hx
    simp only [List.mem_cons, List.not_mem_nil, or_false] at hx
    subst hx
    exact m3.row (fun x hx => by simp at hx; rcases hx with rfl | rfl <;> rfl) (by simp)
  · intro x hx
    simp only [List.mem_cons, List.not_mem_nil, or_false] at hx
    subst hx
    intro y hy
    simp only [List.mem_cons, List.not_mem_nil, or_false] at hy
    rcases hy with rfl | rfl
    · exact m1.row (strs_fit [_, _]) (by simp)
    · exact m2.row (strs_fit [_]) (by simp)
  · exact Bk.rows (xs := [encHp (1, 1, 1)]) m8 (by simp [fitsV]) (by simp)

structure SmallX (hs : List Hp) (ss : List Shr) (xs : List Sht) : Prop where
  h : hs.length ≤ 8
  s : ss.length ≤ 12
  x : xs.length ≤ 12
  l : ∀ x ∈ xs, x.2.2.2.length ≤ 40 ∧ ∀ y ∈ x.2.2.2, y.2.2.length ≤ 15 ∧ ∀ t ∈ y.2.2, t.size ≤ 40
def lineSm (y : Ln) : Prop := y.2.2.length ≤ 15 ∧ ∀ t ∈ y.2.2, t.size ≤ 40
def sheetSm (x : Sht) : Prop := x.2.2.2.length ≤ 40 ∧ ∀ y ∈ x.2.2.2, lineSm y
section
variable (a : Option Addr) (c : Nat) (cs : List Ch) (ha : Option Addr) (hc : Nat) (hs : List Hp) (sa : Option Addr) (sc : Nat) (ss : List Shr) (xa : Option Addr) (xc : Nat) (xs : List Sht) (w : World)
  [hrow : RowI w (.slice a cs.length c) true 2 (cs.map encCh)] [hT : TextI w cs] [hhs : RowI w (.slice ha hs.length hc) true 3 (hs.map encHp)] [hss : RowI w (.slice sa ss.length sc) true 4 (ss.map encShr)] [hxs : RowI w (.slice xa xs.length xc) true 2 (xs.map encSht)] [hxi : ShtI w xs]
set_option maxHeartbeats 8000000 in
theorem Great_ref5 : Ct Tryz.prog 5 [.agg #[.slice a cs.length c, .slice ha hs.length hc, .slice sa ss.length sc, .slice xa xs.length xc]] w fun v _ => ∃ b, v = .bool b ∧ (b = false → greatT (txF cs) = false ∧ SmallX hs ss xs) := by
  have hlh := hhs.h.len
  have hls := hss.h.len
  have hlx := hxs.h.len
  rw [List.length_map] at hlh hls hlx
  refine Ct.ofW (by simp) ?_
  (refine jjB (jjC ?_))
  (refine jy rfl ?_; intro b1 w_b1 hb_b1 hs_b1 hS_b1 hk_b1; have hA_b1 := At.ofBlock hk_b1)
  have A1 : At w_b1 b1 0 [.slice a cs.length c, .slice ha hs.length hc, .slice sa ss.length sc, .slice xa xs.length xc] := At.ofBlock hk_b1
  obtain ⟨G, hG⟩ : ∃ G, greatT (txF cs) = G := ⟨_, rfl⟩
  (refine jJ (eB rfl) (jz (jjB (jjB (jjC (jm ?_))))); refine jn rfl (jO rfl rfl rfl rfl ?_))
  refine jjQ ((Great_ref1 a c cs _).mono fun v _ _ h => h.trans (by rw [hG])) rfl rfl ?_
  rintro _ w2 hS2 rfl
  cases G with
  | true =>
    (refine jI (eB rfl) (jU rfl rfl rfl rfl (jU rfl rfl rfl rfl (jU rfl rfl rfl rfl (jU rfl rfl rfl rfl (jK rfl (eB rfl) ?_))))); refine jI (eB rfl) (jU rfl rfl rfl rfl (jU rfl rfl rfl rfl (jU rfl rfl rfl rfl (jU rfl rfl rfl rfl (jK rfl (eB rfl) ?_))))); refine jI (eB rfl) (jU rfl rfl rfl rfl (jU rfl rfl rfl rfl (jU rfl rfl rfl rfl (jU rfl rfl rfl rfl (jK rfl (eB rfl) ?_))))); refine jz (jjJ rfl (jjB (jjC (jJ (eB rfl) (jz ?_))))); refine jjF ?_; refine jB rfl rfl ⟨inferInstance, ?_⟩)
    exact ⟨_, rfl, fun h => by cases h⟩
  | false =>
  by_cases h8 : 8 < hs.length
  · (refine jI (eB rfl) (jT rfl rfl rfl (jm (jn rfl (jT rfl rfl rfl (jN rfl rfl rfl ?_))))); refine jT rfl rfl rfl (jh rfl (jT rfl rfl rfl (jjd rfl rfl (by omega) (jL rfl (eB rfl) (jI (eB rfl) ?_))))); refine jU rfl rfl rfl rfl (jU rfl rfl rfl rfl (jU rfl rfl rfl rfl (jU rfl rfl rfl rfl (jK rfl (eB rfl) (jI (eB rfl) ?_))))); refine jU rfl rfl rfl rfl (jU rfl rfl rfl rfl (jU rfl rfl rfl rfl (jU rfl rfl rfl rfl (jK rfl (eB rfl) (jz ?_))))); refine jjJ rfl (jjB (jjC (jJ (eB rfl) (jz (jjF ?_))))); refine jB rfl rfl ⟨inferInstance, ?_⟩)
    exact ⟨_, rfl, fun h => by cases h⟩
  by_cases h12 : 12 < ss.length
  · (refine jI (eB rfl) (jT rfl rfl rfl (jm (jn rfl (jT rfl rfl rfl (jN rfl rfl rfl ?_))))); refine jT rfl rfl rfl (jh rfl (jT rfl rfl rfl (jje rfl rfl (by omega) (jL rfl (eB rfl) (jI (eB rfl) ?_))))); refine jT rfl rfl rfl (jm (jn rfl (jT rfl rfl rfl (jN rfl rfl rfl (jT rfl rfl rfl ?_))))); refine jh rfl (jT rfl rfl rfl (jjd rfl rfl (by omega) (jL rfl (eB rfl) (jI (eB rfl) (jU rfl rfl rfl rfl ?_))))); refine jU rfl rfl rfl rfl (jU rfl rfl rfl rfl (jU rfl rfl rfl rfl (jK rfl (eB rfl) (jz (jjJ rfl ?_))))); refine jjB (jjC (jJ (eB rfl) (jz (jjF ?_)))); refine jB rfl rfl ⟨inferInstance, ?_⟩)
    exact ⟨_, rfl, fun h => by cases h⟩
  by_cases h13 : 12 < xs.length
  · (refine jI (eB rfl) (jT rfl rfl rfl (jm (jn rfl (jT rfl rfl rfl (jN rfl rfl rfl ?_))))); refine jT rfl rfl rfl (jh rfl (jT rfl rfl rfl (jje rfl rfl (by omega) (jL rfl (eB rfl) (jI (eB rfl) ?_))))); refine jT rfl rfl rfl (jm (jn rfl (jT rfl rfl rfl (jN rfl rfl rfl (jT rfl rfl rfl ?_))))); refine jh rfl (jT rfl rfl rfl (jje rfl rfl (by omega) (jL rfl (eB rfl) (jI (eB rfl) (jT rfl rfl rfl ?_))))); refine jm (jn rfl (jT rfl rfl rfl (jN rfl rfl rfl (jT rfl rfl rfl (jh rfl ?_))))); refine jT rfl rfl rfl (jjd rfl rfl (by omega) (jL rfl (eB rfl) (jz (jjJ rfl (jjB ?_))))); refine jjC (jJ (eB rfl) (jz (jjF ?_))); refine jB rfl rfl ⟨inferInstance, ?_⟩)
    exact ⟨_, rfl, fun h => by cases h⟩
  (refine jI (eB rfl) (jT rfl rfl rfl (jm (jn rfl (jT rfl rfl rfl (jN rfl rfl rfl ?_))))); refine jT rfl rfl rfl (jh rfl (jT rfl rfl rfl (jje rfl rfl (by omega) (jL rfl (eB rfl) (jI (eB rfl) ?_))))); refine jT rfl rfl rfl (jm (jn rfl (jT rfl rfl rfl (jN rfl rfl rfl (jT rfl rfl rfl ?_))))); refine jh rfl (jT rfl rfl rfl (jje rfl rfl (by omega) (jL rfl (eB rfl) (jI (eB rfl) (jT rfl rfl rfl ?_))))); refine jm (jn rfl (jT rfl rfl rfl (jN rfl rfl rfl (jT rfl rfl rfl (jh rfl ?_))))); refine jT rfl rfl rfl (jje rfl rfl (by omega) (jL rfl (eB rfl) (jz (jjK rfl (jjG ?_))))); refine jjB (jjB (jjC (jJ (eI rfl) (jz (jjD ?_))))))
  refine W.keep0 [(1, .pointer (some ⟨b1, 0, none⟩)), (3, .int .i64 ((0 : Nat) : Int))] ⟨eP rfl, eI rfl, trivial⟩ fun s0 => ?_
  refine W.loop (27 :: 28 :: 29 :: 30 :: 31 :: 34 :: 35 :: 36 :: 37 :: 38 :: 39 :: 40 :: 41 :: 2 :: 4 :: 42 :: 43 :: 44 :: 45 :: 46 :: 47 :: 48 :: 49 :: 50 :: 53 :: 54 :: 55 :: 56 :: 57 :: 58 :: 59 :: 60 :: 61 :: 62 :: 63 :: 5 :: 64 :: 65 :: 66 :: 67 :: 68 :: 69 :: 70 :: 71 :: 72 :: 73 :: 74 :: 75 :: 78 :: 79 :: 80 :: 81 :: 82 :: 83 :: 84 :: 85 :: 86 :: 87 :: 88 :: 89 :: 90 :: 91 :: 76 :: 77 :: 51 :: 52 :: 32 :: 33 :: 3 :: []) (fun g s' V => ∃ k : Nat, s' 3 = .int .i64 ((k : Nat) : Int) ∧ g = xs.length - k ∧ k ≤ xs.length ∧ ∀ (j : Nat) (hj : j < xs.length), j < k → sheetSm xs[j]) xs.length ⟨0, rfl, rfl, Nat.zero_le _, by intros; omega⟩ ?_
  rintro _ sd w3 hS3 ⟨k, h3, rfl, hk, hpre⟩
  refine W.fix h3 ?_
  clear h3
  by_cases hk1 : k < xs.length
  rotate_left
  · (refine jjB (jjB (jjC (jI (eI rfl) (jm (jn rfl ?_))))); refine jN rfl rfl rfl (jh rfl (jja rfl rfl (by omega) (jz (jjK rfl (jjE ?_))))); refine jjB (jjC (jJ (eB rfl) (jz (jjF ?_)))); refine jB rfl rfl ⟨inferInstance, ?_⟩)
    refine ⟨_, rfl, fun _ => ⟨hG, by omega, by omega, by omega, fun x hx => ?_⟩⟩
    obtain ⟨j, hj, rfl⟩ := List.mem_iff_getElem.1 hx
    exact hpre j hj (by omega)
  have hX3 : ShtI w3 xs := inferInstance
  have i3 := hX3.line hk1
  have hll := i3.h.len
  rw [List.length_map] at hll
  by_cases h40 : 40 < xs[k].2.2.2.length
  · (refine jjB (jjB (jjC (jI (eI rfl) (jm (jn rfl ?_))))); refine jN rfl rfl rfl (jh rfl (jjZ rfl rfl (by omega) (jz (jjJ rfl (jjG ?_))))); refine jjB (jjD (jjB (jjB (jjC (jm ?_))))); refine jn rfl (jN rfl rfl rfl (jI (eI rfl) ?_)); refine jF rfl rfl rfl (map_get (by omega)) ?_; intro _ _ _; refine jm (jn rfl (jP rfl rfl rfl (jh rfl (jjd rfl rfl (by omega) (jz ?_))))); refine jjJ rfl (jjB (jjC (jJ (eB rfl) (jz (jjF ?_))))); refine jB rfl rfl ⟨inferInstance, ?_⟩)
    exact ⟨_, rfl, fun h => by cases h⟩
  (refine jjB (jjB (jjC (jI (eI rfl) (jm (jn rfl ?_))))); refine jN rfl rfl rfl (jh rfl (jjZ rfl rfl (by omega) (jz (jjJ rfl (jjG ?_))))); refine jjB (jjD (jjB (jjB (jjC (jm ?_))))); refine jn rfl (jN rfl rfl rfl (jI (eI rfl) ?_)); refine jF rfl rfl rfl (map_get (by omega)) ?_; intro _ _ _; refine jm (jn rfl (jP rfl rfl rfl (jh rfl (jje rfl rfl (by omega) (jz ?_))))); refine jjK rfl (jjG (jjB (jjC (jJ (eI rfl) (jz ?_))))); refine jjD ?_)
  refine W.keep [(1, .pointer (some ⟨b1, 0, none⟩)), (3, .int .i64 ((k : Nat) : Int)), (4, .int .i64 ((0 : Nat) : Int))] (D := (27 :: 28 :: 29 :: 30 :: 31 :: 34 :: 35 :: 36 :: 37 :: 38 :: 39 :: 40 :: 41 :: 2 :: 4 :: 42 :: 43 :: 44 :: 45 :: 46 :: 47 :: 48 :: 49 :: 50 :: 53 :: 54 :: 55 :: 56 :: 57 :: 58 :: 59 :: 60 :: 61 :: 62 :: 63 :: 5 :: 64 :: 65 :: 66 :: 67 :: 68 :: 69 :: 70 :: 71 :: 72 :: 73 :: 74 :: 75 :: 78 :: 79 :: 80 :: 81 :: 82 :: 83 :: 84 :: 85 :: 86 :: 87 :: 88 :: 89 :: 90 :: 91 :: 76 :: 77 :: 51 :: 52 :: 32 :: 33 :: 3 :: [])) (sO := upds s0 _) (by (((iterate 15 refine Same.upd rfl ?_); exact Same.ovN))) ⟨eP rfl, eI rfl, eI rfl, trivial⟩ fun s1 hs1 => ?_
  refine W.loop (42 :: 43 :: 44 :: 45 :: 46 :: 47 :: 48 :: 49 :: 50 :: 53 :: 54 :: 55 :: 56 :: 57 :: 58 :: 59 :: 60 :: 61 :: 62 :: 63 :: 2 :: 5 :: 64 :: 65 :: 66 :: 67 :: 68 :: 69 :: 70 :: 71 :: 72 :: 73 :: 74 :: 75 :: 78 :: 79 :: 80 :: 81 :: 82 :: 83 :: 84 :: 85 :: 86 :: 87 :: 88 :: 89 :: 90 :: 91 :: 76 :: 77 :: 51 :: 52 :: 4 :: []) (fun g s' V => ∃ n : Nat, s' 4 = .int .i64 ((n : Nat) : Int) ∧ g = xs[k].2.2.2.length - n ∧ n ≤ xs[k].2.2.2.length ∧ ∀ (j : Nat) (hj : j < xs[k].2.2.2.length), j < n → lineSm xs[k].2.2.2[j]) xs[k].2.2.2.length ⟨0, rfl, rfl, Nat.zero_le _, by intros; omega⟩ ?_
  rintro _ sd2 w4 hS4 ⟨n, h4, rfl, hn, hpre2⟩
  refine W.fix h4 ?_
  clear h4
  have hX4 : ShtI w4 xs := inferInstance
  have i4 := hX4.line hk1
  by_cases hn1 : n < xs[k].2.2.2.length
  rotate_left
  · (refine jjB (jjB (jjC (jI (eI rfl) (jm (jn rfl ?_))))); refine jN rfl rfl rfl (jI (eI rfl) ?_); refine jF rfl rfl rfl (map_get (by omega)) ?_; intro _ _ _; refine jm (jn rfl (jP rfl rfl rfl (jh rfl (jja rfl rfl (by omega) (jz ?_))))); refine jjK rfl (jjE (jjC (jI (eI rfl) (jY rfl rfl (by omega) (jJ (eI rfl) ?_))))); refine jz ?_)
    refine ⟨rfl, by (((iterate 13 refine Same.upd rfl ?_); refine Same.ovN' rfl ?_; assumption)), xs.length - (k + 1), by omega, inferInstance, k + 1, congrArg (Value.int .i64) (by omega), rfl, by omega, fun j hj hjk => ?_⟩
    by_cases e : j = k
    · subst e
      exact ⟨by omega, fun y hy => by
        obtain ⟨q, hq, rfl⟩ := List.mem_iff_getElem.1 hy
        exact hpre2 q hq (by omega)⟩
    · exact hpre j hj (by omega)
  have i5 : RowI w4 (.slice xs[k].2.2.2[n].1 xs[k].2.2.2[n].2.2.length xs[k].2.2.2[n].2.1) false 1 (xs[k].2.2.2[n].2.2.map strV) := hX4.word hk1 hn1
  have hlw := i5.h.len
  rw [List.length_map] at hlw
  by_cases h15 : 15 < xs[k].2.2.2[n].2.2.length
  · (refine jjB (jjB (jjC (jI (eI rfl) (jm (jn rfl ?_))))); refine jN rfl rfl rfl (jI (eI rfl) ?_); refine jF rfl rfl rfl (map_get (by omega)) ?_; intro _ _ _; refine jm (jn rfl (jP rfl rfl rfl (jh rfl (jjZ rfl rfl (by omega) (jz ?_))))); refine jjJ rfl (jjG (jjB (jjD (jjB (jjB ?_))))); refine jjC (jm (jn rfl (jN rfl rfl rfl (jI (eI rfl) ?_)))); refine jF rfl rfl rfl (map_get (by omega)) ?_; intro _ _ _; refine jm (jn rfl (jP rfl rfl rfl (jI (eI rfl) ?_))); refine jF rfl rfl rfl (map_get (by omega)) ?_; intro _ _ _; refine jQ rfl rfl (jh rfl (jjd rfl rfl (by omega) (jz (jjJ rfl (jjB ?_))))); refine jjC (jJ (eB rfl) (jz (jjF ?_))); refine jB rfl rfl ⟨inferInstance, ?_⟩)
    exact ⟨_, rfl, fun h => by cases h⟩
  (refine jjB (jjB (jjC (jI (eI rfl) (jm (jn rfl ?_))))); refine jN rfl rfl rfl (jI (eI rfl) ?_); refine jF rfl rfl rfl (map_get (by omega)) ?_; intro _ _ _; refine jm (jn rfl (jP rfl rfl rfl (jh rfl (jjZ rfl rfl (by omega) (jz ?_))))); refine jjJ rfl (jjG (jjB (jjD (jjB (jjB ?_))))); refine jjC (jm (jn rfl (jN rfl rfl rfl (jI (eI rfl) ?_)))); refine jF rfl rfl rfl (map_get (by omega)) ?_; intro _ _ _; refine jm (jn rfl (jP rfl rfl rfl (jI (eI rfl) ?_))); refine jF rfl rfl rfl (map_get (by omega)) ?_; intro _ _ _; refine jQ rfl rfl (jh rfl (jje rfl rfl (by omega) (jz (jjK rfl (jjG ?_))))); refine jjB (jjC (jJ (eI rfl) (jz (jjD ?_)))))
  refine W.keep [(1, .pointer (some ⟨b1, 0, none⟩)), (3, .int .i64 ((k : Nat) : Int)), (4, .int .i64 ((n : Nat) : Int)), (5, .int .i64 ((0 : Nat) : Int))] (D := (42 :: 43 :: 44 :: 45 :: 46 :: 47 :: 48 :: 49 :: 50 :: 53 :: 54 :: 55 :: 56 :: 57 :: 58 :: 59 :: 60 :: 61 :: 62 :: 63 :: 2 :: 5 :: 64 :: 65 :: 66 :: 67 :: 68 :: 69 :: 70 :: 71 :: 72 :: 73 :: 74 :: 75 :: 78 :: 79 :: 80 :: 81 :: 82 :: 83 :: 84 :: 85 :: 86 :: 87 :: 88 :: 89 :: 90 :: 91 :: 76 :: 77 :: 51 :: 52 :: 4 :: [])) (sO := upds s1 _) (by (((iterate 22 refine Same.upd rfl ?_); exact Same.ovN))) ⟨eP rfl, eI rfl, eI rfl, eI rfl, trivial⟩ fun s2 hs2 => ?_
  refine W.loop (64 :: 65 :: 66 :: 67 :: 68 :: 69 :: 70 :: 71 :: 72 :: 73 :: 74 :: 75 :: 78 :: 79 :: 80 :: 81 :: 82 :: 83 :: 84 :: 85 :: 86 :: 87 :: 88 :: 89 :: 90 :: 91 :: 2 :: 76 :: 77 :: 5 :: []) (fun g s' V => ∃ q : Nat, s' 5 = .int .i64 ((q : Nat) : Int) ∧ g = xs[k].2.2.2[n].2.2.length - q ∧ q ≤ xs[k].2.2.2[n].2.2.length ∧ ∀ (j : Nat) (hj : j < xs[k].2.2.2[n].2.2.length), j < q → xs[k].2.2.2[n].2.2[j].size ≤ 40) xs[k].2.2.2[n].2.2.length ⟨0, rfl, rfl, Nat.zero_le _, by intros; omega⟩ ?_
  rintro _ sd3 w5 hS5 ⟨q, h5, rfl, hq, hpre3⟩
  refine W.fix h5 ?_
  clear h5
  have hX5 : ShtI w5 xs := inferInstance
  have i6 := hX5.line hk1
  have i7 : RowI w5 (.slice xs[k].2.2.2[n].1 xs[k].2.2.2[n].2.2.length xs[k].2.2.2[n].2.1) false 1 (xs[k].2.2.2[n].2.2.map strV) := hX5.word hk1 hn1
  by_cases hq1 : q < xs[k].2.2.2[n].2.2.length
  rotate_left
  · (refine jjB (jjB (jjC (jI (eI rfl) (jm (jn rfl ?_))))); refine jN rfl rfl rfl (jI (eI rfl) ?_); refine jF rfl rfl rfl (map_get (by omega)) ?_; intro _ _ _; refine jm (jn rfl (jP rfl rfl rfl (jI (eI rfl) ?_))); refine jF rfl rfl rfl (map_get (by omega)) ?_; intro _ _ _; refine jQ rfl rfl (jh rfl (jja rfl rfl (by omega) (jz (jjK rfl (jjE ?_))))); refine jjC (jI (eI rfl) (jY rfl rfl (by omega) (jJ (eI rfl) (jz ?_)))))
    refine ⟨rfl, by (((iterate 16 refine Same.upd rfl ?_); refine Same.ovN' rfl ?_; assumption)), xs[k].2.2.2.length - (n + 1), by omega, inferInstance, n + 1, congrArg (Value.int .i64) (by omega), rfl, by omega, fun j hj hjk => ?_⟩
    by_cases e : j = n
    · subst e
      exact ⟨by omega, fun y hy => by
        obtain ⟨q', hq', rfl⟩ := List.mem_iff_getElem.1 hy
        exact hpre3 q' hq' (by omega)⟩
    · exact hpre2 j hj (by omega)
  by_cases h41 : 40 < xs[k].2.2.2[n].2.2[q].size
  · (refine jjB (jjB (jjC (jI (eI rfl) (jm (jn rfl ?_))))); refine jN rfl rfl rfl (jI (eI rfl) ?_); refine jF rfl rfl rfl (map_get (by omega)) ?_; intro _ _ _; refine jm (jn rfl (jP rfl rfl rfl (jI (eI rfl) ?_))); refine jF rfl rfl rfl (map_get (by omega)) ?_; intro _ _ _; refine jQ rfl rfl (jh rfl (jjZ rfl rfl (by omega) (jz (jjJ rfl (jjG ?_))))); refine jjB (jjD (jjB (jjC (jm (jn rfl ?_))))); refine jN rfl rfl rfl (jI (eI rfl) ?_); refine jF rfl rfl rfl (map_get (by omega)) ?_; intro _ _ _; refine jm (jn rfl (jP rfl rfl rfl (jI (eI rfl) ?_))); refine jF rfl rfl rfl (map_get (by omega)) ?_; intro _ _ _; refine jQ rfl rfl (jI (eI rfl) ?_); refine jF rfl rfl rfl (map_get (by omega)) ?_; intro _ _ _; refine jQ rfl rfl (ji rfl (jjd rfl rfl (by omega) (jz (jjJ rfl (jjB ?_))))); refine jjC (jJ (eB rfl) (jz (jjF ?_))); refine jB rfl rfl ⟨inferInstance, ?_⟩)
    exact ⟨_, rfl, fun h => by cases h⟩
  (refine jjB (jjB (jjC (jI (eI rfl) (jm (jn rfl ?_))))); refine jN rfl rfl rfl (jI (eI rfl) ?_); refine jF rfl rfl rfl (map_get (by omega)) ?_; intro _ _ _; refine jm (jn rfl (jP rfl rfl rfl (jI (eI rfl) ?_))); refine jF rfl rfl rfl (map_get (by omega)) ?_; intro _ _ _; refine jQ rfl rfl (jh rfl (jjZ rfl rfl (by omega) (jz (jjJ rfl (jjG ?_))))); refine jjB (jjD (jjB (jjC (jm (jn rfl ?_))))); refine jN rfl rfl rfl (jI (eI rfl) ?_); refine jF rfl rfl rfl (map_get (by omega)) ?_; intro _ _ _; refine jm (jn rfl (jP rfl rfl rfl (jI (eI rfl) ?_))); refine jF rfl rfl rfl (map_get (by omega)) ?_; intro _ _ _; refine jQ rfl rfl (jI (eI rfl) ?_); refine jF rfl rfl rfl (map_get (by omega)) ?_; intro _ _ _; refine jQ rfl rfl (ji rfl (jje rfl rfl (by omega) (jz (jjK rfl (jjG ?_))))); refine jjC (jI (eI rfl) (jY rfl rfl (by omega) (jJ (eI rfl) (jz ?_)))))
  refine ⟨rfl, by (((iterate 30 refine Same.upd rfl ?_); exact Same.ovN)), xs[k].2.2.2[n].2.2.length - (q + 1), by omega, inferInstance, q + 1, congrArg (Value.int .i64) (by omega), rfl, by omega, fun j hj hjk => ?_⟩
  by_cases e : j = q
  · subst e; omega
  · exact hpre3 j hj (by omega)
end

section
variable (a : Option Addr) (c : Nat) (cs : List Ch) (w : World) [hrow : RowI w (.slice a cs.length c) true 2 (cs.map encCh)] [hT : TextI w cs]
theorem lnK_small (hsm : SmallT cs) : ∀ j, j ≤ cs.length → (lnK cs j).length ≤ j * 1000 := fun j => by
  induction j with
  | zero => intro _; simp [lnK]
  | succ j ih =>
    intro hj
    rw [lnK_succ (by omega), List.length_append]
    have := (hsm.2 cs[j] (List.getElem_mem (by omega))).1
    have := ih (by omega)
    omega
set_option maxHeartbeats 8000000 in
theorem Lines_ref5 (hsm : SmallT cs) : Ct Tryz.prog 52 [.agg #[.slice a cs.length c]] w fun v _ => ∃ la lc, v = .slice la (lnK cs cs.length).length lc := by
  have hs1 := hsm.1
  refine Ct.ofW (by simp) ?_
  (refine jjB (jjC ?_))
  (refine jy rfl ?_; intro b1 w_b1 hb_b1 hs_b1 hS_b1 hk_b1; have hA_b1 := At.ofBlock hk_b1)
  (refine jJ (eS rfl) (jz (jjB (jjC (jJ (eS rfl) (jz ?_))))); refine jjB (jjB (jjC (jJ (eI rfl) (jz (jjD ?_))))))
  refine W.keep0 [(1, .pointer (some ⟨b1, 0, none⟩)), (3, .slice none 0 0), (4, .int .i64 ((0 : Nat) : Int))] ⟨eP rfl, eS rfl, eI rfl, trivial⟩ fun s0 => ?_
  refine W.loopG (6 :: 7 :: 8 :: 9 :: 10 :: 5 :: 13 :: 14 :: 15 :: 16 :: 17 :: 18 :: 19 :: 20 :: 21 :: 24 :: 25 :: 26 :: 27 :: 28 :: 29 :: 30 :: 31 :: 32 :: 33 :: 34 :: 35 :: 3 :: 22 :: 23 :: 11 :: 12 :: 4 :: []) (fun g s' V => ∃ (k : Nat) (lv : Value), s' 4 = .int .i64 (k : Int) ∧ s' 3 = lv ∧ g = cs.length - k ∧ k ≤ cs.length ∧ Ext w_b1 V ∧ OwnL V w_b1.heap.size 66 false 1 lv ((lnK cs k).map encLn)) cs.length ⟨0, _, rfl, rfl, rfl, Nat.zero_le _, .refl _, OwnL.nil _ _ _ _ _⟩ ?_
  rintro _ sd V ⟨k, lv, h4, h3, rfl, hk, hEV, hO⟩
  obtain ⟨la, lc, rfl⟩ := hO.slice
  rw [List.length_map] at hO h3
  refine W.fix h4 (W.fix (d := 3) h3 ?_)
  clear h4 h3
  have hEV' := hEV.toStep
  by_cases hk1 : k < cs.length
  rotate_left
  · obtain rfl : k = cs.length := by omega
    (refine jjB (jjB (jjC (jI (eI rfl) (jm (jn rfl ?_))))); refine jN rfl rfl rfl (jh rfl (jja rfl rfl (by omega) (jz (jjK rfl (jjE ?_))))); refine jjB (jjC (jI (eS rfl) (jJ (eS rfl) (jz (jjF ?_))))); refine jB rfl rfl ⟨inferInstance, ?_⟩)
    exact ⟨la, lc, rfl⟩
  have hx := hsm.2 cs[k] (List.getElem_mem hk1)
  (refine jjB (jjB (jjC (jI (eI rfl) (jm (jn rfl ?_))))); refine jN rfl rfl rfl (jh rfl (jjZ rfl rfl (by omega) (jz (jjJ rfl (jjG ?_))))); refine jjB (jjD (jjB (jjC (jJ (eI rfl) (jz ?_))))); refine jjD ?_)
  refine W.keep [(1, .pointer (some ⟨b1, 0, none⟩)), (3, .slice la (lnK cs k).length lc), (4, .int .i64 (k : Int)), (5, .int .i64 ((0 : Nat) : Int))] (D := (6 :: 7 :: 8 :: 9 :: 10 :: 5 :: 13 :: 14 :: 15 :: 16 :: 17 :: 18 :: 19 :: 20 :: 21 :: 24 :: 25 :: 26 :: 27 :: 28 :: 29 :: 30 :: 31 :: 32 :: 33 :: 34 :: 35 :: 3 :: 22 :: 23 :: 11 :: 12 :: 4 :: [])) (sO := upds s0 _) (by (((iterate 8 refine Same.upd rfl ?_); exact Same.ovN))) ⟨eP rfl, eS rfl, eI rfl, eI rfl, trivial⟩ fun s1 hs1' => ?_
  refine W.loopG (13 :: 14 :: 15 :: 16 :: 17 :: 18 :: 19 :: 20 :: 21 :: 24 :: 25 :: 26 :: 27 :: 28 :: 29 :: 30 :: 31 :: 32 :: 33 :: 34 :: 35 :: 3 :: 22 :: 23 :: 5 :: []) (fun g s' V => ∃ (n : Nat) (lv : Value), s' 5 = .int .i64 (n : Int) ∧ s' 3 = lv ∧ g = cs[k].2.2.2.length - n ∧ n ≤ cs[k].2.2.2.length ∧ Ext w_b1 V ∧ OwnL V w_b1.heap.size 66 false 1 lv ((lnK cs k ++ cs[k].2.2.2.take n).map encLn)) cs[k].2.2.2.length ⟨0, .slice la (lnK cs k).length lc, rfl, rfl, rfl, Nat.zero_le _, hEV, by simpa using hO⟩ ?_
  clear hO hEV' hEV
  rintro _ sd2 V2 ⟨n, lv, h5, h3, rfl, hn, hE2, hO⟩
  obtain ⟨la, lc, rfl⟩ := hO.slice
  rw [List.length_map] at hO h3
  refine W.fix h5 (W.fix (d := 3) h3 ?_)
  clear h5 h3
  have hE2' := hE2.toStep
  have hT2 : TextI V2 cs := inferInstance
  have i2 := hT2.line hk1
  have hlk := lnK_small cs hsm k hk
  by_cases hn1 : n < cs[k].2.2.2.length
  rotate_left
  · obtain rfl : n = cs[k].2.2.2.length := by omega
    rw [List.take_length, ← lnK_succ hk1] at hO
    (refine jjB (jjB (jjC (jI (eI rfl) (jm (jn rfl ?_))))); refine jN rfl rfl rfl (jI (eI rfl) ?_); refine jF rfl rfl rfl (map_get (by omega)) ?_; intro _ _ _; refine jm (jn rfl (jP rfl rfl rfl (jh rfl (jja rfl rfl (by omega) (jz ?_))))); refine jjK rfl (jjE (jjC (jI (eI rfl) (jY rfl rfl (by omega) (jJ (eI rfl) ?_))))); refine jz ?_)
    refine ⟨rfl, by (((iterate 14 refine Same.upd rfl ?_); refine Same.ovN' rfl ?_; assumption)), cs.length - (k + 1), by omega, k + 1, _, congrArg (Value.int .i64) (by omega), rfl, rfl, by omega, hE2, ?_⟩
    rw [List.take_length, ← lnK_succ hk1]
    exact hO
  (refine jjB (jjB (jjC (jI (eI rfl) (jm (jn rfl ?_))))); refine jN rfl rfl rfl (jI (eI rfl) ?_); refine jF rfl rfl rfl (map_get (by omega)) ?_; intro _ _ _; refine jm (jn rfl (jP rfl rfl rfl (jh rfl (jjZ rfl rfl (by omega) (jz ?_))))); refine jjJ rfl (jjG (jjB (jjD (jjC (jI (eS rfl) ?_))))); refine jm (jn rfl (jN rfl rfl rfl (jI (eI rfl) ?_))); refine jF rfl rfl rfl (map_get (by omega)) ?_; intro _ _ _; refine jm (jn rfl (jP rfl rfl rfl (jI (eI rfl) ?_))); refine jF rfl rfl rfl (map_get (by omega)) ?_; intro _ _ _; refine jQ rfl rfl ?_)
  (refine jjP (v := .slice _ _ _) rfl (by exact rfl) (by exact rfl) (by exact rfl) (by exact rfl) ?_; intro b34 w_b34 hb_b34 hs_b34 hS_b34 hk_b34; have hR_b34 := RowV.one (agg := false) (k := 1) rfl hk_b34)
  have hE34 := hE2.trans hS_b34.ext
  have hR34 : RowV w_b34 false 1 (.slice (some ⟨b34, 0, none⟩) 1 1) [encLn cs[k].2.2.2[n]] := hR_b34
  refine Ops.appendL (hO.ext hS_b34.ext) hE34.size hR34 rfl rfl rfl rfl rfl ?_ ?_ ?_
  · rw [List.length_map, List.length_append, List.length_take]; simp only [List.length_cons, List.length_nil]; omega
  · rw [List.length_map, List.length_append, List.length_take]; simp only [List.length_cons, List.length_nil]; omega
  intro l3 V3 hA3 hO3 _ _
  have e1 : (lnK cs k ++ cs[k].2.2.2.take n).map encLn ++ [encLn cs[k].2.2.2[n]] = (lnK cs k ++ cs[k].2.2.2.take (n + 1)).map encLn := by
    rw [take_snoc_get (List.getElem?_eq_getElem hn1)]; exact map_snoc2 encLn _ _ _
  rw [e1] at hO3
  (refine jJ rfl (jz (jjC (jI (eI rfl) (jY rfl rfl (by omega) (jJ (eI rfl) ?_))))); refine jz ?_)
  exact ⟨rfl, by (((iterate 27 refine Same.upd rfl ?_); exact Same.ovN)), cs[k].2.2.2.length - (n + 1), by omega, n + 1, _, congrArg (Value.int .i64) (by omega), rfl, rfl, by omega, hA3.ext hE34 (Nat.le_refl _), hO3⟩
end

section
variable (a : Option Addr) (c : Nat) (cs : List Ch) (ha : Option Addr) (hc : Nat) (hs : List Hp) (sa : Option Addr) (sc : Nat) (ss : List Shr) (xa : Option Addr) (xc : Nat) (xs : List Sht) (w : World)
  [hrow : RowI w (.slice a cs.length c) true 2 (cs.map encCh)] [hT : TextI w cs] [hhs : RowI w (.slice ha hs.length hc) true 3 (hs.map encHp)] [hss : RowI w (.slice sa ss.length sc) true 4 (ss.map encShr)] [hxs : RowI w (.slice xa xs.length xc) true 2 (xs.map encSht)] [hxi : ShtI w xs]
theorem inB_iff {lo hi n : Int} : inB lo hi n = true ↔ lo ≤ n ∧ n ≤ hi := by simp [inB]
structure UpTo (nl : Nat) (hs : List Hp) (ss : List Shr) (xs : List Sht) (i : Nat) : Prop where
  sp : ∀ j (h : j < ss.length), j < i → 0 ≤ ss[j].1 ∧ ss[j].1 ≤ ss[j].2.1 ∧ ss[j].2.1 < (nl : Int) ∧ 0 ≤ ss[j].2.2.1 ∧ ss[j].2.2.1 < (hs.length : Int) ∧ 0 ≤ ss[j].2.2.2 ∧ ss[j].2.2.2 ≤ 400
  so : ∀ j (h : j < ss.length) (_ : 0 < j), j < i → (ss[j - 1]'(by omega)).1 < ss[j].1 ∧ (ss[j - 1]'(by omega)).2.1 < ss[j].2.1
  so2 : ∀ j (h : j < ss.length) (_ : 1 < j), j < i → (ss[j - 2]'(by omega)).2.1 < ss[j].1
  sh : ∀ j (h : j < xs.length), j < i → xs[j].2.2.2.length ≤ 30 ∧ (xs[j].1 = true ∨ xs[j].2.2.2.length = 0) ∧ ∀ n (hn : n < xs[j].2.2.2.length), lineB xs[j].2.2.2[n].2.2 = true
set_option maxRecDepth 10000 in
set_option maxHeartbeats 40000000 in
theorem Round_ref5 (hsm : SmallT cs) (hX : SmallX hs ss xs) : Ct Tryz.prog 21 [.agg #[.slice a cs.length c, .slice ha hs.length hc, .slice sa ss.length sc, .slice xa xs.length xc]] w fun v _ => ∃ b, v = .bool b ∧ (b = true → RoundOk (lnK cs cs.length).length hs ss xs) := by
  have hl8 := hX.h
  have hl12 := hX.s
  have hx12 := hX.x
  have hln := lnK_small cs hsm cs.length (Nat.le_refl _)
  have hcs := hsm.1
  obtain ⟨nl, hnl⟩ : ∃ nl, (lnK cs cs.length).length = nl := ⟨_, rfl⟩
  rw [hnl] at hln ⊢
  refine Ct.ofW (by simp) ?_
  (refine jjB (jjC ?_))
  (refine jy rfl ?_; intro b1 w_b1 hb_b1 hs_b1 hS_b1 hk_b1; have hA_b1 := At.ofBlock hk_b1)
  have A1 : At w_b1 b1 0 [.slice a cs.length c, .slice ha hs.length hc, .slice sa ss.length sc, .slice xa xs.length xc] := At.ofBlock hk_b1
  obtain ⟨B0, hB0⟩ : ∃ B, inB 1 4 (hs.length : Int) = B := ⟨_, rfl⟩
  (refine jJ (eB rfl) (jz (jjB (jjB (jjC (jm ?_))))); refine jn rfl (jN rfl rfl rfl (jh rfl ?_)))
  refine jjQ ((within_postilref05 (hs.length : Int) 1 4 _).mono fun v _ _ h => h.trans (by rw [hB0])) rfl rfl ?_
  rintro _ w2 hS2 rfl
  cases B0 with
  | false =>
    (refine jq rfl (jI (eB rfl) (jU rfl rfl rfl rfl (jU rfl rfl rfl rfl (jU rfl rfl rfl rfl (jU rfl rfl rfl rfl ?_))))); refine jK rfl (eB rfl) (jI (eB rfl) (jU rfl rfl rfl rfl (jU rfl rfl rfl rfl (jU rfl rfl rfl rfl (jU rfl rfl rfl rfl ?_))))); refine jU rfl rfl rfl rfl (jU rfl rfl rfl rfl (jU rfl rfl rfl rfl (jK rfl (eB rfl) (jz (jjJ rfl ?_))))); refine jjB (jjC (jJ (eB rfl) (jz (jjF ?_)))); refine jB rfl rfl ⟨inferInstance, ?_⟩)
    exact ⟨_, rfl, fun h => by cases h⟩
  | true =>
  rw [inB_iff] at hB0
  by_cases h8 : 8 < ss.length
  · (refine jp rfl (jI (eB rfl) (jT rfl rfl rfl (jm (jn rfl (jT rfl rfl rfl ?_))))); refine jN rfl rfl rfl (jT rfl rfl rfl (jh rfl (jT rfl rfl rfl (jjd rfl rfl (by omega) (jL rfl (eB rfl) ?_))))); refine jI (eB rfl) (jU rfl rfl rfl rfl (jU rfl rfl rfl rfl (jU rfl rfl rfl rfl (jU rfl rfl rfl rfl (jU rfl rfl rfl rfl ?_))))); refine jU rfl rfl rfl rfl (jU rfl rfl rfl rfl (jK rfl (eB rfl) (jz (jjJ rfl (jjB ?_))))); refine jjC (jJ (eB rfl) (jz (jjF ?_))); refine jB rfl rfl ⟨inferInstance, ?_⟩)
    exact ⟨_, rfl, fun h => by cases h⟩
  by_cases hx : xs.length = ss.length
  rotate_left
  · (refine jp rfl (jI (eB rfl) (jT rfl rfl rfl (jm (jn rfl (jT rfl rfl rfl ?_))))); refine jN rfl rfl rfl (jT rfl rfl rfl (jh rfl (jT rfl rfl rfl (jje rfl rfl (by omega) (jL rfl (eB rfl) ?_))))); refine jI (eB rfl) (jT rfl rfl rfl (jm (jn rfl (jT rfl rfl rfl (jN rfl rfl rfl ?_))))); refine jT rfl rfl rfl (jh rfl (jT rfl rfl rfl (jm (jn rfl (jT rfl rfl rfl ?_))))); refine jN rfl rfl rfl (jT rfl rfl rfl (jh rfl (jT rfl rfl rfl (jjj rfl rfl (by omega) (jL rfl (eB rfl) ?_))))); refine jz (jjJ rfl (jjB (jjC (jJ (eB rfl) (jz ?_))))); refine jjF ?_; refine jB rfl rfl ⟨inferInstance, ?_⟩)
    exact ⟨_, rfl, fun h => by cases h⟩
  (refine jp rfl (jI (eB rfl) (jT rfl rfl rfl (jm (jn rfl (jT rfl rfl rfl ?_))))); refine jN rfl rfl rfl (jT rfl rfl rfl (jh rfl (jT rfl rfl rfl (jje rfl rfl (by omega) (jL rfl (eB rfl) ?_))))); refine jI (eB rfl) (jT rfl rfl rfl (jm (jn rfl (jT rfl rfl rfl (jN rfl rfl rfl ?_))))); refine jT rfl rfl rfl (jh rfl (jT rfl rfl rfl (jm (jn rfl (jT rfl rfl rfl ?_))))); refine jN rfl rfl rfl (jT rfl rfl rfl (jh rfl (jT rfl rfl rfl (jjk rfl rfl (by omega) (jL rfl (eB rfl) ?_))))); refine jz (jjK rfl (jjG (jjB (jjB (jjC ?_))))); refine jJ (eI rfl) (jz (jjD ?_)))
  refine W.keep0 [(1, .pointer (some ⟨b1, 0, none⟩)), (3, .int .i64 ((0 : Nat) : Int))] ⟨eP rfl, eI rfl, trivial⟩ fun s0 => ?_
  refine W.loop (32 :: 33 :: 34 :: 35 :: 36 :: 39 :: 40 :: 41 :: 42 :: 43 :: 4 :: 44 :: 45 :: 46 :: 47 :: 48 :: 49 :: 50 :: 51 :: 52 :: 53 :: 54 :: 55 :: 56 :: 57 :: 58 :: 59 :: 2 :: 5 :: 60 :: 61 :: 62 :: 65 :: 66 :: 67 :: 68 :: 69 :: 70 :: 71 :: 72 :: 73 :: 63 :: 64 :: 37 :: 38 :: 3 :: []) (fun g s' V => ∃ k : Nat, s' 3 = .int .i64 ((k : Nat) : Int) ∧ g = hs.length - k ∧ k ≤ hs.length ∧ (∀ i (h : i < hs.length), i < k → 0 ≤ hs[i].1 ∧ hs[i].1 ≤ 9999 ∧ 0 ≤ hs[i].2.1 ∧ hs[i].2.1 ≤ 30 ∧ 1 ≤ hs[i].2.2 ∧ hs[i].2.2 ≤ 20) ∧ ∀ i (h : i < hs.length) j (hj : j < i), i < k → (hs[j]'(by omega)).1 ≠ hs[i].1) hs.length ⟨0, rfl, rfl, Nat.zero_le _, by intros; omega, by intros; omega⟩ ?_
  rintro _ sd w3 hS3 ⟨k, h3, rfl, hk, hpre, hid⟩
  refine W.fix h3 ?_
  clear h3
  by_cases hk1 : k < hs.length
  · have gh : (hs.map encHp)[k]? = some (encHp hs[k]) := by rw [List.getElem?_map, List.getElem?_eq_getElem hk1]; rfl
    obtain ⟨B1, hB1⟩ : ∃ B, inB 0 9999 hs[k].1 = B := ⟨_, rfl⟩
    obtain ⟨B2, hB2⟩ : ∃ B, inB 0 30 hs[k].2.1 = B := ⟨_, rfl⟩
    obtain ⟨B3, hB3⟩ : ∃ B, inB 1 20 hs[k].2.2 = B := ⟨_, rfl⟩
    (refine jjB (jjB (jjC (jI (eI rfl) (jm (jn rfl ?_))))); refine jN rfl rfl rfl (jh rfl (jjZ rfl rfl (by omega) (jz (jjJ rfl (jjG ?_))))); refine jjB (jjD (jjB (jjC (jm (jn rfl ?_))))); refine jN rfl rfl rfl (jI (eI rfl) ?_); refine jF rfl rfl rfl (map_get (by omega)) ?_; intro _ _ _; refine jQ rfl rfl ?_)
    (apply jjR rfl; (intro _; first|exact eI rfl|exact eB rfl|exact eP rfl|exact eS rfl|exact eT rfl|exact eA rfl|exact eU rfl|exact eF rfl|exact eM rfl|exact eN rfl|exact rfl); exact rfl; exact rfl; exact rfl; exact rfl; intro b4 w_b4 hb_b4 hs_b4 hS_b4 hk_b4; have hA_b4 := Bk.of hk_b4)
    have A4 : At w_b4 b4 0 [.int .i64 hs[k].1, .int .i64 hs[k].2.1, .int .i64 hs[k].2.2] := Bk.toAt (h := hA_b4)
    (refine jz (jjB (jjB (jjC (jm (jn rfl ?_))))); refine jN rfl rfl rfl ?_)
    refine jjQ ((within_postilref05 hs[k].1 0 9999 _).mono fun v _ _ h => h.trans (by rw [hB1])) rfl rfl ?_
    rintro _ w4 hS4 rfl
    cases B1 with
    | false =>
      (refine jq rfl (jI (eB rfl) (jU rfl rfl rfl rfl (jU rfl rfl rfl rfl (jU rfl rfl rfl rfl (jU rfl rfl rfl rfl ?_))))); refine jK rfl (eB rfl) (jI (eB rfl) (jU rfl rfl rfl rfl (jU rfl rfl rfl rfl (jU rfl rfl rfl rfl (jU rfl rfl rfl rfl ?_))))); refine jK rfl (eB rfl) (jz (jjJ rfl (jjB (jjC (jJ (eB rfl) ?_))))); refine jz (jjF ?_); refine jB rfl rfl ⟨inferInstance, ?_⟩)
      exact ⟨_, rfl, fun h => by cases h⟩
    | true =>
    (refine jp rfl (jI (eB rfl) (jT rfl rfl rfl (jm (jn rfl (jT rfl rfl rfl ?_))))); refine jN rfl rfl rfl (jT rfl rfl rfl ?_))
    refine jjQ ((within_postilref05 hs[k].2.1 0 30 _).mono fun v _ _ h => h.trans (by rw [hB2])) rfl rfl ?_
    rintro _ w5 hS5 rfl
    cases B2 with
    | false =>
      (refine jT rfl rfl rfl (jq rfl (jL rfl (eB rfl) (jI (eB rfl) (jU rfl rfl rfl rfl (jU rfl rfl rfl rfl ?_))))); refine jU rfl rfl rfl rfl (jU rfl rfl rfl rfl (jK rfl (eB rfl) (jz (jjJ rfl (jjB ?_))))); refine jjC (jJ (eB rfl) (jz (jjF ?_))); refine jB rfl rfl ⟨inferInstance, ?_⟩)
      exact ⟨_, rfl, fun h => by cases h⟩
    | true =>
    (refine jT rfl rfl rfl (jp rfl (jL rfl (eB rfl) (jI (eB rfl) (jT rfl rfl rfl (jm ?_))))); refine jn rfl (jT rfl rfl rfl (jN rfl rfl rfl (jT rfl rfl rfl ?_))))
    refine jjQ ((within_postilref05 hs[k].2.2 1 20 _).mono fun v _ _ h => h.trans (by rw [hB3])) rfl rfl ?_
    rintro _ w6 hS6 rfl
    cases B3 with
    | false =>
      (refine jT rfl rfl rfl (jq rfl (jL rfl (eB rfl) (jz (jjJ rfl (jjB ?_))))); refine jjC (jJ (eB rfl) (jz (jjF ?_))); refine jB rfl rfl ⟨inferInstance, ?_⟩)
      exact ⟨_, rfl, fun h => by cases h⟩
    | true =>
    rw [inB_iff] at hB1 hB2 hB3
    (refine jT rfl rfl rfl (jp rfl (jL rfl (eB rfl) (jz (jjK rfl (jjG ?_))))); refine jjB (jjC (jJ (eI rfl) (jz (jjD ?_)))))
    refine W.keep [(1, .pointer (some ⟨b1, 0, none⟩)), (3, .int .i64 ((k : Nat) : Int)), (4, .pointer (some ⟨b4, 0, none⟩)), (5, .int .i64 ((0 : Nat) : Int))] (D := (32 :: 33 :: 34 :: 35 :: 36 :: 39 :: 40 :: 41 :: 42 :: 43 :: 4 :: 44 :: 45 :: 46 :: 47 :: 48 :: 49 :: 50 :: 51 :: 52 :: 53 :: 54 :: 55 :: 56 :: 57 :: 58 :: 59 :: 2 :: 5 :: 60 :: 61 :: 62 :: 65 :: 66 :: 67 :: 68 :: 69 :: 70 :: 71 :: 72 :: 73 :: 63 :: 64 :: 37 :: 38 :: 3 :: [])) (sO := upds s0 _) (by (((iterate 29 refine Same.upd rfl ?_); exact Same.ovN))) ⟨eP rfl, eI rfl, eP rfl, eI rfl, trivial⟩ fun s1 hs1 => ?_
    refine W.loop (60 :: 61 :: 62 :: 65 :: 66 :: 67 :: 68 :: 69 :: 70 :: 71 :: 72 :: 73 :: 2 :: 63 :: 64 :: 5 :: []) (fun g s' V => ∃ j : Nat, s' 5 = .int .i64 ((j : Nat) : Int) ∧ g = k - j ∧ j ≤ k ∧ ∀ i (h : i < hs.length), i < j → hs[i].1 ≠ hs[k].1) k ⟨0, rfl, rfl, Nat.zero_le _, by intros; omega⟩ ?_
    rintro _ sd2 w7 hS7 ⟨j, h5, rfl, hj, hne⟩
    refine W.fix h5 ?_
    clear h5
    by_cases hj1 : j < k
    rotate_left
    · (refine jjB (jjB (jjC (jI (eI rfl) (jI (eI rfl) (jja rfl rfl (by omega) ?_))))); refine jz (jjK rfl (jjE (jjC (jI (eI rfl) (jY rfl rfl (by omega) ?_))))); refine jJ (eI rfl) (jz ?_))
      refine ⟨rfl, by (((iterate 7 refine Same.upd rfl ?_); refine Same.ovN' rfl ?_; assumption)), hs.length - (k + 1), by omega, inferInstance, k + 1, congrArg (Value.int .i64) (by omega), rfl, by omega, fun i h hik => ?_, fun i h q hq hik => ?_⟩
      · by_cases e : i = k
        · subst e; omega
        · exact hpre i h (by omega)
      · by_cases e : i = k
        · subst e; exact hne q (by omega) (by omega)
        · exact hid i h q hq (by omega)
    have hjh : j < hs.length := by omega
    have i7 : RowI w7 (.slice ha hs.length hc) true 3 (hs.map encHp) := inferInstance
    have gj : (hs.map encHp)[j]? = some (encHp hs[j]) := by rw [List.getElem?_map, List.getElem?_eq_getElem hjh]; rfl
    obtain ⟨pb, po, rfl, -⟩ := i7.h.place' gj
    have AJ : ∀ V, Ext w7 V → At V pb (po + j * 3) [.int .i64 hs[j].1, .int .i64 hs[j].2.1, .int .i64 hs[j].2.2] := fun V hE => place_k (i7.h.ext hE) gj
    (refine jjB (jjB (jjC (jI (eI rfl) (jI (eI rfl) (jjZ rfl rfl (by omega) ?_))))); refine jz (jjJ rfl (jjG (jjB (jjD (jjB ?_))))))
    refine W.draw (fun w' => Ext w7 w') ?_
    intro w8 hS8
    refine jjV [0, 1, 2] (by decide +kernel) hS8.ext ?_
    (((apply jjT; exact rfl; rintro w' hq; have := hq.toStep; refine jm (jn rfl (jz ?_)); exact ⟨rfl, rfl⟩; apply jjT; exact rfl; rintro w' hq; have := hq.toStep; refine jN rfl rfl rfl (jz ?_); exact ⟨rfl, rfl⟩; refine jjT rfl (fun _ _ => jI (eI rfl) (jz ⟨rfl, rfl⟩)) (jjU ?_))))
    refine jjV [3] (by decide +kernel) hS8.ext (jjT (v := .pointer (some ⟨pb, po + j * 3, none⟩)) rfl (fun w' q1 => ?_) (jjU ?_)); (refine jH j rfl rfl rfl (by omega) ?_; refine jz ?_; exact ⟨rfl, rfl⟩)
    refine jjV [4] (by decide +kernel) hS8.ext ?_
    (((apply jjT; exact rfl; rintro w' hq; refine jm (jn rfl (jz ?_)); exact ⟨rfl, rfl⟩; refine jjU ?_)))
    refine jjV [5] (by decide +kernel) hS8.ext (jjT (v := .int .i64 hs[j].1) rfl (fun w' q1 => ?_) (jjU ?_)); (refine jR ((AJ _ q1).get (i := 0) rfl) rfl rfl ?_; refine jz ?_; exact ⟨rfl, rfl⟩)
    refine jjV [6, 7] (by decide +kernel) hS8.ext ?_
    (((apply jjT; exact rfl; rintro w' hq; have := hq.toStep; refine jm (jn rfl (jz ?_)); exact ⟨rfl, rfl⟩; apply jjT; exact rfl; rintro w' hq; have := hq.toStep; refine jN rfl rfl rfl (jz ?_); exact ⟨rfl, rfl⟩; refine jjU ?_)))
    by_cases he : hs[j].1 = hs[k].1
    · refine jjV [8] (by decide +kernel) hS8.ext (jjT (v := .bool true) rfl (fun w' q1 => ?_) (jjU ?_)); (refine jb rfl rfl ?_; rw [decide_eq_true he]; refine jz ?_; exact ⟨rfl, rfl⟩)
      refine jjX (by decide +kernel) hS8.ext ?_
      (refine jjJ rfl (jjB (jjC (jJ (eB rfl) (jz (jjF ?_))))); refine jB rfl rfl ⟨inferInstance, ?_⟩)
      exact ⟨_, rfl, fun h => by cases h⟩
    · refine jjV [8] (by decide +kernel) hS8.ext (jjT (v := .bool false) rfl (fun w' q1 => ?_) (jjU ?_)); (refine jb rfl rfl ?_; rw [decide_eq_false he]; refine jz ?_; exact ⟨rfl, rfl⟩)
      refine jjX (by decide +kernel) hS8.ext ?_
      (refine jjK rfl (jjG (jjC (jI (eI rfl) (jY rfl rfl (by omega) (jJ (eI rfl) ?_))))); refine jz ?_)
      refine ⟨rfl, by (((iterate 16 refine Same.upd rfl ?_); exact Same.ovN)), k - (j + 1), by omega, inferInstance, j + 1, congrArg (Value.int .i64) (by omega), rfl, by omega, fun i h hij => ?_⟩
      by_cases e : i = j
      · subst e; exact he
      · exact hne i h (by omega)
  have hPre := fun i h => hpre i h (by omega)
  have hId := fun i h j hj => hid i h j hj (by omega)
  clear hpre hid
  (refine jjB (jjB (jjC (jI (eI rfl) (jm (jn rfl ?_))))); refine jN rfl rfl rfl (jh rfl (jja rfl rfl (by omega) (jz (jjK rfl (jjE ?_))))); refine jjB (jjC (jm (jn rfl (jO rfl rfl rfl rfl ?_)))))
  refine jjQ (Lines_ref5 a c cs _ hsm) rfl rfl ?_
  rintro _ w4 hS4 ⟨la, lc, rfl⟩
  rw [hnl]
  (refine jh rfl (jJ (eI rfl) (jz (jjB (jjB (jjC ?_))))); refine jJ (eI rfl) (jz (jjD ?_)))
  refine W.keep0 [(1, .pointer (some ⟨b1, 0, none⟩)), (6, .int .i64 (nl : Int)), (7, .int .i64 ((0 : Nat) : Int))] ⟨eP rfl, eI rfl, eI rfl, trivial⟩ fun s1 => ?_
  refine W.loop (78 :: 79 :: 80 :: 81 :: 82 :: 85 :: 86 :: 87 :: 88 :: 89 :: 8 :: 90 :: 91 :: 92 :: 93 :: 94 :: 95 :: 96 :: 97 :: 98 :: 99 :: 100 :: 101 :: 102 :: 103 :: 104 :: 105 :: 106 :: 107 :: 108 :: 109 :: 110 :: 111 :: 112 :: 113 :: 114 :: 115 :: 116 :: 117 :: 2 :: 118 :: 119 :: 120 :: 121 :: 122 :: 123 :: 124 :: 125 :: 126 :: 127 :: 128 :: 129 :: 130 :: 131 :: 132 :: 133 :: 134 :: 135 :: 136 :: 137 :: 138 :: 139 :: 140 :: 141 :: 142 :: 143 :: 144 :: 145 :: 146 :: 147 :: 148 :: 149 :: 150 :: 151 :: 152 :: 153 :: 154 :: 155 :: 156 :: 157 :: 158 :: 159 :: 160 :: 161 :: 162 :: 163 :: 164 :: 9 :: 165 :: 166 :: 167 :: 168 :: 169 :: 170 :: 171 :: 172 :: 173 :: 174 :: 175 :: 176 :: 177 :: 178 :: 179 :: 10 :: 180 :: 181 :: 182 :: 183 :: 184 :: 187 :: 188 :: 189 :: 190 :: 191 :: 192 :: 193 :: 194 :: 11 :: 195 :: 196 :: 197 :: 198 :: 199 :: 200 :: 201 :: 202 :: 205 :: 206 :: 207 :: 208 :: 209 :: 210 :: 211 :: 212 :: 213 :: 214 :: 203 :: 204 :: 185 :: 186 :: 83 :: 84 :: 7 :: []) (fun g s' V => ∃ i : Nat, s' 7 = .int .i64 ((i : Nat) : Int) ∧ g = ss.length - i ∧ i ≤ ss.length ∧ UpTo nl hs ss xs i) ss.length ⟨0, rfl, rfl, Nat.zero_le _, ⟨by intros; omega, by intros; omega, by intros; omega, by intros; omega⟩⟩ ?_
  rintro _ sd2 w5 hS5 ⟨i, h7, rfl, hi, hU⟩
  refine W.fix h7 ?_
  clear h7
  by_cases hi1 : i < ss.length
  rotate_left
  · (refine jjB (jjB (jjC (jI (eI rfl) (jm (jn rfl ?_))))); refine jN rfl rfl rfl (jh rfl (jja rfl rfl (by omega) (jz (jjK rfl (jjE ?_))))); refine jjB (jjC (jJ (eB rfl) (jz (jjF ?_)))); refine jB rfl rfl ⟨inferInstance, ?_⟩)
    refine ⟨_, rfl, fun _ => ⟨by omega, by omega, by omega, hx, hPre, hId, fun j h => hU.sp j h (by omega), fun j h h0 => hU.so j h h0 (by omega), fun j h h0 => hU.so2 j h h0 (by omega), fun j h => hU.sh j h (by omega)⟩⟩
  obtain ⟨B4, hB4⟩ : ∃ B, inB 0 ss[i].2.1 ss[i].1 = B := ⟨_, rfl⟩
  obtain ⟨B5, hB5⟩ : ∃ B, inB 0 ((hs.length : Int) - 1) ss[i].2.2.1 = B := ⟨_, rfl⟩
  obtain ⟨B6, hB6⟩ : ∃ B, inB 0 400 ss[i].2.2.2 = B := ⟨_, rfl⟩
  (refine jjB (jjB (jjC (jI (eI rfl) (jm (jn rfl ?_))))); refine jN rfl rfl rfl (jh rfl (jjZ rfl rfl (by omega) (jz (jjJ rfl (jjG ?_))))); refine jjB (jjD (jjB (jjC (jm (jn rfl ?_))))); refine jN rfl rfl rfl (jI (eI rfl) ?_); refine jF rfl rfl rfl (map_get (by omega)) ?_; intro _ _ _; refine jQ rfl rfl ?_)
  (apply jjR rfl; (intro _; first|exact eI rfl|exact eB rfl|exact eP rfl|exact eS rfl|exact eT rfl|exact eA rfl|exact eU rfl|exact eF rfl|exact eM rfl|exact eN rfl|exact rfl); exact rfl; exact rfl; exact rfl; exact rfl; intro b8 w_b8 hb_b8 hs_b8 hS_b8 hk_b8; have hA_b8 := Bk.of hk_b8)
  have A8 : At w_b8 b8 0 [.int .i64 ss[i].1, .int .i64 ss[i].2.1, .int .i64 ss[i].2.2.1, .int .i64 ss[i].2.2.2] := Bk.toAt (h := hA_b8)
  (refine jz (jjB (jjB (jjC (jm (jn rfl ?_))))); refine jN rfl rfl rfl (jm (jn rfl (jN rfl rfl rfl ?_))))
  refine jjQ ((within_postilref05 ss[i].1 0 ss[i].2.1 _).mono fun v _ _ h => h.trans (by rw [hB4])) rfl rfl ?_
  rintro _ w6 hS6 rfl
  cases B4 with
  | false =>
    (refine jq rfl (jI (eB rfl) (jU rfl rfl rfl rfl (jU rfl rfl rfl rfl (jU rfl rfl rfl rfl (jU rfl rfl rfl rfl ?_))))); refine jK rfl (eB rfl) (jI (eB rfl) (jU rfl rfl rfl rfl (jU rfl rfl rfl rfl (jU rfl rfl rfl rfl (jU rfl rfl rfl rfl ?_))))); refine jU rfl rfl rfl rfl (jU rfl rfl rfl rfl (jU rfl rfl rfl rfl (jU rfl rfl rfl rfl (jK rfl (eB rfl) (jI (eB rfl) ?_))))); refine jU rfl rfl rfl rfl (jU rfl rfl rfl rfl (jU rfl rfl rfl rfl (jU rfl rfl rfl rfl (jK rfl (eB rfl) (jz ?_))))); refine jjJ rfl (jjB (jjC (jJ (eB rfl) (jz (jjF ?_))))); refine jB rfl rfl ⟨inferInstance, ?_⟩)
    exact ⟨_, rfl, fun h => by cases h⟩
  | true =>
  by_cases hge : (nl : Int) ≤ ss[i].2.1
  · (refine jp rfl (jI (eB rfl) (jT rfl rfl rfl (jm (jn rfl (jT rfl rfl rfl ?_))))); refine jN rfl rfl rfl (jT rfl rfl rfl (jI (eI rfl) (jT rfl rfl rfl (jjf rfl rfl (by omega) (jL rfl (eB rfl) ?_))))); refine jI (eB rfl) (jU rfl rfl rfl rfl (jU rfl rfl rfl rfl (jU rfl rfl rfl rfl (jU rfl rfl rfl rfl (jU rfl rfl rfl rfl ?_))))); refine jU rfl rfl rfl rfl (jU rfl rfl rfl rfl (jU rfl rfl rfl rfl (jK rfl (eB rfl) (jI (eB rfl) (jU rfl rfl rfl rfl ?_))))); refine jU rfl rfl rfl rfl (jU rfl rfl rfl rfl (jU rfl rfl rfl rfl (jK rfl (eB rfl) (jz (jjJ rfl ?_))))); refine jjB (jjC (jJ (eB rfl) (jz (jjF ?_)))); refine jB rfl rfl ⟨inferInstance, ?_⟩)
    exact ⟨_, rfl, fun h => by cases h⟩
  (refine jp rfl (jI (eB rfl) (jT rfl rfl rfl (jm (jn rfl (jT rfl rfl rfl ?_))))); refine jN rfl rfl rfl (jT rfl rfl rfl (jI (eI rfl) (jT rfl rfl rfl (jjg rfl rfl (by omega) (jL rfl (eB rfl) ?_))))); refine jI (eB rfl) (jT rfl rfl rfl (jm (jn rfl (jT rfl rfl rfl (jN rfl rfl rfl ?_))))); refine jT rfl rfl rfl (jm (jn rfl (jT rfl rfl rfl (jN rfl rfl rfl (jT rfl rfl rfl ?_))))); refine jh rfl (jT rfl rfl rfl (jZ rfl rfl (by omega) (jT rfl rfl rfl ?_))))
  refine jjQ ((within_postilref05 ss[i].2.2.1 0 ((hs.length : Int) - 1) _).mono fun v _ _ h => h.trans (by rw [hB5])) rfl rfl ?_
  rintro _ w7 hS7 rfl
  cases B5 with
  | false =>
    (refine jT rfl rfl rfl (jq rfl (jL rfl (eB rfl) (jI (eB rfl) (jU rfl rfl rfl rfl (jU rfl rfl rfl rfl ?_))))); refine jU rfl rfl rfl rfl (jU rfl rfl rfl rfl (jK rfl (eB rfl) (jz (jjJ rfl (jjB ?_))))); refine jjC (jJ (eB rfl) (jz (jjF ?_))); refine jB rfl rfl ⟨inferInstance, ?_⟩)
    exact ⟨_, rfl, fun h => by cases h⟩
  | true =>
  (refine jT rfl rfl rfl (jp rfl (jL rfl (eB rfl) (jI (eB rfl) (jT rfl rfl rfl (jm ?_))))); refine jn rfl (jT rfl rfl rfl (jN rfl rfl rfl (jT rfl rfl rfl ?_))))
  refine jjQ ((within_postilref05 ss[i].2.2.2 0 400 _).mono fun v _ _ h => h.trans (by rw [hB6])) rfl rfl ?_
  rintro _ w8 hS8 rfl
  cases B6 with
  | false =>
    (refine jT rfl rfl rfl (jq rfl (jL rfl (eB rfl) (jz (jjJ rfl (jjB ?_))))); refine jjC (jJ (eB rfl) (jz (jjF ?_))); refine jB rfl rfl ⟨inferInstance, ?_⟩)
    exact ⟨_, rfl, fun h => by cases h⟩
  | true =>
  rw [inB_iff] at hB4 hB5 hB6
  have gs : ∀ k (h : k < ss.length), (ss.map encShr)[k]? = some (encShr ss[k]) := fun k h => by rw [List.getElem?_map, List.getElem?_eq_getElem h]; rfl
  have gs0 := gs i hi1
  have i8 : RowI w8 (.slice sa ss.length sc) true 4 (ss.map encShr) := inferInstance
  obtain ⟨sb, so, rfl, -⟩ := i8.h.place' gs0
  have AT : ∀ k (h : k < ss.length) V, Ext w8 V → At V sb (so + k * 4) [.int .i64 ss[k].1, .int .i64 ss[k].2.1, .int .i64 ss[k].2.2.1, .int .i64 ss[k].2.2.2] := fun k h V hE => place_k (i8.h.ext hE) (gs k h)
  clear gs gs0
  have hcase : (i = 0 ∨ ∃ j, ∃ (hj : j < ss.length), i = j + 1 ∧ (ss[i].1 ≤ ss[j].1 ∨ (¬ ss[i].1 ≤ ss[j].1 ∧ ss[i].2.1 ≤ ss[j].2.1) ∨ (¬ ss[i].1 ≤ ss[j].1 ∧ ¬ ss[i].2.1 ≤ ss[j].2.1 ∧ (i = 1 ∨ ∃ l, ∃ (hl : l < ss.length), i = l + 2 ∧ (ss[i].1 ≤ ss[l].2.1 ∨ ¬ ss[i].1 ≤ ss[l].2.1))))) := by
    by_cases e : i = 0
    · exact .inl e
    refine .inr ⟨i - 1, by omega, by omega, ?_⟩
    by_cases h1 : ss[i].1 ≤ ss[i - 1].1
    · exact .inl h1
    by_cases h2 : ss[i].2.1 ≤ ss[i - 1].2.1
    · exact .inr (.inl ⟨h1, h2⟩)
    refine .inr (.inr ⟨h1, h2, ?_⟩)
    by_cases e : i = 1
    · exact .inl e
    exact .inr ⟨i - 2, by omega, by omega, Classical.em _⟩
  (refine jT rfl rfl rfl (jp rfl (jL rfl (eB rfl) (jz (jjK rfl (jjG ?_))))); refine jjB (jjB ?_))
  apply join_w (78 :: 79 :: 80 :: 81 :: 82 :: 85 :: 86 :: 87 :: 88 :: 89 :: 8 :: 90 :: 91 :: 92 :: 93 :: 94 :: 95 :: 96 :: 97 :: 98 :: 99 :: 100 :: 101 :: 102 :: 103 :: 104 :: 105 :: 106 :: 107 :: 108 :: 109 :: 110 :: 111 :: 112 :: 113 :: 114 :: 115 :: 116 :: 117 :: 2 :: 118 :: 119 :: 120 :: 121 :: 122 :: 123 :: 124 :: 125 :: 126 :: 127 :: 128 :: 129 :: 130 :: 131 :: 132 :: 133 :: 134 :: 135 :: 136 :: 137 :: 138 :: 139 :: 140 :: 141 :: 142 :: 143 :: 144 :: 145 :: 146 :: 147 :: 148 :: 149 :: 150 :: 151 :: 152 :: 153 :: 154 :: 155 :: 156 :: 157 :: 158 :: 159 :: 160 :: 161 :: 162 :: 163 :: 164 :: 9 :: 165 :: 166 :: 167 :: 168 :: 169 :: 170 :: 171 :: 172 :: 173 :: 174 :: 175 :: 176 :: 177 :: 178 :: 179 :: 10 :: 180 :: 181 :: 182 :: 183 :: 184 :: 187 :: 188 :: 189 :: 190 :: 191 :: 192 :: 193 :: 194 :: 11 :: 195 :: 196 :: 197 :: 198 :: 199 :: 200 :: 201 :: 202 :: 205 :: 206 :: 207 :: 208 :: 209 :: 210 :: 211 :: 212 :: 213 :: 214 :: 203 :: 204 :: 185 :: 186 :: 83 :: 84 :: 7 :: []) (upds s1 _) (fun _ : Unit => [(1, .pointer (some ⟨b1, 0, none⟩)), (6, .int .i64 (nl : Int)), (7, .int .i64 (i : Int)), (8, .pointer (some ⟨b8, 0, none⟩)), (159, .bool false)]) (fun _ w' => (Ext w8 w' ∧ (∀ (_ : 0 < i), (ss[i - 1]'(by omega)).1 < ss[i].1 ∧ (ss[i - 1]'(by omega)).2.1 < ss[i].2.1)) ∧ ∀ (_ : 1 < i), (ss[i - 2]'(by omega)).2.1 < ss[i].1)
  · intro rest
    refine W.draw (fun w' => Ext w8 w') ?_
    intro w9 hS9
    have q9 := hS9.ext
    rcases hcase with hi0 | ⟨j, hj, hij, hB | hC | ⟨hn1, hn2, h1 | ⟨l, hl, hil, hE | hF⟩⟩⟩
    · refine jjV [0, 1, 2, 3, 4, 5, 6, 7, 8, 9, 10, 11, 12, 13, 14, 15, 16, 17, 18, 19, 20, 21, 22, 23, 24, 25, 26, 27, 28, 29, 30, 31, 32, 33, 34, 35, 36, 37, 38, 39, 40, 41] (by decide +kernel) q9 ?_
      (((refine jjT rfl (fun _ _ => jI (eI rfl) (jz ⟨rfl, rfl⟩)) (jjT rfl (fun _ _ => jje rfl rfl (by omega) (jz ⟨rfl, rfl⟩)) (jjT rfl (fun _ _ => jI (eB rfl) (jz ⟨rfl, rfl⟩)) (jjT rfl (fun _ _ => jU rfl rfl rfl rfl (jz ⟨rfl, rfl⟩)) (jjT rfl (fun _ _ => jU rfl rfl rfl rfl (jz ⟨rfl, rfl⟩)) (jjT rfl (fun _ _ => jU rfl rfl rfl rfl (jz ⟨rfl, rfl⟩)) ?_))))); refine jjT rfl (fun _ _ => jU rfl rfl rfl rfl (jz ⟨rfl, rfl⟩)) (jjT rfl (fun _ _ => jU rfl rfl rfl rfl (jz ⟨rfl, rfl⟩)) (jjT rfl (fun _ _ => jU rfl rfl rfl rfl (jz ⟨rfl, rfl⟩)) (jjT rfl (fun _ _ => jU rfl rfl rfl rfl (jz ⟨rfl, rfl⟩)) (jjT rfl (fun _ _ => jU rfl rfl rfl rfl (jz ⟨rfl, rfl⟩)) (jjT rfl (fun _ _ => jU rfl rfl rfl rfl (jz ⟨rfl, rfl⟩)) ?_))))); refine jjT rfl (fun _ _ => jU rfl rfl rfl rfl (jz ⟨rfl, rfl⟩)) (jjT rfl (fun _ _ => jU rfl rfl rfl rfl (jz ⟨rfl, rfl⟩)) (jjT rfl (fun _ _ => jV rfl rfl (jz ⟨rfl, rfl⟩)) (jjT rfl (fun _ _ => jV rfl rfl (jz ⟨rfl, rfl⟩)) (jjT rfl (fun _ _ => jV rfl rfl (jz ⟨rfl, rfl⟩)) (jjT rfl (fun _ _ => jV rfl rfl (jz ⟨rfl, rfl⟩)) ?_))))); refine jjT rfl (fun _ _ => jV rfl rfl (jz ⟨rfl, rfl⟩)) (jjT rfl (fun _ _ => jV rfl rfl (jz ⟨rfl, rfl⟩)) (jjT rfl (fun _ _ => jV rfl rfl (jz ⟨rfl, rfl⟩)) (jjT rfl (fun _ _ => jV rfl rfl (jz ⟨rfl, rfl⟩)) (jjT rfl (fun _ _ => jV rfl rfl (jz ⟨rfl, rfl⟩)) (jjT rfl (fun _ _ => jV rfl rfl (jz ⟨rfl, rfl⟩)) ?_))))); refine jjT rfl (fun _ _ => jU rfl rfl rfl rfl (jz ⟨rfl, rfl⟩)) (jjT rfl (fun _ _ => jL rfl (eB rfl) (jz ⟨rfl, rfl⟩)) (jjT rfl (fun _ _ => jI (eB rfl) (jz ⟨rfl, rfl⟩)) (jjT rfl (fun _ _ => jT rfl rfl rfl (jI (eI rfl) (jz ⟨rfl, rfl⟩))) (jjT rfl (fun _ _ => jT rfl rfl rfl (jje rfl rfl (by omega) (jz ⟨rfl, rfl⟩))) (jjT rfl (fun _ _ => jT rfl rfl rfl (jI (eB rfl) (jz ⟨rfl, rfl⟩))) ?_))))); refine jjT rfl (fun _ _ => jU rfl rfl rfl rfl (jz ⟨rfl, rfl⟩)) (jjT rfl (fun _ _ => jU rfl rfl rfl rfl (jz ⟨rfl, rfl⟩)) (jjT rfl (fun _ _ => jU rfl rfl rfl rfl (jz ⟨rfl, rfl⟩)) (jjT rfl (fun _ _ => jU rfl rfl rfl rfl (jz ⟨rfl, rfl⟩)) (jjT rfl (fun _ _ => jU rfl rfl rfl rfl (jz ⟨rfl, rfl⟩)) (jjT rfl (fun _ _ => jU rfl rfl rfl rfl (jz ⟨rfl, rfl⟩)) ?_))))); refine jjT rfl (fun _ _ => jU rfl rfl rfl rfl (jz ⟨rfl, rfl⟩)) (jjT rfl (fun _ _ => jU rfl rfl rfl rfl (jz ⟨rfl, rfl⟩)) (jjT rfl (fun _ _ => jU rfl rfl rfl rfl (jz ⟨rfl, rfl⟩)) (jjT rfl (fun _ _ => jU rfl rfl rfl rfl (jz ⟨rfl, rfl⟩)) (jjT rfl (fun _ _ => jT rfl rfl rfl (jL rfl (eB rfl) (jz ⟨rfl, rfl⟩))) (jjT rfl (fun _ _ => jL rfl (eB rfl) (jz ⟨rfl, rfl⟩)) ?_))))); refine jjU ?_)))
      refine jjX (by decide +kernel) q9 ?_
      refine rest () _ _ ⟨⟨q9, fun h => by omega⟩, fun h => by omega⟩ (by (((iterate 82 refine Same.upd rfl ?_); exact Same.ovN))) ?_
      exact ⟨eP rfl, eI rfl, eI rfl, eP rfl, eB rfl, trivial⟩
    · have ej : (i : Int) - 1 = (j : Int) := by omega
      refine jjV [0, 1, 2, 3, 4, 5, 6, 7] (by decide +kernel) q9 ?_
      (((refine jjT rfl (fun _ _ => jI (eI rfl) (jz ⟨rfl, rfl⟩)) (jjT rfl (fun _ _ => jjd rfl rfl (by omega) (jz ⟨rfl, rfl⟩)) (jjT rfl (fun _ _ => jI (eB rfl) (jz ⟨rfl, rfl⟩)) ?_)); apply jjT; exact rfl; rintro w' hq; have := hq.toStep; refine jT rfl rfl rfl (jm (jn rfl (jz ?_))); exact ⟨rfl, rfl⟩; apply jjT; exact rfl; rintro w' hq; have := hq.toStep; refine jT rfl rfl rfl (jN rfl rfl rfl (jz ?_)); exact ⟨rfl, rfl⟩; apply jjT; exact rfl; rintro w' hq; have := hq.toStep; refine jT rfl rfl rfl (jm (jn rfl (jz ?_))); exact ⟨rfl, rfl⟩; apply jjT; exact rfl; rintro w' hq; have := hq.toStep; refine jT rfl rfl rfl (jN rfl rfl rfl (jz ?_)); exact ⟨rfl, rfl⟩; refine jjT rfl (fun _ _ => jT rfl rfl rfl (jI (eI rfl) (jz ⟨rfl, rfl⟩))) (jjU ?_))))
      refine jjV [8] (by decide +kernel) q9 (jjT (v := .int .i64 (j : Int)) rfl (fun w' q1 => ?_) (jjU ?_)); (refine jT rfl rfl rfl (jZ rfl rfl (by omega) ?_); rw [ej]; refine jz ?_; exact ⟨rfl, rfl⟩)
      refine jjV [9] (by decide +kernel) q9 (jjT (v := .pointer (some ⟨sb, so + j * 4, none⟩)) rfl (fun w' q1 => ?_) (jjU ?_)); (refine jT rfl rfl rfl ?_; refine jH j rfl rfl rfl (by omega) ?_; refine jz ?_; exact ⟨rfl, rfl⟩)
      refine jjV [10] (by decide +kernel) q9 ?_
      (((apply jjT; exact rfl; rintro w' hq; have := hq.toStep; refine jT rfl rfl rfl (jm (jn rfl (jz ?_))); exact ⟨rfl, rfl⟩; refine jjU ?_)))
      refine jjV [11] (by decide +kernel) q9 (jjT (v := .int .i64 ss[j].1) rfl (fun w' q1 => ?_) (jjU ?_)); (refine jT rfl rfl rfl ?_; refine jR ((AT j hj _ q1).get (i := 0) rfl) rfl rfl ?_; refine jz ?_; exact ⟨rfl, rfl⟩)
      refine jjV [12, 13, 14, 15, 16, 17, 18, 19, 20, 21, 22, 23, 24, 25, 26, 27, 28, 29, 30, 31, 32, 33, 34, 35, 36, 37, 38, 39, 40, 41] (by decide +kernel) q9 ?_
      (((refine jjT rfl (fun _ _ => jT rfl rfl rfl (jjb rfl rfl (by omega) (jz ⟨rfl, rfl⟩))) (jjT rfl (fun _ _ => jT rfl rfl rfl (jI (eB rfl) (jz ⟨rfl, rfl⟩))) (jjT rfl (fun _ _ => jU rfl rfl rfl rfl (jz ⟨rfl, rfl⟩)) (jjT rfl (fun _ _ => jU rfl rfl rfl rfl (jz ⟨rfl, rfl⟩)) (jjT rfl (fun _ _ => jU rfl rfl rfl rfl (jz ⟨rfl, rfl⟩)) (jjT rfl (fun _ _ => jU rfl rfl rfl rfl (jz ⟨rfl, rfl⟩)) ?_))))); refine jjT rfl (fun _ _ => jU rfl rfl rfl rfl (jz ⟨rfl, rfl⟩)) (jjT rfl (fun _ _ => jU rfl rfl rfl rfl (jz ⟨rfl, rfl⟩)) (jjT rfl (fun _ _ => jU rfl rfl rfl rfl (jz ⟨rfl, rfl⟩)) (jjT rfl (fun _ _ => jU rfl rfl rfl rfl (jz ⟨rfl, rfl⟩)) (jjT rfl (fun _ _ => jU rfl rfl rfl rfl (jz ⟨rfl, rfl⟩)) (jjT rfl (fun _ _ => jU rfl rfl rfl rfl (jz ⟨rfl, rfl⟩)) ?_))))); refine jjT rfl (fun _ _ => jT rfl rfl rfl (jK rfl (eB rfl) (jz ⟨rfl, rfl⟩))) (jjT rfl (fun _ _ => jK rfl (eB rfl) (jz ⟨rfl, rfl⟩)) (jjT rfl (fun _ _ => jI (eB rfl) (jz ⟨rfl, rfl⟩)) (jjT rfl (fun _ _ => jU rfl rfl rfl rfl (jz ⟨rfl, rfl⟩)) (jjT rfl (fun _ _ => jU rfl rfl rfl rfl (jz ⟨rfl, rfl⟩)) (jjT rfl (fun _ _ => jU rfl rfl rfl rfl (jz ⟨rfl, rfl⟩)) ?_))))); refine jjT rfl (fun _ _ => jV rfl rfl (jz ⟨rfl, rfl⟩)) (jjT rfl (fun _ _ => jV rfl rfl (jz ⟨rfl, rfl⟩)) (jjT rfl (fun _ _ => jV rfl rfl (jz ⟨rfl, rfl⟩)) (jjT rfl (fun _ _ => jV rfl rfl (jz ⟨rfl, rfl⟩)) (jjT rfl (fun _ _ => jV rfl rfl (jz ⟨rfl, rfl⟩)) (jjT rfl (fun _ _ => jV rfl rfl (jz ⟨rfl, rfl⟩)) ?_))))); refine jjT rfl (fun _ _ => jV rfl rfl (jz ⟨rfl, rfl⟩)) (jjT rfl (fun _ _ => jV rfl rfl (jz ⟨rfl, rfl⟩)) (jjT rfl (fun _ _ => jV rfl rfl (jz ⟨rfl, rfl⟩)) (jjT rfl (fun _ _ => jV rfl rfl (jz ⟨rfl, rfl⟩)) (jjT rfl (fun _ _ => jU rfl rfl rfl rfl (jz ⟨rfl, rfl⟩)) (jjT rfl (fun _ _ => jK rfl (eB rfl) (jz ⟨rfl, rfl⟩)) ?_))))); refine jjU ?_)))
      refine jjX (by decide +kernel) q9 ?_
      (refine jjJ rfl (jjB (jjC (jJ (eB rfl) (jz (jjF ?_))))); refine jB rfl rfl ⟨inferInstance, ?_⟩)
      exact ⟨_, rfl, fun h => by cases h⟩
    · have ej : (i : Int) - 1 = (j : Int) := by omega
      refine jjV [0, 1, 2, 3, 4, 5, 6, 7] (by decide +kernel) q9 ?_
      (((refine jjT rfl (fun _ _ => jI (eI rfl) (jz ⟨rfl, rfl⟩)) (jjT rfl (fun _ _ => jjd rfl rfl (by omega) (jz ⟨rfl, rfl⟩)) (jjT rfl (fun _ _ => jI (eB rfl) (jz ⟨rfl, rfl⟩)) ?_)); apply jjT; exact rfl; rintro w' hq; have := hq.toStep; refine jT rfl rfl rfl (jm (jn rfl (jz ?_))); exact ⟨rfl, rfl⟩; apply jjT; exact rfl; rintro w' hq; have := hq.toStep; refine jT rfl rfl rfl (jN rfl rfl rfl (jz ?_)); exact ⟨rfl, rfl⟩; apply jjT; exact rfl; rintro w' hq; have := hq.toStep; refine jT rfl rfl rfl (jm (jn rfl (jz ?_))); exact ⟨rfl, rfl⟩; apply jjT; exact rfl; rintro w' hq; have := hq.toStep; refine jT rfl rfl rfl (jN rfl rfl rfl (jz ?_)); exact ⟨rfl, rfl⟩; refine jjT rfl (fun _ _ => jT rfl rfl rfl (jI (eI rfl) (jz ⟨rfl, rfl⟩))) (jjU ?_))))
      refine jjV [8] (by decide +kernel) q9 (jjT (v := .int .i64 (j : Int)) rfl (fun w' q1 => ?_) (jjU ?_)); (refine jT rfl rfl rfl (jZ rfl rfl (by omega) ?_); rw [ej]; refine jz ?_; exact ⟨rfl, rfl⟩)
      refine jjV [9] (by decide +kernel) q9 (jjT (v := .pointer (some ⟨sb, so + j * 4, none⟩)) rfl (fun w' q1 => ?_) (jjU ?_)); (refine jT rfl rfl rfl ?_; refine jH j rfl rfl rfl (by omega) ?_; refine jz ?_; exact ⟨rfl, rfl⟩)
      refine jjV [10] (by decide +kernel) q9 ?_
      (((apply jjT; exact rfl; rintro w' hq; have := hq.toStep; refine jT rfl rfl rfl (jm (jn rfl (jz ?_))); exact ⟨rfl, rfl⟩; refine jjU ?_)))
      refine jjV [11] (by decide +kernel) q9 (jjT (v := .int .i64 ss[j].1) rfl (fun w' q1 => ?_) (jjU ?_)); (refine jT rfl rfl rfl ?_; refine jR ((AT j hj _ q1).get (i := 0) rfl) rfl rfl ?_; refine jz ?_; exact ⟨rfl, rfl⟩)
      refine jjV [12, 13, 14, 15, 16, 17, 18] (by decide +kernel) q9 ?_
      (((refine jjT rfl (fun _ _ => jT rfl rfl rfl (jjc rfl rfl (by omega) (jz ⟨rfl, rfl⟩))) (jjT rfl (fun _ _ => jT rfl rfl rfl (jI (eB rfl) (jz ⟨rfl, rfl⟩))) ?_); apply jjT; exact rfl; rintro w' hq; have := hq.toStep; refine jT rfl rfl rfl (jm (jn rfl (jz ?_))); exact ⟨rfl, rfl⟩; apply jjT; exact rfl; rintro w' hq; have := hq.toStep; refine jT rfl rfl rfl (jN rfl rfl rfl (jz ?_)); exact ⟨rfl, rfl⟩; apply jjT; exact rfl; rintro w' hq; have := hq.toStep; refine jT rfl rfl rfl (jm (jn rfl (jz ?_))); exact ⟨rfl, rfl⟩; apply jjT; exact rfl; rintro w' hq; have := hq.toStep; refine jT rfl rfl rfl (jN rfl rfl rfl (jz ?_)); exact ⟨rfl, rfl⟩; refine jjT rfl (fun _ _ => jT rfl rfl rfl (jI (eI rfl) (jz ⟨rfl, rfl⟩))) (jjU ?_))))
      refine jjV [19] (by decide +kernel) q9 (jjT (v := .int .i64 (j : Int)) rfl (fun w' q1 => ?_) (jjU ?_)); (refine jT rfl rfl rfl (jZ rfl rfl (by omega) ?_); rw [ej]; refine jz ?_; exact ⟨rfl, rfl⟩)
      refine jjV [20] (by decide +kernel) q9 (jjT (v := .pointer (some ⟨sb, so + j * 4, none⟩)) rfl (fun w' q1 => ?_) (jjU ?_)); (refine jT rfl rfl rfl ?_; refine jH j rfl rfl rfl (by omega) ?_; refine jz ?_; exact ⟨rfl, rfl⟩)
      refine jjV [21] (by decide +kernel) q9 ?_
      (((apply jjT; exact rfl; rintro w' hq; have := hq.toStep; refine jT rfl rfl rfl (jm (jn rfl (jz ?_))); exact ⟨rfl, rfl⟩; refine jjU ?_)))
      refine jjV [22] (by decide +kernel) q9 (jjT (v := .int .i64 ss[j].2.1) rfl (fun w' q1 => ?_) (jjU ?_)); (refine jT rfl rfl rfl ?_; refine jR ((AT j hj _ q1).get (i := 1) rfl) rfl rfl ?_; refine jz ?_; exact ⟨rfl, rfl⟩)
      refine jjV [23, 24, 25, 26, 27, 28, 29, 30, 31, 32, 33, 34, 35, 36, 37, 38, 39, 40, 41] (by decide +kernel) q9 ?_
      (((refine jjT rfl (fun _ _ => jT rfl rfl rfl (jjb rfl rfl (by omega) (jz ⟨rfl, rfl⟩))) (jjT rfl (fun _ _ => jT rfl rfl rfl (jL rfl (eB rfl) (jz ⟨rfl, rfl⟩))) (jjT rfl (fun _ _ => jK rfl (eB rfl) (jz ⟨rfl, rfl⟩)) (jjT rfl (fun _ _ => jI (eB rfl) (jz ⟨rfl, rfl⟩)) (jjT rfl (fun _ _ => jU rfl rfl rfl rfl (jz ⟨rfl, rfl⟩)) (jjT rfl (fun _ _ => jU rfl rfl rfl rfl (jz ⟨rfl, rfl⟩)) ?_))))); refine jjT rfl (fun _ _ => jU rfl rfl rfl rfl (jz ⟨rfl, rfl⟩)) (jjT rfl (fun _ _ => jV rfl rfl (jz ⟨rfl, rfl⟩)) (jjT rfl (fun _ _ => jV rfl rfl (jz ⟨rfl, rfl⟩)) (jjT rfl (fun _ _ => jV rfl rfl (jz ⟨rfl, rfl⟩)) (jjT rfl (fun _ _ => jV rfl rfl (jz ⟨rfl, rfl⟩)) (jjT rfl (fun _ _ => jV rfl rfl (jz ⟨rfl, rfl⟩)) ?_))))); refine jjT rfl (fun _ _ => jV rfl rfl (jz ⟨rfl, rfl⟩)) (jjT rfl (fun _ _ => jV rfl rfl (jz ⟨rfl, rfl⟩)) (jjT rfl (fun _ _ => jV rfl rfl (jz ⟨rfl, rfl⟩)) (jjT rfl (fun _ _ => jV rfl rfl (jz ⟨rfl, rfl⟩)) (jjT rfl (fun _ _ => jV rfl rfl (jz ⟨rfl, rfl⟩)) (jjT rfl (fun _ _ => jU rfl rfl rfl rfl (jz ⟨rfl, rfl⟩)) ?_))))); refine jjT rfl (fun _ _ => jK rfl (eB rfl) (jz ⟨rfl, rfl⟩)) (jjU ?_))))
      refine jjX (by decide +kernel) q9 ?_
      (refine jjJ rfl (jjB (jjC (jJ (eB rfl) (jz (jjF ?_))))); refine jB rfl rfl ⟨inferInstance, ?_⟩)
      exact ⟨_, rfl, fun h => by cases h⟩
    · have ej : (i : Int) - 1 = (j : Int) := by omega
      refine jjV [0, 1, 2, 3, 4, 5, 6, 7] (by decide +kernel) q9 ?_
      (((refine jjT rfl (fun _ _ => jI (eI rfl) (jz ⟨rfl, rfl⟩)) (jjT rfl (fun _ _ => jjd rfl rfl (by omega) (jz ⟨rfl, rfl⟩)) (jjT rfl (fun _ _ => jI (eB rfl) (jz ⟨rfl, rfl⟩)) ?_)); apply jjT; exact rfl; rintro w' hq; have := hq.toStep; refine jT rfl rfl rfl (jm (jn rfl (jz ?_))); exact ⟨rfl, rfl⟩; apply jjT; exact rfl; rintro w' hq; have := hq.toStep; refine jT rfl rfl rfl (jN rfl rfl rfl (jz ?_)); exact ⟨rfl, rfl⟩; apply jjT; exact rfl; rintro w' hq; have := hq.toStep; refine jT rfl rfl rfl (jm (jn rfl (jz ?_))); exact ⟨rfl, rfl⟩; apply jjT; exact rfl; rintro w' hq; have := hq.toStep; refine jT rfl rfl rfl (jN rfl rfl rfl (jz ?_)); exact ⟨rfl, rfl⟩; refine jjT rfl (fun _ _ => jT rfl rfl rfl (jI (eI rfl) (jz ⟨rfl, rfl⟩))) (jjU ?_))))
      refine jjV [8] (by decide +kernel) q9 (jjT (v := .int .i64 (j : Int)) rfl (fun w' q1 => ?_) (jjU ?_)); (refine jT rfl rfl rfl (jZ rfl rfl (by omega) ?_); rw [ej]; refine jz ?_; exact ⟨rfl, rfl⟩)
      refine jjV [9] (by decide +kernel) q9 (jjT (v := .pointer (some ⟨sb, so + j * 4, none⟩)) rfl (fun w' q1 => ?_) (jjU ?_)); (refine jT rfl rfl rfl ?_; refine jH j rfl rfl rfl (by omega) ?_; refine jz ?_; exact ⟨rfl, rfl⟩)
      refine jjV [10] (by decide +kernel) q9 ?_
      (((apply jjT; exact rfl; rintro w' hq; have := hq.toStep; refine jT rfl rfl rfl (jm (jn rfl (jz ?_))); exact ⟨rfl, rfl⟩; refine jjU ?_)))
      refine jjV [11] (by decide +kernel) q9 (jjT (v := .int .i64 ss[j].1) rfl (fun w' q1 => ?_) (jjU ?_)); (refine jT rfl rfl rfl ?_; refine jR ((AT j hj _ q1).get (i := 0) rfl) rfl rfl ?_; refine jz ?_; exact ⟨rfl, rfl⟩)
      refine jjV [12, 13, 14, 15, 16, 17, 18] (by decide +kernel) q9 ?_
      (((refine jjT rfl (fun _ _ => jT rfl rfl rfl (jjc rfl rfl (by omega) (jz ⟨rfl, rfl⟩))) (jjT rfl (fun _ _ => jT rfl rfl rfl (jI (eB rfl) (jz ⟨rfl, rfl⟩))) ?_); apply jjT; exact rfl; rintro w' hq; have := hq.toStep; refine jT rfl rfl rfl (jm (jn rfl (jz ?_))); exact ⟨rfl, rfl⟩; apply jjT; exact rfl; rintro w' hq; have := hq.toStep; refine jT rfl rfl rfl (jN rfl rfl rfl (jz ?_)); exact ⟨rfl, rfl⟩; apply jjT; exact rfl; rintro w' hq; have := hq.toStep; refine jT rfl rfl rfl (jm (jn rfl (jz ?_))); exact ⟨rfl, rfl⟩; apply jjT; exact rfl; rintro w' hq; have := hq.toStep; refine jT rfl rfl rfl (jN rfl rfl rfl (jz ?_)); exact ⟨rfl, rfl⟩; refine jjT rfl (fun _ _ => jT rfl rfl rfl (jI (eI rfl) (jz ⟨rfl, rfl⟩))) (jjU ?_))))
      refine jjV [19] (by decide +kernel) q9 (jjT (v := .int .i64 (j : Int)) rfl (fun w' q1 => ?_) (jjU ?_)); (refine jT rfl rfl rfl (jZ rfl rfl (by omega) ?_); rw [ej]; refine jz ?_; exact ⟨rfl, rfl⟩)
      refine jjV [20] (by decide +kernel) q9 (jjT (v := .pointer (some ⟨sb, so + j * 4, none⟩)) rfl (fun w' q1 => ?_) (jjU ?_)); (refine jT rfl rfl rfl ?_; refine jH j rfl rfl rfl (by omega) ?_; refine jz ?_; exact ⟨rfl, rfl⟩)
      refine jjV [21] (by decide +kernel) q9 ?_
      (((apply jjT; exact rfl; rintro w' hq; have := hq.toStep; refine jT rfl rfl rfl (jm (jn rfl (jz ?_))); exact ⟨rfl, rfl⟩; refine jjU ?_)))
      refine jjV [22] (by decide +kernel) q9 (jjT (v := .int .i64 ss[j].2.1) rfl (fun w' q1 => ?_) (jjU ?_)); (refine jT rfl rfl rfl ?_; refine jR ((AT j hj _ q1).get (i := 1) rfl) rfl rfl ?_; refine jz ?_; exact ⟨rfl, rfl⟩)
      refine jjV [23, 24, 25, 26, 27, 28, 29, 30, 31, 32, 33, 34, 35, 36, 37, 38, 39, 40, 41] (by decide +kernel) q9 ?_
      (((refine jjT rfl (fun _ _ => jT rfl rfl rfl (jjc rfl rfl (by omega) (jz ⟨rfl, rfl⟩))) (jjT rfl (fun _ _ => jT rfl rfl rfl (jL rfl (eB rfl) (jz ⟨rfl, rfl⟩))) (jjT rfl (fun _ _ => jK rfl (eB rfl) (jz ⟨rfl, rfl⟩)) (jjT rfl (fun _ _ => jI (eB rfl) (jz ⟨rfl, rfl⟩)) (jjT rfl (fun _ _ => jT rfl rfl rfl (jI (eI rfl) (jz ⟨rfl, rfl⟩))) (jjT rfl (fun _ _ => jT rfl rfl rfl (jje rfl rfl (by omega) (jz ⟨rfl, rfl⟩))) ?_))))); refine jjT rfl (fun _ _ => jT rfl rfl rfl (jI (eB rfl) (jz ⟨rfl, rfl⟩))) (jjT rfl (fun _ _ => jU rfl rfl rfl rfl (jz ⟨rfl, rfl⟩)) (jjT rfl (fun _ _ => jU rfl rfl rfl rfl (jz ⟨rfl, rfl⟩)) (jjT rfl (fun _ _ => jU rfl rfl rfl rfl (jz ⟨rfl, rfl⟩)) (jjT rfl (fun _ _ => jU rfl rfl rfl rfl (jz ⟨rfl, rfl⟩)) (jjT rfl (fun _ _ => jU rfl rfl rfl rfl (jz ⟨rfl, rfl⟩)) ?_))))); refine jjT rfl (fun _ _ => jU rfl rfl rfl rfl (jz ⟨rfl, rfl⟩)) (jjT rfl (fun _ _ => jU rfl rfl rfl rfl (jz ⟨rfl, rfl⟩)) (jjT rfl (fun _ _ => jU rfl rfl rfl rfl (jz ⟨rfl, rfl⟩)) (jjT rfl (fun _ _ => jU rfl rfl rfl rfl (jz ⟨rfl, rfl⟩)) (jjT rfl (fun _ _ => jU rfl rfl rfl rfl (jz ⟨rfl, rfl⟩)) (jjT rfl (fun _ _ => jT rfl rfl rfl (jL rfl (eB rfl) (jz ⟨rfl, rfl⟩))) ?_))))); refine jjT rfl (fun _ _ => jL rfl (eB rfl) (jz ⟨rfl, rfl⟩)) (jjU ?_))))
      refine jjX (by decide +kernel) q9 ?_
      refine rest () _ _ ⟨⟨q9, fun h => by subst hij; exact ⟨by simp only [Nat.add_sub_cancel]; omega, by simp only [Nat.add_sub_cancel]; omega⟩⟩, fun h => by omega⟩ (by (((iterate 82 refine Same.upd rfl ?_); exact Same.ovN))) ?_
      exact ⟨eP rfl, eI rfl, eI rfl, eP rfl, eB rfl, trivial⟩
    · have ej : (i : Int) - 1 = (j : Int) := by omega
      have el : (i : Int) - 2 = (l : Int) := by omega
      refine jjV [0, 1, 2, 3, 4, 5, 6, 7] (by decide +kernel) q9 ?_
      (((refine jjT rfl (fun _ _ => jI (eI rfl) (jz ⟨rfl, rfl⟩)) (jjT rfl (fun _ _ => jjd rfl rfl (by omega) (jz ⟨rfl, rfl⟩)) (jjT rfl (fun _ _ => jI (eB rfl) (jz ⟨rfl, rfl⟩)) ?_)); apply jjT; exact rfl; rintro w' hq; have := hq.toStep; refine jT rfl rfl rfl (jm (jn rfl (jz ?_))); exact ⟨rfl, rfl⟩; apply jjT; exact rfl; rintro w' hq; have := hq.toStep; refine jT rfl rfl rfl (jN rfl rfl rfl (jz ?_)); exact ⟨rfl, rfl⟩; apply jjT; exact rfl; rintro w' hq; have := hq.toStep; refine jT rfl rfl rfl (jm (jn rfl (jz ?_))); exact ⟨rfl, rfl⟩; apply jjT; exact rfl; rintro w' hq; have := hq.toStep; refine jT rfl rfl rfl (jN rfl rfl rfl (jz ?_)); exact ⟨rfl, rfl⟩; refine jjT rfl (fun _ _ => jT rfl rfl rfl (jI (eI rfl) (jz ⟨rfl, rfl⟩))) (jjU ?_))))
      refine jjV [8] (by decide +kernel) q9 (jjT (v := .int .i64 (j : Int)) rfl (fun w' q1 => ?_) (jjU ?_)); (refine jT rfl rfl rfl (jZ rfl rfl (by omega) ?_); rw [ej]; refine jz ?_; exact ⟨rfl, rfl⟩)
      refine jjV [9] (by decide +kernel) q9 (jjT (v := .pointer (some ⟨sb, so + j * 4, none⟩)) rfl (fun w' q1 => ?_) (jjU ?_)); (refine jT rfl rfl rfl ?_; refine jH j rfl rfl rfl (by omega) ?_; refine jz ?_; exact ⟨rfl, rfl⟩)
      refine jjV [10] (by decide +kernel) q9 ?_
      (((apply jjT; exact rfl; rintro w' hq; have := hq.toStep; refine jT rfl rfl rfl (jm (jn rfl (jz ?_))); exact ⟨rfl, rfl⟩; refine jjU ?_)))
      refine jjV [11] (by decide +kernel) q9 (jjT (v := .int .i64 ss[j].1) rfl (fun w' q1 => ?_) (jjU ?_)); (refine jT rfl rfl rfl ?_; refine jR ((AT j hj _ q1).get (i := 0) rfl) rfl rfl ?_; refine jz ?_; exact ⟨rfl, rfl⟩)
      refine jjV [12, 13, 14, 15, 16, 17, 18] (by decide +kernel) q9 ?_
      (((refine jjT rfl (fun _ _ => jT rfl rfl rfl (jjc rfl rfl (by omega) (jz ⟨rfl, rfl⟩))) (jjT rfl (fun _ _ => jT rfl rfl rfl (jI (eB rfl) (jz ⟨rfl, rfl⟩))) ?_); apply jjT; exact rfl; rintro w' hq; have := hq.toStep; refine jT rfl rfl rfl (jm (jn rfl (jz ?_))); exact ⟨rfl, rfl⟩; apply jjT; exact rfl; rintro w' hq; have := hq.toStep; refine jT rfl rfl rfl (jN rfl rfl rfl (jz ?_)); exact ⟨rfl, rfl⟩; apply jjT; exact rfl; rintro w' hq; have := hq.toStep; refine jT rfl rfl rfl (jm (jn rfl (jz ?_))); exact ⟨rfl, rfl⟩; apply jjT; exact rfl; rintro w' hq; have := hq.toStep; refine jT rfl rfl rfl (jN rfl rfl rfl (jz ?_)); exact ⟨rfl, rfl⟩; refine jjT rfl (fun _ _ => jT rfl rfl rfl (jI (eI rfl) (jz ⟨rfl, rfl⟩))) (jjU ?_))))
      refine jjV [19] (by decide +kernel) q9 (jjT (v := .int .i64 (j : Int)) rfl (fun w' q1 => ?_) (jjU ?_)); (refine jT rfl rfl rfl (jZ rfl rfl (by omega) ?_); rw [ej]; refine jz ?_; exact ⟨rfl, rfl⟩)
      refine jjV [20] (by decide +kernel) q9 (jjT (v := .pointer (some ⟨sb, so + j * 4, none⟩)) rfl (fun w' q1 => ?_) (jjU ?_)); (refine jT rfl rfl rfl ?_; refine jH j rfl rfl rfl (by omega) ?_; refine jz ?_; exact ⟨rfl, rfl⟩)
      refine jjV [21] (by decide +kernel) q9 ?_
      (((apply jjT; exact rfl; rintro w' hq; have := hq.toStep; refine jT rfl rfl rfl (jm (jn rfl (jz ?_))); exact ⟨rfl, rfl⟩; refine jjU ?_)))
      refine jjV [22] (by decide +kernel) q9 (jjT (v := .int .i64 ss[j].2.1) rfl (fun w' q1 => ?_) (jjU ?_)); (refine jT rfl rfl rfl ?_; refine jR ((AT j hj _ q1).get (i := 1) rfl) rfl rfl ?_; refine jz ?_; exact ⟨rfl, rfl⟩)
      refine jjV [23, 24, 25, 26, 27, 28, 29, 30, 31, 32, 33, 34] (by decide +kernel) q9 ?_
      (((refine jjT rfl (fun _ _ => jT rfl rfl rfl (jjc rfl rfl (by omega) (jz ⟨rfl, rfl⟩))) (jjT rfl (fun _ _ => jT rfl rfl rfl (jL rfl (eB rfl) (jz ⟨rfl, rfl⟩))) (jjT rfl (fun _ _ => jK rfl (eB rfl) (jz ⟨rfl, rfl⟩)) (jjT rfl (fun _ _ => jI (eB rfl) (jz ⟨rfl, rfl⟩)) (jjT rfl (fun _ _ => jT rfl rfl rfl (jI (eI rfl) (jz ⟨rfl, rfl⟩))) (jjT rfl (fun _ _ => jT rfl rfl rfl (jjd rfl rfl (by omega) (jz ⟨rfl, rfl⟩))) ?_))))); refine jjT rfl (fun _ _ => jT rfl rfl rfl (jI (eB rfl) (jz ⟨rfl, rfl⟩))) ?_; apply jjT; exact rfl; rintro w' hq; have := hq.toStep; refine jT rfl rfl rfl (jm (jn rfl (jz ?_))); exact ⟨rfl, rfl⟩; apply jjT; exact rfl; rintro w' hq; have := hq.toStep; refine jT rfl rfl rfl (jN rfl rfl rfl (jz ?_)); exact ⟨rfl, rfl⟩; apply jjT; exact rfl; rintro w' hq; have := hq.toStep; refine jT rfl rfl rfl (jm (jn rfl (jz ?_))); exact ⟨rfl, rfl⟩; apply jjT; exact rfl; rintro w' hq; have := hq.toStep; refine jT rfl rfl rfl (jN rfl rfl rfl (jz ?_)); exact ⟨rfl, rfl⟩; refine jjT rfl (fun _ _ => jT rfl rfl rfl (jI (eI rfl) (jz ⟨rfl, rfl⟩))) (jjU ?_))))
      refine jjV [35] (by decide +kernel) q9 (jjT (v := .int .i64 (l : Int)) rfl (fun w' q1 => ?_) (jjU ?_)); (refine jT rfl rfl rfl (jZ rfl rfl (by omega) ?_); rw [el]; refine jz ?_; exact ⟨rfl, rfl⟩)
      refine jjV [36] (by decide +kernel) q9 (jjT (v := .pointer (some ⟨sb, so + l * 4, none⟩)) rfl (fun w' q1 => ?_) (jjU ?_)); (refine jT rfl rfl rfl ?_; refine jH l rfl rfl rfl (by omega) ?_; refine jz ?_; exact ⟨rfl, rfl⟩)
      refine jjV [37] (by decide +kernel) q9 ?_
      (((apply jjT; exact rfl; rintro w' hq; have := hq.toStep; refine jT rfl rfl rfl (jm (jn rfl (jz ?_))); exact ⟨rfl, rfl⟩; refine jjU ?_)))
      refine jjV [38] (by decide +kernel) q9 (jjT (v := .int .i64 ss[l].2.1) rfl (fun w' q1 => ?_) (jjU ?_)); (refine jT rfl rfl rfl ?_; refine jR ((AT l hl _ q1).get (i := 1) rfl) rfl rfl ?_; refine jz ?_; exact ⟨rfl, rfl⟩)
      refine jjV [39, 40, 41] (by decide +kernel) q9 ?_
      (((refine jjT rfl (fun _ _ => jT rfl rfl rfl (jjb rfl rfl (by omega) (jz ⟨rfl, rfl⟩))) (jjT rfl (fun _ _ => jT rfl rfl rfl (jK rfl (eB rfl) (jz ⟨rfl, rfl⟩))) (jjT rfl (fun _ _ => jL rfl (eB rfl) (jz ⟨rfl, rfl⟩)) (jjU ?_))))))
      refine jjX (by decide +kernel) q9 ?_
      (refine jjJ rfl (jjB (jjC (jJ (eB rfl) (jz (jjF ?_))))); refine jB rfl rfl ⟨inferInstance, ?_⟩)
      exact ⟨_, rfl, fun h => by cases h⟩
    · have ej : (i : Int) - 1 = (j : Int) := by omega
      have el : (i : Int) - 2 = (l : Int) := by omega
      refine jjV [0, 1, 2, 3, 4, 5, 6, 7] (by decide +kernel) q9 ?_
      (((refine jjT rfl (fun _ _ => jI (eI rfl) (jz ⟨rfl, rfl⟩)) (jjT rfl (fun _ _ => jjd rfl rfl (by omega) (jz ⟨rfl, rfl⟩)) (jjT rfl (fun _ _ => jI (eB rfl) (jz ⟨rfl, rfl⟩)) ?_)); apply jjT; exact rfl; rintro w' hq; have := hq.toStep; refine jT rfl rfl rfl (jm (jn rfl (jz ?_))); exact ⟨rfl, rfl⟩; apply jjT; exact rfl; rintro w' hq; have := hq.toStep; refine jT rfl rfl rfl (jN rfl rfl rfl (jz ?_)); exact ⟨rfl, rfl⟩; apply jjT; exact rfl; rintro w' hq; have := hq.toStep; refine jT rfl rfl rfl (jm (jn rfl (jz ?_))); exact ⟨rfl, rfl⟩; apply jjT; exact rfl; rintro w' hq; have := hq.toStep; refine jT rfl rfl rfl (jN rfl rfl rfl (jz ?_)); exact ⟨rfl, rfl⟩; refine jjT rfl (fun _ _ => jT rfl rfl rfl (jI (eI rfl) (jz ⟨rfl, rfl⟩))) (jjU ?_))))
      refine jjV [8] (by decide +kernel) q9 (jjT (v := .int .i64 (j : Int)) rfl (fun w' q1 => ?_) (jjU ?_)); (refine jT rfl rfl rfl (jZ rfl rfl (by omega) ?_); rw [ej]; refine jz ?_; exact ⟨rfl, rfl⟩)
      refine jjV [9] (by decide +kernel) q9 (jjT (v := .pointer (some ⟨sb, so + j * 4, none⟩)) rfl (fun w' q1 => ?_) (jjU ?_)); (refine jT rfl rfl rfl ?_; refine jH j rfl rfl rfl (by omega) ?_; refine jz ?_; exact ⟨rfl, rfl⟩)
      refine jjV [10] (by decide +kernel) q9 ?_
      (((apply jjT; exact rfl; rintro w' hq; have := hq.toStep; refine jT rfl rfl rfl (jm (jn rfl (jz ?_))); exact ⟨rfl, rfl⟩; refine jjU ?_)))
      refine jjV [11] (by decide +kernel) q9 (jjT (v := .int .i64 ss[j].1) rfl (fun w' q1 => ?_) (jjU ?_)); (refine jT rfl rfl rfl ?_; refine jR ((AT j hj _ q1).get (i := 0) rfl) rfl rfl ?_; refine jz ?_; exact ⟨rfl, rfl⟩)
      refine jjV [12, 13, 14, 15, 16, 17, 18] (by decide +kernel) q9 ?_
      (((refine jjT rfl (fun _ _ => jT rfl rfl rfl (jjc rfl rfl (by omega) (jz ⟨rfl, rfl⟩))) (jjT rfl (fun _ _ => jT rfl rfl rfl (jI (eB rfl) (jz ⟨rfl, rfl⟩))) ?_); apply jjT; exact rfl; rintro w' hq; have := hq.toStep; refine jT rfl rfl rfl (jm (jn rfl (jz ?_))); exact ⟨rfl, rfl⟩; apply jjT; exact rfl; rintro w' hq; have := hq.toStep; refine jT rfl rfl rfl (jN rfl rfl rfl (jz ?_)); exact ⟨rfl, rfl⟩; apply jjT; exact rfl; rintro w' hq; have := hq.toStep; refine jT rfl rfl rfl (jm (jn rfl (jz ?_))); exact ⟨rfl, rfl⟩; apply jjT; exact rfl; rintro w' hq; have := hq.toStep; refine jT rfl rfl rfl (jN rfl rfl rfl (jz ?_)); exact ⟨rfl, rfl⟩; refine jjT rfl (fun _ _ => jT rfl rfl rfl (jI (eI rfl) (jz ⟨rfl, rfl⟩))) (jjU ?_))))
      refine jjV [19] (by decide +kernel) q9 (jjT (v := .int .i64 (j : Int)) rfl (fun w' q1 => ?_) (jjU ?_)); (refine jT rfl rfl rfl (jZ rfl rfl (by omega) ?_); rw [ej]; refine jz ?_; exact ⟨rfl, rfl⟩)
      refine jjV [20] (by decide +kernel) q9 (jjT (v := .pointer (some ⟨sb, so + j * 4, none⟩)) rfl (fun w' q1 => ?_) (jjU ?_)); (refine jT rfl rfl rfl ?_; refine jH j rfl rfl rfl (by omega) ?_; refine jz ?_; exact ⟨rfl, rfl⟩)
      refine jjV [21] (by decide +kernel) q9 ?_
      (((apply jjT; exact rfl; rintro w' hq; have := hq.toStep; refine jT rfl rfl rfl (jm (jn rfl (jz ?_))); exact ⟨rfl, rfl⟩; refine jjU ?_)))
      refine jjV [22] (by decide +kernel) q9 (jjT (v := .int .i64 ss[j].2.1) rfl (fun w' q1 => ?_) (jjU ?_)); (refine jT rfl rfl rfl ?_; refine jR ((AT j hj _ q1).get (i := 1) rfl) rfl rfl ?_; refine jz ?_; exact ⟨rfl, rfl⟩)
      refine jjV [23, 24, 25, 26, 27, 28, 29, 30, 31, 32, 33, 34] (by decide +kernel) q9 ?_
      (((refine jjT rfl (fun _ _ => jT rfl rfl rfl (jjc rfl rfl (by omega) (jz ⟨rfl, rfl⟩))) (jjT rfl (fun _ _ => jT rfl rfl rfl (jL rfl (eB rfl) (jz ⟨rfl, rfl⟩))) (jjT rfl (fun _ _ => jK rfl (eB rfl) (jz ⟨rfl, rfl⟩)) (jjT rfl (fun _ _ => jI (eB rfl) (jz ⟨rfl, rfl⟩)) (jjT rfl (fun _ _ => jT rfl rfl rfl (jI (eI rfl) (jz ⟨rfl, rfl⟩))) (jjT rfl (fun _ _ => jT rfl rfl rfl (jjd rfl rfl (by omega) (jz ⟨rfl, rfl⟩))) ?_))))); refine jjT rfl (fun _ _ => jT rfl rfl rfl (jI (eB rfl) (jz ⟨rfl, rfl⟩))) ?_; apply jjT; exact rfl; rintro w' hq; have := hq.toStep; refine jT rfl rfl rfl (jm (jn rfl (jz ?_))); exact ⟨rfl, rfl⟩; apply jjT; exact rfl; rintro w' hq; have := hq.toStep; refine jT rfl rfl rfl (jN rfl rfl rfl (jz ?_)); exact ⟨rfl, rfl⟩; apply jjT; exact rfl; rintro w' hq; have := hq.toStep; refine jT rfl rfl rfl (jm (jn rfl (jz ?_))); exact ⟨rfl, rfl⟩; apply jjT; exact rfl; rintro w' hq; have := hq.toStep; refine jT rfl rfl rfl (jN rfl rfl rfl (jz ?_)); exact ⟨rfl, rfl⟩; refine jjT rfl (fun _ _ => jT rfl rfl rfl (jI (eI rfl) (jz ⟨rfl, rfl⟩))) (jjU ?_))))
      refine jjV [35] (by decide +kernel) q9 (jjT (v := .int .i64 (l : Int)) rfl (fun w' q1 => ?_) (jjU ?_)); (refine jT rfl rfl rfl (jZ rfl rfl (by omega) ?_); rw [el]; refine jz ?_; exact ⟨rfl, rfl⟩)
      refine jjV [36] (by decide +kernel) q9 (jjT (v := .pointer (some ⟨sb, so + l * 4, none⟩)) rfl (fun w' q1 => ?_) (jjU ?_)); (refine jT rfl rfl rfl ?_; refine jH l rfl rfl rfl (by omega) ?_; refine jz ?_; exact ⟨rfl, rfl⟩)
      refine jjV [37] (by decide +kernel) q9 ?_
      (((apply jjT; exact rfl; rintro w' hq; have := hq.toStep; refine jT rfl rfl rfl (jm (jn rfl (jz ?_))); exact ⟨rfl, rfl⟩; refine jjU ?_)))
      refine jjV [38] (by decide +kernel) q9 (jjT (v := .int .i64 ss[l].2.1) rfl (fun w' q1 => ?_) (jjU ?_)); (refine jT rfl rfl rfl ?_; refine jR ((AT l hl _ q1).get (i := 1) rfl) rfl rfl ?_; refine jz ?_; exact ⟨rfl, rfl⟩)
      refine jjV [39, 40, 41] (by decide +kernel) q9 ?_
      (((refine jjT rfl (fun _ _ => jT rfl rfl rfl (jjc rfl rfl (by omega) (jz ⟨rfl, rfl⟩))) (jjT rfl (fun _ _ => jT rfl rfl rfl (jK rfl (eB rfl) (jz ⟨rfl, rfl⟩))) (jjT rfl (fun _ _ => jL rfl (eB rfl) (jz ⟨rfl, rfl⟩)) (jjU ?_))))))
      refine jjX (by decide +kernel) q9 ?_
      refine rest () _ _ ⟨⟨q9, fun h => by subst hij; exact ⟨by simp only [Nat.add_sub_cancel]; omega, by simp only [Nat.add_sub_cancel]; omega⟩⟩, fun h => by subst hil; simp only [Nat.add_sub_cancel]; omega⟩ (by (((iterate 82 refine Same.upd rfl ?_); exact Same.ovN))) ?_
      exact ⟨eP rfl, eI rfl, eI rfl, eP rfl, eB rfl, trivial⟩
  rintro _ s5 V6 ⟨⟨q6, ho1⟩, ho2⟩ hSm
  have q6' := q6.toStep
  have hxi1 : i < xs.length := by omega
  obtain ⟨B, hB⟩ : ∃ B, xs[i].1 = B := ⟨_, rfl⟩
  clear hcase AT
  (refine jjK rfl (jjG (jjB (jjC (jm (jn rfl ?_))))); refine jN rfl rfl rfl (jI (eI rfl) ?_); refine jF rfl rfl rfl (map_get (by omega)) ?_; intro _ _ _; refine jQ rfl rfl ?_)
  ((skip); refine jjY ?_; intro b9 w_b9 hb_b9 hs_b9 hS_b9 hk_b9; have hA_b9 := Bk.of hk_b9)
  skip
  refine Ops.store rfl rfl rfl rfl rfl ?_
  intro w9 hp9
  have e9 : Ext V6 w9 := hp9.ext hS_b9.ext (by omega)
  have A9 : At w9 b9 0 [.bool xs[i].1, .slice xs[i].2.1 xs[i].2.2.2.length xs[i].2.2.1] := Bk.toAt (h := ⟨hp9.new⟩)
  rw [hB] at A9
  have e9' := e9.toStep
  by_cases h30 : 30 < xs[i].2.2.2.length
  · (refine jz (jjB (jjB (jjC (jm (jn rfl ?_))))); refine jN rfl rfl rfl (jh rfl (jjd rfl rfl (by omega) (jI (eB rfl) (jU rfl rfl rfl rfl (jU rfl rfl rfl rfl ?_))))); refine jU rfl rfl rfl rfl (jU rfl rfl rfl rfl (jV rfl rfl (jV rfl rfl (jV rfl rfl (jV rfl rfl ?_))))); refine jU rfl rfl rfl rfl (jK rfl (eB rfl) (jz (jjJ rfl (jjB (jjC ?_))))); refine jJ (eB rfl) (jz (jjF ?_)); refine jB rfl rfl ⟨inferInstance, ?_⟩)
    exact ⟨_, rfl, fun h => by cases h⟩
  apply join_w (78 :: 79 :: 80 :: 81 :: 82 :: 85 :: 86 :: 87 :: 88 :: 89 :: 8 :: 90 :: 91 :: 92 :: 93 :: 94 :: 95 :: 96 :: 97 :: 98 :: 99 :: 100 :: 101 :: 102 :: 103 :: 104 :: 105 :: 106 :: 107 :: 108 :: 109 :: 110 :: 111 :: 112 :: 113 :: 114 :: 115 :: 116 :: 117 :: 2 :: 118 :: 119 :: 120 :: 121 :: 122 :: 123 :: 124 :: 125 :: 126 :: 127 :: 128 :: 129 :: 130 :: 131 :: 132 :: 133 :: 134 :: 135 :: 136 :: 137 :: 138 :: 139 :: 140 :: 141 :: 142 :: 143 :: 144 :: 145 :: 146 :: 147 :: 148 :: 149 :: 150 :: 151 :: 152 :: 153 :: 154 :: 155 :: 156 :: 157 :: 158 :: 159 :: 160 :: 161 :: 162 :: 163 :: 164 :: 9 :: 165 :: 166 :: 167 :: 168 :: 169 :: 170 :: 171 :: 172 :: 173 :: 174 :: 175 :: 176 :: 177 :: 178 :: 179 :: 10 :: 180 :: 181 :: 182 :: 183 :: 184 :: 187 :: 188 :: 189 :: 190 :: 191 :: 192 :: 193 :: 194 :: 11 :: 195 :: 196 :: 197 :: 198 :: 199 :: 200 :: 201 :: 202 :: 205 :: 206 :: 207 :: 208 :: 209 :: 210 :: 211 :: 212 :: 213 :: 214 :: 203 :: 204 :: 185 :: 186 :: 83 :: 84 :: 7 :: []) (upds s1 _) (fun _ : Unit => [(1, .pointer (some ⟨b1, 0, none⟩)), (6, .int .i64 (nl : Int)), (7, .int .i64 (i : Int)), (9, .pointer (some ⟨b9, 0, none⟩)), (10, .int .i64 ((0 : Nat) : Int))]) (fun _ w' => Ext w9 w' ∧ (xs[i].1 = true ∨ xs[i].2.2.2.length = 0))
  · intro rest
    cases B with
    | true =>
      (refine jz (jjB (jjB (jjC (jm (jn rfl ?_))))); refine jN rfl rfl rfl (jh rfl (jje rfl rfl (by omega) (jI (eB rfl) (jT rfl rfl rfl (jm ?_))))); refine jn rfl (jT rfl rfl rfl (jN rfl rfl rfl (jT rfl rfl rfl (jp rfl (jT rfl rfl rfl ?_))))); refine jI (eB rfl) (jU rfl rfl rfl rfl (jU rfl rfl rfl rfl (jU rfl rfl rfl rfl (jU rfl rfl rfl rfl (jT rfl rfl rfl ?_))))); refine jL rfl (eB rfl) (jL rfl (eB rfl) (jz (jjK rfl (jjG (jjB ?_))))); refine jjC (jJ (eI rfl) (jz (jjD ?_))))
      refine rest () _ _ ⟨.refl _, .inl hB⟩ (by (((iterate 22 refine Same.upd rfl ?_); assumption))) ?_
      exact ⟨eP rfl, eI rfl, eI rfl, eP rfl, eI rfl, trivial⟩
    | false =>
      by_cases h0 : 0 < xs[i].2.2.2.length
      · (refine jz (jjB (jjB (jjC (jm (jn rfl ?_))))); refine jN rfl rfl rfl (jh rfl (jje rfl rfl (by omega) (jI (eB rfl) (jT rfl rfl rfl (jm ?_))))); refine jn rfl (jT rfl rfl rfl (jN rfl rfl rfl (jT rfl rfl rfl (jq rfl (jT rfl rfl rfl ?_))))); refine jI (eB rfl) (jT rfl rfl rfl (jm (jn rfl (jT rfl rfl rfl (jN rfl rfl rfl ?_))))); refine jT rfl rfl rfl (jh rfl (jT rfl rfl rfl (jjd rfl rfl (by omega) (jT rfl rfl rfl (jK rfl (eB rfl) ?_))))); refine jL rfl (eB rfl) (jz (jjJ rfl (jjB (jjC (jJ (eB rfl) ?_))))); refine jz (jjF ?_); refine jB rfl rfl ⟨inferInstance, ?_⟩)
        exact ⟨_, rfl, fun h => by cases h⟩
      (refine jz (jjB (jjB (jjC (jm (jn rfl ?_))))); refine jN rfl rfl rfl (jh rfl (jje rfl rfl (by omega) (jI (eB rfl) (jT rfl rfl rfl (jm ?_))))); refine jn rfl (jT rfl rfl rfl (jN rfl rfl rfl (jT rfl rfl rfl (jq rfl (jT rfl rfl rfl ?_))))); refine jI (eB rfl) (jT rfl rfl rfl (jm (jn rfl (jT rfl rfl rfl (jN rfl rfl rfl ?_))))); refine jT rfl rfl rfl (jh rfl (jT rfl rfl rfl (jje rfl rfl (by omega) (jT rfl rfl rfl (jK rfl (eB rfl) ?_))))); refine jL rfl (eB rfl) (jz (jjK rfl (jjG (jjB (jjC ?_))))); refine jJ (eI rfl) (jz (jjD ?_)))
      refine rest () _ _ ⟨.refl _, .inr (by omega)⟩ (by (((iterate 22 refine Same.upd rfl ?_); assumption))) ?_
      exact ⟨eP rfl, eI rfl, eI rfl, eP rfl, eI rfl, trivial⟩
  rintro _ s6 w10 ⟨q10, hbk⟩ hSm6
  have q10' := q10.toStep
  refine W.loop (180 :: 181 :: 182 :: 183 :: 184 :: 187 :: 188 :: 189 :: 190 :: 191 :: 192 :: 193 :: 194 :: 2 :: 11 :: 195 :: 196 :: 197 :: 198 :: 199 :: 200 :: 201 :: 202 :: 205 :: 206 :: 207 :: 208 :: 209 :: 210 :: 211 :: 212 :: 213 :: 214 :: 203 :: 204 :: 185 :: 186 :: 10 :: []) (fun g s' V => ∃ n : Nat, s' 10 = .int .i64 ((n : Nat) : Int) ∧ g = xs[i].2.2.2.length - n ∧ n ≤ xs[i].2.2.2.length ∧ ∀ (j : Nat) (hj : j < xs[i].2.2.2.length), j < n → lineB xs[i].2.2.2[j].2.2 = true) xs[i].2.2.2.length ⟨0, rfl, rfl, Nat.zero_le _, by intros; omega⟩ ?_
  rintro _ sd3 w11 hS11 ⟨n, h10, rfl, hn, hpre2⟩
  refine W.fix h10 ?_
  clear h10
  have hX11 : ShtI w11 xs := inferInstance
  have i11 := hX11.line hxi1
  by_cases hn1 : n < xs[i].2.2.2.length
  rotate_left
  · (refine jjB (jjB (jjC (jI (eI rfl) (jm (jn rfl ?_))))); refine jN rfl rfl rfl (jh rfl (jja rfl rfl (by omega) (jz (jjK rfl (jjE ?_))))); refine jjC (jI (eI rfl) (jY rfl rfl (by omega) (jJ (eI rfl) (jz ?_)))))
    refine ⟨rfl, by (((iterate 9 refine Same.upd rfl ?_); refine Same.ovN' rfl ?_; assumption)), ss.length - (i + 1), by omega, inferInstance, i + 1, congrArg (Value.int .i64) (by omega), rfl, by omega, ⟨fun j h hj => ?_, fun j h h0 hj => ?_, fun j h h0 hj => ?_, fun j h hj => ?_⟩⟩
    · by_cases e : j = i
      · subst e; omega
      · exact hU.sp j h (by omega)
    · by_cases e : j = i
      · subst e; exact ho1 h0
      · exact hU.so j h h0 (by omega)
    · by_cases e : j = i
      · subst e; exact ho2 h0
      · exact hU.so2 j h h0 (by omega)
    · by_cases e : j = i
      · subst e; exact ⟨by omega, hbk, fun q hq => hpre2 q hq (by omega)⟩
      · exact hU.sh j h (by omega)
  have i12 : RowI w11 (.slice xs[i].2.2.2[n].1 xs[i].2.2.2[n].2.2.length xs[i].2.2.2[n].2.1) false 1 (xs[i].2.2.2[n].2.2.map strV) := hX11.word hxi1 hn1
  have sm := (hX.l _ (List.getElem_mem hxi1)).2 _ (List.getElem_mem hn1)
  obtain ⟨B7, hB7⟩ : ∃ B, inB 1 10 (xs[i].2.2.2[n].2.2.length : Int) = B := ⟨_, rfl⟩
  (refine jjB (jjB (jjC (jI (eI rfl) (jm (jn rfl ?_))))); refine jN rfl rfl rfl (jh rfl (jjZ rfl rfl (by omega) (jz (jjJ rfl (jjG ?_))))); refine jjB (jjD (jjB (jjB (jjC (jm ?_))))); refine jn rfl (jN rfl rfl rfl (jI (eI rfl) ?_)); refine jF rfl rfl rfl (map_get (by omega)) ?_; intro _ _ _; refine jQ rfl rfl (jh rfl ?_))
  refine jjQ ((within_postilref05 (xs[i].2.2.2[n].2.2.length : Int) 1 10 _).mono fun v _ _ h => h.trans (by rw [hB7])) rfl rfl ?_
  rintro _ w12 hS12 rfl
  cases B7 with
  | false =>
    (refine jq rfl (jz (jjJ rfl (jjB (jjC (jJ (eB rfl) ?_))))); refine jz (jjF ?_); refine jB rfl rfl ⟨inferInstance, ?_⟩)
    exact ⟨_, rfl, fun h => by cases h⟩
  | true =>
  (refine jp rfl (jz (jjK rfl (jjG (jjB (jjC ?_))))); refine jJ (eI rfl) (jz (jjD ?_)))
  refine W.keep [(1, .pointer (some ⟨b1, 0, none⟩)), (6, .int .i64 (nl : Int)), (7, .int .i64 (i : Int)), (9, .pointer (some ⟨b9, 0, none⟩)), (10, .int .i64 (n : Int)), (11, .int .i64 ((0 : Nat) : Int))] (D := (180 :: 181 :: 182 :: 183 :: 184 :: 187 :: 188 :: 189 :: 190 :: 191 :: 192 :: 193 :: 194 :: 2 :: 11 :: 195 :: 196 :: 197 :: 198 :: 199 :: 200 :: 201 :: 202 :: 205 :: 206 :: 207 :: 208 :: 209 :: 210 :: 211 :: 212 :: 213 :: 214 :: 203 :: 204 :: 185 :: 186 :: 10 :: [])) (sO := upds s6 _) (by (((iterate 15 refine Same.upd rfl ?_); exact Same.ovN))) ⟨eP rfl, eI rfl, eI rfl, eP rfl, eI rfl, eI rfl, trivial⟩ fun s7 hs7 => ?_
  refine W.loop (195 :: 196 :: 197 :: 198 :: 199 :: 200 :: 201 :: 202 :: 205 :: 206 :: 207 :: 208 :: 209 :: 210 :: 211 :: 212 :: 213 :: 214 :: 2 :: 203 :: 204 :: 11 :: []) (fun g s' V => ∃ q : Nat, s' 11 = .int .i64 ((q : Nat) : Int) ∧ g = xs[i].2.2.2[n].2.2.length - q ∧ q ≤ xs[i].2.2.2[n].2.2.length ∧ ∀ (j : Nat) (hj : j < xs[i].2.2.2[n].2.2.length), j < q → wordB xs[i].2.2.2[n].2.2[j] = true) xs[i].2.2.2[n].2.2.length ⟨0, rfl, rfl, Nat.zero_le _, by intros; omega⟩ ?_
  rintro _ sd4 w13 hS13 ⟨q, h11, rfl, hq, hpre3⟩
  refine W.fix h11 ?_
  clear h11
  have hX13 : ShtI w13 xs := inferInstance
  have i13 := hX13.line hxi1
  have i14 : RowI w13 (.slice xs[i].2.2.2[n].1 xs[i].2.2.2[n].2.2.length xs[i].2.2.2[n].2.1) false 1 (xs[i].2.2.2[n].2.2.map strV) := hX13.word hxi1 hn1
  by_cases hq1 : q < xs[i].2.2.2[n].2.2.length
  rotate_left
  · (refine jjB (jjB (jjC (jI (eI rfl) (jm (jn rfl ?_))))); refine jN rfl rfl rfl (jI (eI rfl) ?_); refine jF rfl rfl rfl (map_get (by omega)) ?_; intro _ _ _; refine jQ rfl rfl (jh rfl (jja rfl rfl (by omega) (jz (jjK rfl (jjE ?_))))); refine jjC (jI (eI rfl) (jY rfl rfl (by omega) (jJ (eI rfl) (jz ?_)))))
    refine ⟨rfl, by (((iterate 12 refine Same.upd rfl ?_); refine Same.ovN' rfl ?_; assumption)), xs[i].2.2.2.length - (n + 1), by omega, inferInstance, n + 1, congrArg (Value.int .i64) (by omega), rfl, by omega, fun j hj hjk => ?_⟩
    by_cases e : j = n
    · subst e; exact lineB_yes hB7 fun q' hq' => hpre3 q' hq' (by omega)
    · exact hpre2 j hj (by omega)
  obtain ⟨B8, hB8⟩ : ∃ B, wordB xs[i].2.2.2[n].2.2[q] = B := ⟨_, rfl⟩
  have sz := sm.2 _ (List.getElem_mem hq1)
  (refine jjB (jjB (jjC (jI (eI rfl) (jm (jn rfl ?_))))); refine jN rfl rfl rfl (jI (eI rfl) ?_); refine jF rfl rfl rfl (map_get (by omega)) ?_; intro _ _ _; refine jQ rfl rfl (jh rfl (jjZ rfl rfl (by omega) (jz (jjJ rfl (jjG ?_))))); refine jjB (jjD (jjB (jjC (jm (jn rfl ?_))))); refine jN rfl rfl rfl (jI (eI rfl) ?_); refine jF rfl rfl rfl (map_get (by omega)) ?_; intro _ _ _; refine jQ rfl rfl (jI (eI rfl) ?_); refine jF rfl rfl rfl (map_get (by omega)) ?_; intro _ _ _; refine jQ rfl rfl ?_)
  refine jjQ ((Word_ref xs[i].2.2.2[n].2.2[q] _ (by omega)).mono fun v _ _ h => h.trans (by rw [hB8])) rfl rfl ?_
  rintro _ w14 hS14 rfl
  cases B8 with
  | false =>
    (refine jq rfl (jz (jjJ rfl (jjB (jjC (jJ (eB rfl) ?_))))); refine jz (jjF ?_); refine jB rfl rfl ⟨inferInstance, ?_⟩)
    exact ⟨_, rfl, fun h => by cases h⟩
  | true =>
  (refine jp rfl (jz (jjK rfl (jjG (jjC (jI (eI rfl) ?_))))); refine jY rfl rfl (by omega) (jJ (eI rfl) (jz ?_)))
  refine ⟨rfl, by (((iterate 22 refine Same.upd rfl ?_); exact Same.ovN)), xs[i].2.2.2[n].2.2.length - (q + 1), by omega, inferInstance, q + 1, congrArg (Value.int .i64) (by omega), rfl, by omega, fun j hj hjk => ?_⟩
  by_cases e : j = q
  · subst e; exact hB8
  · exact hpre3 j hj (by omega)
end

section
variable (a : Option Addr) (c : Nat) (cs : List Ch) (ha : Option Addr) (hc : Nat) (hs : List Hp) (sa : Option Addr) (sc : Nat) (ss : List Shr) (xa : Option Addr) (xc : Nat) (xs : List Sht) (w : World)
  [hrow : RowI w (.slice a cs.length c) true 2 (cs.map encCh)] [hT : TextI w cs] [hhs : RowI w (.slice ha hs.length hc) true 3 (hs.map encHp)] [hss : RowI w (.slice sa ss.length sc) true 4 (ss.map encShr)] [hxs : RowI w (.slice xa xs.length xc) true 2 (xs.map encSht)] [hxi : ShtI w xs]
set_option maxHeartbeats 4000000 in
theorem Check_ref5 (hsm : SmallT cs) (hX : SmallX hs ss xs) : Ct Tryz.prog 6 [.agg #[.slice a cs.length c, .slice ha hs.length hc, .slice sa ss.length sc, .slice xa xs.length xc]] w fun v _ => ∃ e : Int, v = .int .i64 e ∧ (e = 0 → textB (txF cs) = true ∧ RoundOk (lnK cs cs.length).length hs ss xs) := by
  refine Ct.ofW (by simp) ?_
  (refine jjB (jjC ?_))
  (refine jy rfl ?_; intro b1 w_b1 hb_b1 hs_b1 hS_b1 hk_b1; have hA_b1 := At.ofBlock hk_b1)
  have A1 : At w_b1 b1 0 [.slice a cs.length c, .slice ha hs.length hc, .slice sa ss.length sc, .slice xa xs.length xc] := At.ofBlock hk_b1
  obtain ⟨T, hTT⟩ : ∃ T, textB (txF cs) = T := ⟨_, rfl⟩
  (refine jJ (eI rfl) (jz (jjB (jjB (jjC (jm ?_))))); refine jn rfl (jO rfl rfl rfl rfl ?_))
  refine jjQ ((Check_ref1 a c cs _ hsm).mono fun v _ _ h => h.trans (by rw [hTT])) rfl rfl ?_
  rintro _ w2 hS2 rfl
  cases T with
  | false =>
    (refine jJ (eI rfl) (jz (jjB (jjC (jI (eI rfl) (jc rfl rfl ?_))))); refine jz (jjJ rfl (jjB (jjC (jI (eI rfl) (jJ (eI rfl) ?_))))); refine jz (jjF ?_); refine jB rfl rfl ⟨inferInstance, ?_⟩)
    exact ⟨_, rfl, fun h => absurd h (by decide)⟩
  | true =>
  (refine jJ (eI rfl) (jz (jjB (jjC (jI (eI rfl) (jc rfl rfl ?_))))); refine jz (jjK rfl (jjG (jjB (jjB (jjC ?_))))); refine jO rfl rfl rfl rfl ?_)
  refine jjQ (Round_ref5 a c cs ha hc hs sa sc ss xa xc xs _ hsm hX) rfl rfl ?_
  rintro _ w3 hS3 ⟨b, rfl, hR⟩
  cases b with
  | false =>
    (refine jq rfl (jz (jjJ rfl (jjB (jjC (jJ (eI rfl) ?_))))); refine jz (jjF ?_); refine jB rfl rfl ⟨inferInstance, ?_⟩)
    exact ⟨_, rfl, fun h => absurd h (by decide)⟩
  | true =>
    (refine jp rfl (jz (jjK rfl (jjG (jjB (jjC ?_))))); refine jJ (eI rfl) (jz (jjF ?_)); refine jB rfl rfl ⟨inferInstance, ?_⟩)
    exact ⟨_, rfl, fun _ => ⟨hTT, hR rfl⟩⟩
end
theorem SameInts_ref5 (a1 a2 : Option Addr) (c1 c2 : Nat) (xs ys : List Int) (w : World) [h1 : RowI w (.slice a1 xs.length c1) false 1 (xs.map intV)] [h2 : RowI w (.slice a2 ys.length c2) false 1 (ys.map intV)] :
    Ct Tryz.prog 18 [.slice a1 xs.length c1, .slice a2 ys.length c2] w fun v _ => v = .bool (decide (xs = ys)) := by
  have hl1 := h1.h.len
  simp only [List.length_map] at hl1
  refine Ct.ofW (by simp) ?_
  repeat' (first|((first|apply jI|apply jJ); (first|exact eI rfl|exact eB rfl|exact eS rfl))|(refine jW (jc rfl rfl ?_))|(refine jg (jh rfl ?_))|refine jz ?_|(refine jjA ?_; (first|refine jjB ?_|refine jjC ?_|refine jjD ?_|refine jjF ?_|refine jjG ?_))|(refine jjA ?_; (refine jjN rfl ?_ ?_ <;> intro _))|refine jB rfl rfl ⟨inferInstance, ?_⟩)
  · exact congrArg Value.bool (decide_eq_false (list_ne_len (by omega))).symm
  · refine W.loop (11 :: 12 :: 13 :: 14 :: 17 :: 18 :: 19 :: 20 :: 21 :: 22 :: 23 :: 24 :: 25 :: 4 :: 15 :: 16 :: 5 :: []) (fun g s' _ => ∃ k : Nat, s' 5 = .int .i64 k ∧ g = xs.length - k ∧ k ≤ xs.length ∧ ∀ (j : Nat) (q1 : j < xs.length) (q2 : j < ys.length), j < k → xs[j] = ys[j]) xs.length ⟨0, rfl, rfl, by omega, by intros; omega⟩ ?_
    rintro _ d w' hS ⟨k, h5, rfl, hk, hpre⟩
    refine W.fix h5 ?_
    repeat' (first|((first|apply jI|apply jJ); (first|exact eI rfl|exact eB rfl|exact eS rfl))|(refine jW (jX rfl rfl ?_))|(refine jg (jh rfl ?_))|refine jz ?_|(refine jjA ?_; (first|refine jjB ?_|refine jjC ?_|refine jjD ?_|refine jjE ?_|refine jjF ?_|refine jjG ?_))|(refine jjA ?_; (refine jjN rfl ?_ ?_ <;> intro _))|refine jB rfl rfl ⟨inferInstance, ?_⟩)
    · have k1 : k < xs.length := by omega
      have k2 : k < ys.length := by omega
      refine W.draw (fun w'' => Ext w' w'') ?_
      intro V1 hS1
      obtain ⟨q1, o1, rfl, hA1⟩ := (h1.h.ext hS.ext).place (map_get k1)
      obtain ⟨q2, o2, rfl, hA2⟩ := (h2.h.ext hS.ext).place (map_get k2)
      rw [Nat.mul_one] at hA1 hA2
      refine jjV [0, 1, 2, 3, 4, 5, 6, 7, 8] (by decide +kernel) hS1.ext ?_
      (((refine jjT rfl (fun _ _ => jI (eS rfl) (jz ⟨rfl, rfl⟩)) (jjT rfl (fun _ _ => jI (eI rfl) (jz ⟨rfl, rfl⟩)) ?_); apply jjT; exact rfl; rintro w' hq; have := hq.toStep; refine jG rfl rfl rfl (by omega) (jz ?_); exact ⟨rfl, rfl⟩; apply jjT; exact rfl; rintro w' hq; have := hq.toStep; refine jQ rfl rfl (jz ?_); exact ⟨rfl, rfl⟩; refine jjT rfl (fun _ _ => jI (eS rfl) (jz ⟨rfl, rfl⟩)) (jjT rfl (fun _ _ => jI (eI rfl) (jz ⟨rfl, rfl⟩)) ?_); apply jjT; exact rfl; rintro w' hq; have := hq.toStep; refine jG rfl rfl rfl (by omega) (jz ?_); exact ⟨rfl, rfl⟩; apply jjT; exact rfl; rintro w' hq; have := hq.toStep; refine jQ rfl rfl (jz ?_); exact ⟨rfl, rfl⟩; refine jjT rfl (fun _ _ => jc rfl rfl (jz ⟨rfl, rfl⟩)) (jjU ?_))))
      refine jjX (by decide +kernel) hS1.ext ?_
      repeat' (first|((first|apply jI|apply jJ); (first|exact eI rfl|exact eB rfl))|(refine jW (jY rfl rfl (by omega) ?_))|refine jz ?_|(refine jjA ?_; (first|refine jjB ?_|refine jjC ?_|refine jjF ?_|refine jjG ?_))|(refine jjA ?_; (refine jjN rfl ?_ ?_ <;> intro _))|refine jB rfl rfl ⟨inferInstance, ?_⟩)
      · exact congrArg Value.bool (decide_eq_false (list_ne_get k1 k2 ‹_›)).symm
      · refine ⟨rfl, by (((iterate 17 refine Same.upd rfl ?_); exact Same.ovN)), xs.length - (k + 1), by omega, inferInstance, k + 1, congrArg (Value.int .i64) (by omega), rfl, by omega, fun j q1 q2 hj => ?_⟩
        by_cases e : j = k
        · subst e; exact Decidable.not_not.1 ‹_›
        · exact hpre j q1 q2 (by omega)
    · exact congrArg Value.bool (decide_eq_true (list_eq_get (by omega) fun j q1 q2 => hpre j q1 q2 (by omega))).symm

theorem SameInts_yes5 (a1 a2 : Option Addr) (c1 c2 : Nat) (xs : List Int) (w : World) [h1 : RowI w (.slice a1 xs.length c1) false 1 (xs.map intV)] [h2 : RowI w (.slice a2 xs.length c2) false 1 (xs.map intV)] :
    Ct Tryz.prog 18 [.slice a1 xs.length c1, .slice a2 xs.length c2] w fun v _ => v = .bool true :=
  (SameInts_ref5 a1 a2 c1 c2 xs xs w).mono fun v _ _ e => e.trans (by rw [decide_eq_true rfl])

theorem cptGo_snoc {α : Type} {f : α → α → Int} : ∀ (r : List α) (p y : α), cptGo f p (r ++ [y]) = cptGo f p r ++ if f y (r.getLastD p) = 0 then [] else [y]
  | [], p, y => by
    show (if f y p = 0 then cptGo f y [] else y :: cptGo f y []) = [] ++ if f y p = 0 then [] else [y]
    rw [List.nil_append]
    rfl
  | z :: r, p, y => by
    have ih := cptGo_snoc (f := f) r z y
    rw [List.cons_append, List.getLastD_cons]
    show (if f z p = 0 then cptGo f z (r ++ [y]) else z :: cptGo f z (r ++ [y])) = (if f z p = 0 then cptGo f z r else z :: cptGo f z r) ++ _
    by_cases e : f z p = 0
    · rw [if_pos e, if_pos e, ih]
    · rw [if_neg e, if_neg e, ih, List.cons_append]
theorem cpt_step {α : Type} {f : α → α → Int} {l : List α} {i : Nat} (hi : i + 1 < l.length) : cptL f (l.take (i + 2)) = cptL f (l.take (i + 1)) ++ if f l[i + 1] l[i] = 0 then [] else [l[i + 1]] := by
  cases l with
  | nil => simp at hi
  | cons x r =>
    have hi' : i < r.length := by simpa using hi
    have e1 : (x :: r).take (i + 2) = x :: (r.take i ++ [r[i]]) := by
      rw [List.take_succ_cons, List.take_succ_eq_append_getElem hi']
    have e2 : (x :: r).take (i + 1) = x :: r.take i := List.take_succ_cons
    rw [e1, e2, cptL, cptL, cptGo_snoc, List.cons_append, List.getElem_cons_succ]
    have e3 : (r.take i).getLastD x = (x :: r)[i]'(by omega) := by
      cases i with
      | zero => rfl
      | succ i =>
        rw [List.getElem_cons_succ, List.take_succ_eq_append_getElem (by omega), List.getLastD_concat]
    rw [e3]
theorem cpt_all {α : Type} {f : α → α → Int} {l : List α} : ∀ {k : Nat}, 1 ≤ k → k ≤ l.length → (∀ t (h : t + 1 < l.length), t + 1 < k → f l[t + 1] l[t] ≠ 0) → cptL f (l.take k) = l.take k
  | 0, h, _, _ => absurd h (by omega)
  | 1, _, h1, _ => by
    cases l with
    | nil => simp at h1
    | cons x r => rfl
  | k + 2, _, h1, h => by
    have ih := cpt_all (f := f) (l := l) (k := k + 1) (by omega) (by omega) fun t h2 h3 => h t h2 (by omega)
    rw [cpt_step (by omega), ih, if_neg (h k (by omega) (by omega))]
    exact (List.take_succ_eq_append_getElem (by omega)).symm

theorem flat_put {k : Nat} {x' : Value} (hx' : x'.cells.size = k) : ∀ {xs : List Value} {j : Nat}, (∀ x ∈ xs, x.cells.size = k) → j < xs.length →
    ((xs.set j x').flatMap (·.cells.toList)) = (xs.flatMap (·.cells.toList)).take (j * k) ++ x'.cells.toList ++ (xs.flatMap (·.cells.toList)).drop (j * k + k)
  | [], j, _, hj => absurd hj (Nat.not_lt_zero _)
  | y :: xs, j, hk, hj => by
    have hy : y.cells.toList.length = k := by simpa using hk y List.mem_cons_self
    cases j with
    | zero =>
      rw [List.set_cons_zero, List.flatMap_cons, List.flatMap_cons, Nat.zero_mul, List.take_zero, List.nil_append, Nat.zero_add, List.drop_append_of_le_length (by omega), List.drop_of_length_le (by omega), List.nil_append]
    | succ j =>
      have := flat_put hx' (xs := xs) (j := j) (fun z hz => hk z (List.mem_cons_of_mem _ hz)) (by simpa using hj)
      have e1 : (j + 1) * k = y.cells.toList.length + j * k := by rw [hy, Nat.add_mul]; omega
      have ht : ∀ F : List Value, (y.cells.toList ++ F).take (y.cells.toList.length + j * k) = y.cells.toList ++ F.take (j * k) := fun F => List.take_length_add_append _
      have hd : ∀ F : List Value, (y.cells.toList ++ F).drop (y.cells.toList.length + (j * k + k)) = F.drop (j * k + k) := fun F => List.drop_length_add_append _
      rw [List.set_cons_succ, List.flatMap_cons, List.flatMap_cons, this, e1, Nat.add_assoc, ht, hd]
      simp only [List.append_assoc]
section rules
variable {P : Program} {ro : Option Nat} {n : Nat} {all rest : List Oper} {K : Sl → World → Prop} {s : Sl} {w : World} {d : Nat} {ty : Nat} {pos : String} {af : Array Edge}
variable {x y : Operand}
theorem Ops.storeW {B e k g j bytes t : Nat} {agg : Bool} {v z : Value} {xs : List Value} {X' : Value} (hown : OwnL w B e agg k v xs) (hg : v.ownBlock = some g) (hj : j < xs.length) (hX' : fitsV agg k X' = true)
    (hx : ev n s x = .pointer (some ⟨g, j * k, none⟩)) (hy : ev n s y = X') (hu1 : X'.cells.toList.all (·.oneCell') = true) [hz : TS P t z k bytes]
    (h : ∀ w' o, PutO w w' g o → OwnL w' B e agg k v (xs.set j X') → Ops P ro n all rest K s w') : Ops P ro n all (⟨none, .store t x y, ty, pos, af, none⟩ :: rest) K s w := by
  have hxk : X'.cells.size = k := fitsV_cells hX'
  rcases hown.own.2 with ⟨rfl, _⟩ | ⟨g', cap, cur, rfl, hB, hh, hn, hm, hs, ht⟩
  · simp [Value.ownBlock] at hg
  · have hgg : g' = g := by simpa [Value.ownBlock] using hg
    subst hgg
    have hfl := flat_len (k := k) (xs := xs) fun y hy => fitsV_cells (hown.fit y hy)
    have hjk : j * k + k ≤ xs.length * k := by
      have : (j + 1) * k ≤ xs.length * k := Nat.mul_le_mul_right k hj
      rw [Nat.add_mul] at this; omega
    have hcl : xs.length * k ≤ cap * k := Nat.mul_le_mul_right k hn
    have hbk : Bk w g' cur.toList e := ⟨by simpa using hh⟩
    have hcs : cur.toList.length = cap * k := by simpa using hs
    have hput := flat_put (x' := X') hxk (xs := xs) (j := j) (fun y hy => fitsV_cells (hown.fit y hy)) hj
    have hfl' := flat_len (k := k) (xs := xs.set j X') fun y hy => by
      rcases List.mem_or_eq_of_mem_set hy with h1 | h1
      · exact fitsV_cells (hown.fit y h1)
      · subst h1; exact hxk
    rw [List.length_set] at hfl'
    have e0 : cur.toList = xs.flatMap (·.cells.toList) ++ cur.toList.drop (xs.length * k) := by rw [← ht, List.take_append_drop]
    refine Ops.store hx hy hxk (Nat.ble_eq_true_of_le (by omega)) hu1 ?_
    intro w' hp
    have e1 : cur.toList.take (j * k) ++ X'.cells.toList ++ cur.toList.drop (j * k + k) = (xs.set j X').flatMap (·.cells.toList) ++ cur.toList.drop (xs.length * k) := by
      rw [hput]
      conv => lhs; rw [e0]
      rw [List.take_append_of_le_length (by omega), List.drop_append_of_le_length (by omega)]
      simp only [List.append_assoc]
    rw [e1] at hp
    refine h w' _ hp ⟨⟨?_, .inr ⟨g', cap, ((xs.set j X').flatMap (·.cells.toList) ++ cur.toList.drop (xs.length * k)).toArray, by rw [List.length_set], hB, hp.new, by rw [List.length_set]; exact hn, hm, ?_, ?_⟩⟩, ?_, by rw [List.length_set]; exact hown.len⟩
    · rw [List.length_set]; exact hfl'
    · simp only [List.size_toArray, List.length_append, List.length_drop]
      omega
    · rw [List.length_set]
      show List.take (xs.length * k) (_ ++ _) = _
      rw [List.take_append_of_le_length (by omega), List.take_of_length_le (by omega)]
    · intro y hy
      rcases List.mem_or_eq_of_mem_set hy with h1 | h1
      · exact hown.fit y h1
      · subst h1; exact hX'
end rules
theorem own_addr {w : World} {B e : Nat} {agg : Bool} {k n c : Nat} {a : Option Addr} {xs : List Value} (h : OwnL w B e agg k (.slice a n c) xs) (hn : 0 < n) : ∃ g, a = some ⟨g, 0, none⟩ := by
  rcases h.own.2 with ⟨e, _⟩ | ⟨g, cap, cur, e, _⟩
  · simp only [Value.slice.injEq] at e; omega
  · simp only [Value.slice.injEq] at e; exact ⟨g, e.1⟩
section rules
variable {P : Program} {ro : Option Nat} {n : Nat} {all rest : List Oper} {K : Sl → World → Prop} {s : Sl} {w : World} {t e ty : Nat} {pos : String} {af : Array Edge} {x : Operand} {g o l c bytes k : Nat} {cs : List Value} {z : Value}
theorem Ops.clearK (hB : Bk w g cs e) (hx : ev n s x = .slice (some ⟨g, o, none⟩) l c) (hl0 : 0 < l) (hfit : o + l * k ≤ cs.length) [ht : TSl P t e] [hz : TS P e z k bytes] (hzz : z.cells.size = k) (hk : Nat.blt 0 k = true) (h1 : z.cells.toList.all (·.oneCell') = true)
    (h : ∀ (w' : World) (Z : List Value), Z.length = l * k → (∀ v ∈ Z, v.oneCell' = true) → PutO w w' g (.cells (cs.take o ++ Z ++ cs.drop (o + l * k)).toArray e (0, 0)) → Ops P ro n all rest K s w') :
    Ops P ro n all (⟨none, .call { callee := .builtin .clear, args := #[x], argTypes := #[t] }, ty, pos, af, none⟩ :: rest) K s w := by
  obtain ⟨inf, hi1, hiz, his, _⟩ := hz.info
  have hzv : (zeroValue e).run P w = .ok z w := by simp [zeroValue, typeInfo, hi1, hiz]
  have hk0 : 0 < k := by simpa using hk
  obtain ⟨Z, hZ⟩ : ∃ Z, (Builtin.zeroCells z.cells l).toList = Z := ⟨_, rfl⟩
  have hZl : Z.length = l * k := by rw [← hZ]; simp [Builtin.zeroCells, hzz]
  have hZ1 : ∀ v ∈ Z, v.oneCell' = true := by
    intro v hv
    rw [← hZ] at hv
    simp only [Builtin.zeroCells, Array.toList_map, List.mem_map] at hv
    obtain ⟨i, _, rfl⟩ := hv
    have hi : i % z.cells.size < z.cells.size := Nat.mod_lt _ (by omega)
    rw [getElem!_pos z.cells _ hi]
    exact List.all_eq_true.1 h1 _ (by simp)
  have hst := run_storeCells_at P g o e Z 0 cs.toArray w hB.h (by simpa [hZl] using hfit) hZ1
  simp only [Nat.add_zero, hZl] at hst
  have hr : (Builtin.clear_ #[t] ty #[.slice (some ⟨g, o, none⟩) l c]).run P w = .ok (.tuple #[]) (w.setRow g (cs.take o ++ Z ++ cs.drop (o + l * k)).toArray) := by
    obtain ⟨m, rfl⟩ : ∃ m, l = m + 1 := ⟨l - 1, by omega⟩
    simp [Builtin.clear_, run_underlying ht.h, hzv, hZ, hst]
  exact Ops.step rfl (OpW.ofRun (v := .tuple #[]) (w' := w.setRow g (cs.take o ++ Z ++ cs.drop (o + l * k)).toArray) rfl (by simp [execOp, resolve, invoke, builtin, hx, hr]) (h _ Z hZl hZ1 (putO_setRow hB)))
end rules

theorem OwnL.cellsK {w : World} {B e k n c g : Nat} {agg : Bool} {l : List Value} (h : OwnL w B e agg k (.slice (some ⟨g, 0, none⟩) n c) l) : ∃ cs, Bk w g cs e ∧ cs.length = c * k ∧ n ≤ c ∧ c ≤ maxLen ∧ l.length = n ∧ cs.take (n * k) = l.flatMap (·.cells.toList) ∧ B ≤ g := by
  rcases h.own.2 with ⟨e0, _⟩ | ⟨g', cap, cur, e0, hB, hg, hn, hm, hs, ht⟩
  · simp at e0
  · simp only [Value.slice.injEq, Option.some.injEq, Addr.mk.injEq] at e0
    obtain ⟨⟨rfl, _⟩, rfl, rfl⟩ := e0
    exact ⟨cur.toList, ⟨by simpa using hg⟩, by simpa using hs, hn, hm, rfl, ht, hB⟩
theorem OwnL.ofCellsK {w : World} {B e k n c g : Nat} {agg : Bool} {l cs : List Value} (hB : Bk w g cs e) (hc : cs.length = c * k) (hn : n ≤ c) (hm : c ≤ maxLen) (hl : l.length = n) (ht : cs.take (n * k) = l.flatMap (·.cells.toList)) (hn' : n ≤ 140737488355328) (hg : B ≤ g) (hf : ∀ x ∈ l, fitsV agg k x = true) : OwnL w B e agg k (.slice (some ⟨g, 0, none⟩) n c) l := by
  have hfl := flat_len (k := k) (xs := l) fun y hy => fitsV_cells (hf y hy)
  refine ⟨⟨hfl, .inr ⟨g, c, cs.toArray, by rw [hl], hg, hB.h, by omega, hm, by simp [hc], ?_⟩⟩, hf, by rw [hl]; exact hn'⟩
  rw [hl]; exact ht
end Go.Proofs.YtgnkloloehlfnaaGreatDoor

namespace Go.Proofs.YtgnkloloehlfnaaGreatDoor
open Go.RowKit Go.Sort

theorem same_slip (q : Nat) [he : Enters Tryz.prog q] (cf : Slp → Slp → Int) (hc : CmpQ q cf)
    (x y : Slp) (hx : GdS x) (hy : GdS y) (b : Nat) (w : World) [hmx : MxI w] [hA : At w b 0 [.func (.func q) #[] #[]]] : Ct Tryz.prog 41 [encSl x, encSl y, .pointer (some ⟨b, 0, none⟩)] w fun v _ => v = .bool (decide (cf x y = 0)) := by
  refine Ct.ofW (by simp) ?_
  (refine jjB (jjC ?_))
  (refine jy rfl ?_; intro b3 w_b3 hb_b3 hs_b3 hS_b3 hk_b3; have hA_b3 := At.ofBlock hk_b3)
  (refine jy rfl ?_; intro b4 w_b4 hb_b4 hs_b4 hS_b4 hk_b4; have hA_b4 := At.ofBlock hk_b4)
  (refine jJ (eB rfl) (jz (jjB (jjC (jN rfl rfl rfl (jO rfl rfl rfl rfl ?_))))); refine jO rfl rfl rfl rfl ?_)
  refine Ops.callR rfl (Enters.h (P := Tryz.prog) (g := q)) rfl (hc x y _ inferInstance hx hy) ?_
  rintro e w6 ⟨rfl, x6, -⟩
  refine ⟨_, rfl, ?_⟩
  have s6 := x6.toStep
  (refine jb rfl rfl (jJ (eB rfl) (jz (jjF ?_))); refine jB rfl rfl ⟨inferInstance, ?_⟩)
  exact rfl
end Go.Proofs.YtgnkloloehlfnaaGreatDoor

namespace Go.Proofs.YtgnkloloehlfnaaGreatDoor
open Go.RowKit Go.Sort

section
variable (q : Nat) [he : Enters Tryz.prog q] (cf : Slp → Slp → Int) (hc : CmpQ q cf)
include hc in
set_option maxHeartbeats 4000000 in
theorem Compact_slip (bk g n c : Nat) (l : List Slp) (hg : ∀ x ∈ l, GdS x) (w : World) (hA : At w bk 0 [.func (.func q) #[] #[]]) (hne : bk ≠ g) (hbk : bk < w.heap.size) {B : Nat} (hO : OwnL w B 46 true 6 (.slice (some ⟨g, 0, none⟩) n c) (l.map encSl)) (hn : n ≤ 1000000) (hmx : ∀ V, Only g w V → MxI V) :
    Calls Tryz.prog 40 [.slice (some ⟨g, 0, none⟩) n c, .func (.func 41) #[] #[.pointer (some ⟨bk, 0, none⟩)]].toArray w fun e w' => e = .returned (.slice (some ⟨g, 0, none⟩) (cptL cf l).length c) ∧ Only g w w' ∧ OwnL w' B 46 true 6 (.slice (some ⟨g, 0, none⟩) (cptL cf l).length c) ((cptL cf l).map encSl) := by
  have hln : l.length = n := by obtain ⟨cs, _, _, _, _, h, _⟩ := hO.cellsK; rw [List.length_map] at h; exact h
  subst hln
  refine Calls.ofW (by simp) ?_
  by_cases h2 : l.length < 2
  · have e : cptL cf l = l := by
      match l, h2 with
      | [], _ => rfl
      | [x], _ => rfl
      | x :: y :: r, h => simp at h; omega
    rw [e]
    (refine jjB (jjC (jJ (eS rfl) (jz (jjB (jjB ?_))))); refine jjC (jI (eS rfl) (jh rfl (jjZ rfl rfl (by omega) (jz (jjJ rfl ?_))))); refine jjB (jjC (jI (eS rfl) (jJ (eS rfl) (jz (jjF ?_))))))
    exact jB rfl rfl ⟨rfl, .ofExt (Ext.refl w), hO⟩
  (refine jjB (jjC (jJ (eS rfl) (jz (jjB (jjB ?_))))); refine jjC (jI (eS rfl) (jh rfl (jja rfl rfl (by omega) (jz (jjK rfl ?_))))); refine jjG (jjB (jjB (jjC (jJ (eI rfl) (jz ?_))))); refine jjD ?_)
  refine W.keep0 [(0, .slice (some ⟨g, 0, none⟩) l.length c), (1, .func (.func 41) #[] #[.pointer (some ⟨bk, 0, none⟩)]), (5, .int .i64 ((1 : Nat) : Int))] ⟨eS rfl, rfl, eI rfl, trivial⟩ fun s0 => ?_
  refine W.loopG (12 :: 13 :: 14 :: 15 :: 18 :: 19 :: 20 :: 21 :: 22 :: 23 :: 24 :: 25 :: 26 :: 27 :: 28 :: 29 :: 30 :: 31 :: 6 :: 7 :: 32 :: 33 :: 34 :: 35 :: 38 :: 39 :: 40 :: 41 :: 42 :: 43 :: 44 :: 45 :: 46 :: 47 :: 48 :: 49 :: 50 :: 51 :: 52 :: 53 :: 54 :: 55 :: 56 :: 57 :: 58 :: 5 :: 36 :: 37 :: 59 :: 60 :: 61 :: 62 :: 63 :: 64 :: 4 :: 16 :: 17 :: []) (fun g' s' V => ∃ k : Nat, s' 5 = .int .i64 (k : Int) ∧ g' = l.length - k ∧ 1 ≤ k ∧ k ≤ l.length ∧ (∀ t (h : t + 1 < l.length), t + 1 < k → cf l[t + 1] l[t] ≠ 0) ∧ Only g w V ∧ OwnL V B 46 true 6 (.slice (some ⟨g, 0, none⟩) l.length c) (l.map encSl)) (l.length - 1) ⟨1, rfl, by omega, by omega, by omega, fun t h h' => by omega, .ofExt (Ext.refl w), hO⟩ ?_
  rintro _ sd V ⟨k, h5, rfl, hk1, hk2, hdf, hOn, hOV⟩
  refine W.fix (d := 5) h5 ?_
  clear h5
  by_cases hk3 : k < l.length
  rotate_left
  · obtain rfl : k = l.length := by omega
    have e : cptL cf l = l := by
      have := cpt_all (f := cf) (l := l) (k := l.length) (by omega) (Nat.le_refl _) hdf
      rwa [List.take_length] at this
    rw [e]
    (refine jjB (jjB (jjC (jI (eI rfl) (jI (eS rfl) (jh rfl ?_))))); refine jja rfl rfl (by omega) (jz (jjK rfl (jjE (jjB (jjC ?_))))); refine jI (eS rfl) (jJ (eS rfl) (jz (jjF ?_))))
    exact jB rfl rfl ⟨rfl, hOn, hOV⟩
  obtain ⟨i, rfl⟩ : ∃ i, k = i + 1 := ⟨k - 1, by omega⟩
  have hi1 : i + 1 < l.length := by omega
  have hmV := hmx V hOn
  have hAb : At V bk 0 [.func (.func q) #[] #[]] := hOn.at_ hA hne
  have hR : RowV V true 6 (.slice (some ⟨g, 0, none⟩) l.length c) (l.map encSl) := hOV.row
  have hA1 : At V g (0 + (i + 1) * 6) (encSl l[i + 1]).cells.toList := place_k hR (by rw [List.getElem?_map, List.getElem?_eq_getElem hi1]; rfl)
  have hA0 : At V g (0 + i * 6) (encSl l[i]).cells.toList := place_k hR (by rw [List.getElem?_map, List.getElem?_eq_getElem (by omega)]; rfl)
  (refine jjB (jjB (jjC (jI (eI rfl) (jI (eS rfl) (jh rfl ?_))))); refine jjZ rfl rfl (by omega) (jz (jjJ rfl (jjG (jjB (jjD ?_))))); refine jjB ?_)
  refine W.draw (fun w' => Ext V w') ?_
  intro w5 hS5
  refine jjV [0, 1, 2] (by decide +kernel) hS5.ext ?_
  (((refine jjT rfl (fun _ _ => jI (eF rfl) (jz ⟨rfl, rfl⟩)) (jjT rfl (fun _ _ => jI (eS rfl) (jz ⟨rfl, rfl⟩)) (jjT rfl (fun _ _ => jI (eI rfl) (jz ⟨rfl, rfl⟩)) (jjU ?_))))))
  refine jjV [3] (by decide +kernel) hS5.ext (jjT (v := .pointer (some ⟨g, 0 + (i + 1) * 6, none⟩)) rfl (fun w' q1 => ?_) (jjU ?_)); (refine jH (i + 1) rfl rfl rfl (by omega) ?_; refine jz ?_; exact ⟨rfl, rfl⟩)
  refine jjV [4] (by decide +kernel) hS5.ext (jjT (v := encSl l[i + 1]) rfl (fun w' q1 => ?_) (jjU ?_)); (refine Ops.loadOA (off := 0) (hA1.ext q1) rfl rfl rfl rfl ?_; refine jz ?_; exact ⟨rfl, rfl⟩)
  refine jjV [5, 6, 7] (by decide +kernel) hS5.ext ?_
  (((refine jjT rfl (fun _ _ => jI (eS rfl) (jz ⟨rfl, rfl⟩)) (jjT rfl (fun _ _ => jI (eI rfl) (jz ⟨rfl, rfl⟩)) (jjT rfl (fun _ _ => jZ rfl rfl (by omega) (jz ⟨rfl, rfl⟩)) (jjU ?_))))))
  refine jjV [8] (by decide +kernel) hS5.ext (jjT (v := .pointer (some ⟨g, 0 + i * 6, none⟩)) rfl (fun w' q1 => ?_) (jjU ?_)); (refine jH i rfl rfl (by omega) (by omega) ?_; refine jz ?_; exact ⟨rfl, rfl⟩)
  refine jjV [9] (by decide +kernel) hS5.ext (jjT (v := encSl (l[i]'(by omega))) rfl (fun w' q1 => ?_) (jjU ?_)); (refine Ops.loadOA (off := 0) (hA0.ext q1) rfl rfl rfl rfl ?_; refine jz ?_; exact ⟨rfl, rfl⟩)
  (apply jjW 10; (decide +kernel); exact rfl; (exact inferInstance))
  refine jjQ (same_slip q cf hc l[i + 1] l[i] (hg _ (List.getElem_mem _)) (hg _ (List.getElem_mem _)) bk _) rfl rfl ?_
  rintro _ w6 hS6 rfl
  refine jz ?_
  refine jjX (by decide +kernel) inferInstance ?_
  have hO6 := (hOV.ext hS5.ext).ext hS6.ext
  have hOn6 : Only g w w6 := hOn.trans (.ofExt inferInstance)
  by_cases hz : cf l[i + 1] l[i] = 0
  rotate_left
  · rw [decide_eq_false hz]
    (refine jjK rfl (jjG (jjC (jI (eI rfl) (jY rfl rfl (by omega) (jJ (eI rfl) ?_))))); refine jz ?_)
    refine ⟨rfl, by (((iterate 19 refine Same.upd rfl ?_); exact Same.ovN)), l.length - (i + 2), by omega, i + 2, congrArg (Value.int .i64) (by omega), rfl, by omega, by omega, fun t h h' => ?_, hOn6, hO6⟩
    rcases Nat.lt_or_ge t i with c1 | c1
    · exact hdf t h (by omega)
    · obtain rfl : t = i := by omega
      exact hz
  rw [decide_eq_true hz]
  obtain ⟨hlc, hcm⟩ : l.length ≤ c ∧ c ≤ maxLen := by obtain ⟨cs, _, _, h1, h2, _⟩ := hOV.cellsK; exact ⟨h1, h2⟩
  have hcut : cutV (some ⟨g, 0, none⟩) c 6 (i + 1) l.length = .slice (some ⟨g, 0 + (i + 1) * 6, none⟩) (l.length - (i + 1)) (c - (i + 1)) := by
    show Value.slice (if c = i + 1 then _ else _) _ _ = _
    rw [if_neg (by omega)]; rfl
  (refine jjJ rfl (jjB (jjC (jI (eS rfl) (jI (eI rfl) ?_)))))
  refine Ops.sliceXLv (k := 6) (lo := i + 1) rfl rfl rfl (by omega) ?_
  rw [hcut]
  (refine jJ (eS rfl) (jz (jjB (jjB (jjC (jJ (eI rfl) ?_))))); refine jz (jjD ?_))
  have hP0 : cptL cf (l.take (i + 2)) = l.take (i + 1) := by
    rw [cpt_step hi1, if_pos hz, List.append_nil]
    exact cpt_all (by omega) (by omega) hdf
  refine W.keep [(0, .slice (some ⟨g, 0, none⟩) l.length c), (1, .func (.func 41) #[] #[.pointer (some ⟨bk, 0, none⟩)]), (5, .int .i64 ((i + 1 : Nat) : Int)), (6, .slice (some ⟨g, 0 + (i + 1) * 6, none⟩) (l.length - (i + 1)) (c - (i + 1))), (7, .int .i64 ((1 : Nat) : Int))] (D := (12 :: 13 :: 14 :: 15 :: 18 :: 19 :: 20 :: 21 :: 22 :: 23 :: 24 :: 25 :: 26 :: 27 :: 28 :: 29 :: 30 :: 31 :: 6 :: 7 :: 32 :: 33 :: 34 :: 35 :: 38 :: 39 :: 40 :: 41 :: 42 :: 43 :: 44 :: 45 :: 46 :: 47 :: 48 :: 49 :: 50 :: 51 :: 52 :: 53 :: 54 :: 55 :: 56 :: 57 :: 58 :: 5 :: 36 :: 37 :: 59 :: 60 :: 61 :: 62 :: 63 :: 64 :: 4 :: 16 :: 17 :: [])) (sO := upds s0 _) (by (((iterate 21 refine Same.upd rfl ?_); exact Same.ovN))) ⟨eS rfl, rfl, eI rfl, eS rfl, eI rfl, trivial⟩ fun s1 hs1' => ?_
  refine W.loopG (32 :: 33 :: 34 :: 35 :: 38 :: 39 :: 40 :: 41 :: 42 :: 43 :: 44 :: 45 :: 46 :: 47 :: 48 :: 49 :: 50 :: 51 :: 52 :: 53 :: 54 :: 55 :: 56 :: 57 :: 58 :: 5 :: 36 :: 37 :: 7 :: []) (fun g' s' V => ∃ (k2 kk : Nat) (P : List Slp), s' 7 = .int .i64 (k2 : Int) ∧ s' 5 = .int .i64 (kk : Int) ∧ g' = l.length - (i + 1) - k2 ∧ 1 ≤ k2 ∧ i + 1 + k2 ≤ l.length ∧ P = cptL cf (l.take (i + k2 + 1)) ∧ P.length = kk ∧ kk ≤ i + k2 ∧ 1 ≤ kk ∧ Only g w V ∧ OwnL V B 46 true 6 (.slice (some ⟨g, 0, none⟩) l.length c) ((P ++ l.drop kk).map encSl)) (l.length - (i + 1) - 1) ⟨1, i + 1, l.take (i + 1), rfl, rfl, rfl, by omega, by omega, hP0.symm, by rw [List.length_take]; omega, by omega, by omega, hOn6, by rw [List.take_append_drop]; exact hO6⟩ ?_
  rintro _ sd2 V2 ⟨k2, kk, P, h7, h5, rfl, hk21, hk22, hP, hPl, hkk, hkk1, hOn2, hO2⟩
  refine W.fix (d := 7) h7 (W.fix (d := 5) h5 ?_)
  clear h7 h5
  by_cases hk23 : k2 < l.length - (i + 1)
  rotate_left
  · have hPe : P = cptL cf l := by rw [hP, List.take_of_length_le (by omega)]
    subst hPe
    subst hPl
    obtain ⟨cs, hB, hcl, _, _, _, htk, hBg⟩ := hO2.cellsK
    have hkc : (cptL cf l).length * 6 ≤ cs.length := by rw [hcl]; omega
    have hcutk : cutV (some ⟨g, 0, none⟩) c 6 (cptL cf l).length l.length = .slice (some ⟨g, 0 + (cptL cf l).length * 6, none⟩) (l.length - (cptL cf l).length) (c - (cptL cf l).length) := by
      show Value.slice (if c = (cptL cf l).length then _ else _) _ _ = _
      rw [if_neg (by omega)]
      simp [Addr.add]
      omega
    have hflat : cs.take ((cptL cf l).length * 6) = ((cptL cf l).map encSl).flatMap (·.cells.toList) := by
      have h1 : cs.take ((cptL cf l).length * 6) = (cs.take (l.length * 6)).take ((cptL cf l).length * 6) := by rw [List.take_take, Nat.min_eq_left (by omega)]
      have hl := flat_len (k := 6) (xs := (cptL cf l).map encSl) fun x hx => by obtain ⟨y, _, rfl⟩ := List.mem_map.1 hx; rfl
      rw [List.length_map] at hl
      rw [h1, htk, List.map_append, List.flatMap_append, List.take_append_of_le_length (by omega), List.take_of_length_le (by omega)]
    (refine jjB (jjB (jjC (jI (eI rfl) (jI (eS rfl) (jh rfl ?_))))); refine jja rfl rfl (by omega) (jz (jjK rfl (jjE (jjB (jjC ?_))))); refine jI (eS rfl) (jI (eI rfl) ?_))
    refine Ops.sliceXLv (k := 6) (lo := (cptL cf l).length) rfl rfl rfl (by omega) ?_
    rw [hcutk]
    skip
    refine Ops.clearK (k := 6) hB rfl (by omega) (by rw [hcl]; omega) rfl rfl rfl ?_
    intro w9 Z hZ hZ1 hp9
    have hOn9 : Only g w w9 := hOn2.trans (.ofPut hp9)
    have hO9 : OwnL w9 B 46 true 6 (.slice (some ⟨g, 0, none⟩) (cptL cf l).length c) ((cptL cf l).map encSl) := by
      refine OwnL.ofCellsK (cs := cs.take (0 + (cptL cf l).length * 6) ++ Z ++ cs.drop (0 + (cptL cf l).length * 6 + (l.length - (cptL cf l).length) * 6)) ⟨hp9.new⟩ ?_ (by omega) hcm (by rw [List.length_map]) ?_ (by omega) hBg fun x hx => by obtain ⟨y, _, rfl⟩ := List.mem_map.1 hx; rfl
      · rw [List.length_append, List.length_append, List.length_take, List.length_drop, hZ, hcl]; omega
      · rw [List.append_assoc, List.take_append_of_le_length (by rw [List.length_take]; omega), List.take_take, Nat.zero_add, Nat.min_self]
        exact hflat
    (refine jz (jjB (jjC (jI (eS rfl) (jI (eI rfl) ?_)))))
    refine Ops.sliceXHv (k := 6) (hi := (cptL cf l).length) rfl rfl rfl (by omega) (by omega) ?_
    (refine jJ (eS rfl) (jz (jjF ?_)))
    exact jB rfl rfl ⟨rfl, hOn9, hO9⟩
  obtain ⟨m, hm⟩ : ∃ m, i + k2 = m := ⟨_, rfl⟩
  have hm1 : m + 1 < l.length := by omega
  have hXl : (P ++ l.drop kk).length = l.length := by rw [List.length_append, List.length_drop]; omega
  have hX : ∀ t (h : t < l.length), kk ≤ t → ((P ++ l.drop kk).map encSl)[t]? = some (encSl l[t]) := fun t h h' => by
    rw [List.getElem?_map, List.getElem?_append_right (by omega), List.getElem?_drop, show kk + (t - P.length) = t by omega, List.getElem?_eq_getElem h]; rfl
  have hmV2 := hmx V2 hOn2
  have hAb2 : At V2 bk 0 [.func (.func q) #[] #[]] := hOn2.at_ hA hne
  have hA1' : At V2 g (0 + (i + 1) * 6 + k2 * 6) (encSl l[m + 1]).cells.toList := by
    have := place_k hO2.row (hX (m + 1) hm1 (by omega))
    rwa [show 0 + (m + 1) * 6 = 0 + (i + 1) * 6 + k2 * 6 by omega] at this
  have hA0' : At V2 g (0 + (i + 1) * 6 + (k2 - 1) * 6) (encSl l[m]).cells.toList := by
    have := place_k hO2.row (hX m (by omega) (by omega))
    rwa [show 0 + m * 6 = 0 + (i + 1) * 6 + (k2 - 1) * 6 by omega] at this
  have hst := cpt_step (f := cf) hm1
  (refine jjB (jjB (jjC (jI (eI rfl) (jI (eS rfl) (jh rfl ?_))))); refine jjZ rfl rfl (by omega) (jz (jjJ rfl (jjG (jjB (jjD ?_))))); refine jjB ?_)
  refine W.draw (fun w' => Ext V2 w') ?_
  intro w7 hS7
  refine jjV [0, 1, 2] (by decide +kernel) hS7.ext ?_
  (((refine jjT rfl (fun _ _ => jI (eF rfl) (jz ⟨rfl, rfl⟩)) (jjT rfl (fun _ _ => jI (eS rfl) (jz ⟨rfl, rfl⟩)) (jjT rfl (fun _ _ => jI (eI rfl) (jz ⟨rfl, rfl⟩)) (jjU ?_))))))
  refine jjV [3] (by decide +kernel) hS7.ext (jjT (v := .pointer (some ⟨g, 0 + (i + 1) * 6 + k2 * 6, none⟩)) rfl (fun w' q1 => ?_) (jjU ?_)); (refine jH k2 rfl rfl rfl (by omega) ?_; refine jz ?_; exact ⟨rfl, rfl⟩)
  refine jjV [4] (by decide +kernel) hS7.ext (jjT (v := encSl l[m + 1]) rfl (fun w' q1 => ?_) (jjU ?_)); (refine Ops.loadOA (off := 0) (hA1'.ext q1) rfl rfl rfl rfl ?_; refine jz ?_; exact ⟨rfl, rfl⟩)
  refine jjV [5, 6, 7] (by decide +kernel) hS7.ext ?_
  (((refine jjT rfl (fun _ _ => jI (eS rfl) (jz ⟨rfl, rfl⟩)) (jjT rfl (fun _ _ => jI (eI rfl) (jz ⟨rfl, rfl⟩)) (jjT rfl (fun _ _ => jZ rfl rfl (by omega) (jz ⟨rfl, rfl⟩)) (jjU ?_))))))
  refine jjV [8] (by decide +kernel) hS7.ext (jjT (v := .pointer (some ⟨g, 0 + (i + 1) * 6 + (k2 - 1) * 6, none⟩)) rfl (fun w' q1 => ?_) (jjU ?_)); (refine jH (k2 - 1) rfl rfl (by omega) (by omega) ?_; refine jz ?_; exact ⟨rfl, rfl⟩)
  refine jjV [9] (by decide +kernel) hS7.ext (jjT (v := encSl (l[m]'(by omega))) rfl (fun w' q1 => ?_) (jjU ?_)); (refine Ops.loadOA (off := 0) (hA0'.ext q1) rfl rfl rfl rfl ?_; refine jz ?_; exact ⟨rfl, rfl⟩)
  (apply jjW 10; (decide +kernel); exact rfl; (exact inferInstance))
  refine jjQ (same_slip q cf hc l[m + 1] l[m] (hg _ (List.getElem_mem _)) (hg _ (List.getElem_mem _)) bk _) rfl rfl ?_
  rintro _ w8 hS8 rfl
  refine jz ?_
  have hO8 := (hO2.ext hS7.ext).ext hS8.ext
  have hOn8 : Only g w w8 := hOn2.trans (.ofExt inferInstance)
  by_cases hz2 : cf l[m + 1] l[m] = 0
  · rw [if_pos hz2, List.append_nil] at hst
    rw [decide_eq_true hz2]
    refine jjV [11] (by decide +kernel) inferInstance ?_
    (((refine jjT rfl (fun _ _ => jp rfl (jz ⟨rfl, rfl⟩)) (jjU ?_))))
    refine jjX (by decide +kernel) inferInstance ?_
    (refine jjK rfl (jjG (jjC (jI (eI rfl) (jY rfl rfl (by omega) (jJ (eI rfl) ?_))))); refine jz ?_)
    exact ⟨rfl, by (((iterate 21 refine Same.upd rfl ?_); exact Same.ovN)), l.length - (i + 1) - (k2 + 1), by omega, k2 + 1, kk, P, congrArg (Value.int .i64) (by omega), rfl, rfl, by omega, by omega, by rw [hP, show i + (k2 + 1) + 1 = m + 2 by omega, hst, hm], hPl, by omega, hkk1, hOn8, hO8⟩
  rw [if_neg hz2] at hst
  rw [decide_eq_false hz2]
  refine jjV [11] (by decide +kernel) inferInstance ?_
  (((refine jjT rfl (fun _ _ => jq rfl (jz ⟨rfl, rfl⟩)) (jjU ?_))))
  refine jjX (by decide +kernel) inferInstance ?_
  (refine jjJ rfl (jjB (jjC (jI (eS rfl) (jI (eI rfl) (jI (eS rfl) ?_))))); refine jI (eI rfl) ?_)
  refine jH k2 rfl rfl rfl (by omega) ?_
  refine Ops.loadOA (off := 0) ((hA1'.ext hS7.ext).ext hS8.ext) rfl rfl rfl rfl ?_
  refine jH kk rfl rfl rfl (by omega) ?_
  refine Ops.storeW (g := g) (j := kk) (X' := encSl l[m + 1]) hO8 rfl (by rw [List.length_map]; omega) rfl (show Value.pointer (some ⟨g, 0 + kk * 6, none⟩) = Value.pointer (some ⟨g, kk * 6, none⟩) from by rw [Nat.zero_add]) rfl rfl ?_
  intro w9 o9 hp9 hO9
  have hset : (P ++ l.drop kk).set kk l[m + 1] = (P ++ [l[m + 1]]) ++ l.drop (kk + 1) := by
    rw [List.drop_eq_getElem_cons (show kk < l.length by omega), List.set_append, if_neg (by omega), hPl, Nat.sub_self, List.set_cons_zero, List.append_assoc]
    rfl
  rw [← List.map_set, hset] at hO9
  have hOn9 : Only g w w9 := hOn8.trans (.ofPut hp9)
  (refine jz (jjC (jI (eI rfl) (jY rfl rfl (by omega) (jJ (eI rfl) (jz ?_))))); refine jjC (jI (eI rfl) (jY rfl rfl (by omega) (jJ (eI rfl) (jz ?_)))))
  exact ⟨rfl, by (((iterate 31 refine Same.upd rfl ?_); exact Same.ovN)), l.length - (i + 1) - (k2 + 1), by omega, k2 + 1, kk + 1, P ++ [l[m + 1]], congrArg (Value.int .i64) (by omega), congrArg (Value.int .i64) (by omega), rfl, by omega, by omega, by rw [hP, show i + (k2 + 1) + 1 = m + 2 by omega, hst, hm], by rw [List.length_append, hPl]; rfl, by omega, by omega, hOn9, hO9⟩
end
end Go.Proofs.YtgnkloloehlfnaaGreatDoor

namespace Go.Proofs.YtgnkloloehlfnaaGreatDoor
open Go.Shelf Go.RowKit Go.Lib Go.Sort
def sh_laysSlF06_f39_ren : Go.Shelf.Ren := ⟨fun | 6 => 39 | 15 => 83 | 14 => 82 | 28 => 127 | 29 => 128 | 20 => 119 | 21 => 120 | 22 => 121 | 23 => 122 | 24 => 123 | 25 => 124 | 26 => 125 | 27 => 126 | 46 => 145 | 47 => 146 | 48 => 147 | 49 => 148 | 50 => 149 | 57 => 156 | n => n, fun | 22 => 37 | 24 => 46 | 25 => 100 | 3 => 3 | 39 => 160 | 0 => 0 | 53 => 96 | 55 => 201 | 4 => 4 | 46 => 194 | 45 => 193 | 50 => 107 | 5 => 5 | 9 => 9 | 66 => 221 | 70 => 225 | 76 => 231 | 77 => 94 | n => n, fun | n => n⟩

theorem sh_laysSlF06_f39 : Go.Proofs.SlLaysF0.n6 Tryz.prog sh_laysSlF06_f39_ren := {
  mixed := by kernel_rfl
  f6 := ⟨Tryz.f39.name, by decide, Tryz.func39.trans (congrArg some (by kernel_rfl))⟩
  f14 := ⟨Tryz.f82.name, by decide, Tryz.func82.trans (congrArg some (by kernel_rfl))⟩
  f15 := Tryz.func83.trans (congrArg some (by kernel_rfl))
  f20 := ⟨Tryz.f119.name, by decide, Tryz.func119.trans (congrArg some (by kernel_rfl))⟩
  f21 := ⟨Tryz.f120.name, by decide, Tryz.func120.trans (congrArg some (by kernel_rfl))⟩
  f22 := ⟨Tryz.f121.name, by decide, Tryz.func121.trans (congrArg some (by kernel_rfl))⟩
  f23 := ⟨Tryz.f122.name, by decide, Tryz.func122.trans (congrArg some (by kernel_rfl))⟩
  f24 := ⟨Tryz.f123.name, by decide, Tryz.func123.trans (congrArg some (by kernel_rfl))⟩
  f25 := ⟨Tryz.f124.name, by decide, Tryz.func124.trans (congrArg some (by kernel_rfl))⟩
  f26 := ⟨Tryz.f125.name, by decide, Tryz.func125.trans (congrArg some (by kernel_rfl))⟩
  f27 := ⟨Tryz.f126.name, by decide, Tryz.func126.trans (congrArg some (by kernel_rfl))⟩
  f28 := Tryz.func127.trans (congrArg some (by kernel_rfl))
  f29 := Tryz.func128.trans (congrArg some (by kernel_rfl))
  f46 := ⟨Tryz.f145.name, by decide, Tryz.func145.trans (congrArg some (by kernel_rfl))⟩
  f47 := Tryz.func146.trans (congrArg some (by kernel_rfl))
  f48 := Tryz.func147.trans (congrArg some (by kernel_rfl))
  f49 := ⟨Tryz.f148.name, by decide, Tryz.func148.trans (congrArg some (by kernel_rfl))⟩
  f50 := ⟨Tryz.f149.name, by decide, Tryz.func149.trans (congrArg some (by kernel_rfl))⟩
  f57 := ⟨Tryz.f156.name, by decide, Tryz.func156.trans (congrArg some (by kernel_rfl))⟩
  t0 := Tryz.underlying0
  a0 := Tryz.isAgg0
  z0 := Tryz.sizeOf0
  v0 := Tryz.zeroValue0
  t3 := Tryz.underlying3
  a3 := Tryz.isAgg3
  z3 := Tryz.sizeOf3
  v3 := Tryz.zeroValue3
  t4 := Tryz.underlying4
  a4 := Tryz.isAgg4
  z4 := Tryz.sizeOf4
  v4 := Tryz.zeroValue4
  t5 := Tryz.underlying5
  a5 := Tryz.isAgg5
  z5 := Tryz.sizeOf5
  v5 := Tryz.zeroValue5
  t9 := Tryz.underlying9
  a9 := Tryz.isAgg9
  z9 := Tryz.sizeOf9
  v9 := Tryz.zeroValue9
  t22 := Tryz.underlying37
  a22 := Tryz.isAgg37
  z22 := Tryz.sizeOf37
  v22 := Tryz.zeroValue37
  t25 := Tryz.underlying100
  a25 := Tryz.isAgg100
  z25 := Tryz.sizeOf100
  v25 := Tryz.zeroValue100
  t39 := Tryz.underlying160
  a39 := Tryz.isAgg160
  z39 := Tryz.sizeOf160
  v39 := Tryz.zeroValue160
  t45 := Tryz.underlying193
  a45 := Tryz.isAgg193
  z45 := Tryz.sizeOf193
  v45 := Tryz.zeroValue193
  t46 := Tryz.underlying194
  a46 := Tryz.isAgg194
  z46 := Tryz.sizeOf194
  v46 := Tryz.zeroValue194
  t50 := Tryz.underlying107
  a50 := Tryz.isAgg107
  z50 := Tryz.sizeOf107
  v50 := Tryz.zeroValue107
  t53 := Tryz.underlying96
  a53 := Tryz.isAgg96
  z53 := Tryz.sizeOf96
  v53 := Tryz.zeroValue96
  t55 := Tryz.underlying201
  a55 := Tryz.isAgg201
  z55 := Tryz.sizeOf201
  v55 := Tryz.zeroValue201
  t66 := Tryz.underlying221
  a66 := Tryz.isAgg221
  z66 := Tryz.sizeOf221
  v66 := Tryz.zeroValue221
  t70 := Tryz.underlying225
  a70 := Tryz.isAgg225
  z70 := Tryz.sizeOf225
  v70 := Tryz.zeroValue225
  t76 := Tryz.underlying231
  a76 := Tryz.isAgg231
  z76 := Tryz.sizeOf231
  v76 := Tryz.zeroValue231
  t77 := Tryz.underlying94
  a77 := Tryz.isAgg94
  z77 := Tryz.sizeOf94
  v77 := Tryz.zeroValue94 }

theorem sh_slices_SortFunc {α : Type} [Inhabited α] (k : Nat) (aE : ∀ w, (isAgg 46).run Tryz.prog w = .ok true w) (zE : ∀ w, (Go.sizeOf 46).run Tryz.prog w = .ok k w) (enc : α → List Value) (hk : ∀ x, (enc x).length = k) (h1 : ∀ x, ∀ v ∈ enc x, v.oneCell' = true) (cf : α → α → Int) (hO : SWO (ltOf cf)) (g : Nat) (cb : Array Value) (blk off cap : Nat) (d : Array α) (w : World) (eg : ∀ args w, (callFunc g args).run Tryz.prog w = .ok (.enter g args) w) (hcmp : CmpLays Tryz.prog g cb enc k cf blk off d.size w) (hH : HoldsK enc k w blk off d) (hblk : blk < w.heap.size) (hsz : d.size < 4611686018427387904) :
    Calls Tryz.prog 39 #[.slice (some ⟨blk, off, none⟩) d.size cap, .func (.func g) #[] cb] w fun e w' =>
      e = .returned (.tuple #[]) ∧ ∃ d' n os, PermIn 0 d.size d d' ∧ SortedIn (ltOf cf) 0 d.size d' ∧ w' = sortWorldK enc k w blk off n d' os := AnyQ.slices_SortFunc sh_laysSlF06_f39 k aE zE enc hk h1 cf hO g cb blk off cap d w eg hcmp hH hblk hsz

theorem flat_getK {k : Nat} (hk : 0 < k) : ∀ {xs : List Value}, (∀ x ∈ xs, x.cells.size = k) → ∀ t, t < xs.length * k → (xs.flatMap (·.cells.toList))[t]? = (xs[t / k]?).bind fun x => x.cells.toList[t % k]?
  | [], _, t, h => by simp at h
  | y :: xs, hx, t, h => by
    have hy : y.cells.toList.length = k := by simpa using hx y List.mem_cons_self
    rw [List.flatMap_cons]
    rcases Nat.lt_or_ge t k with c | c
    · rw [List.getElem?_append_left (by omega), Nat.div_eq_of_lt c, Nat.mod_eq_of_lt c]
      rfl
    · rw [List.getElem?_append_right (by omega), hy]
      have e1 : t / k = (t - k) / k + 1 := by rw [Nat.div_eq_sub_div hk c]
      have e2 : t % k = (t - k) % k := Nat.mod_eq_sub_mod c
      rw [e1, e2, List.getElem?_cons_succ]
      refine flat_getK hk (fun z hz => hx z (List.mem_cons_of_mem _ hz)) (t - k) ?_
      rw [List.length_cons, Nat.add_mul] at h
      omega
def slC (x : Slp) : List Value := (encSl x).cells.toList
theorem swo_pre {α : Type} {f : α → α → Int} (hf : Pre3 f) : SWO (ltOf f) where
  irrefl x := by rw [ltOf, hf.refl]; rfl
  trans x y z h1 h2 := by
    simp only [ltOf, decide_eq_true_eq] at h1 h2 ⊢
    have r1 := hf.r x y
    have r2 := hf.r y z
    have := hf.tr x y z (by omega) (by omega)
    omega
  ntrans x y z h1 h2 := by
    simp only [ltOf, decide_eq_false_iff_not] at h1 h2 ⊢
    intro h3
    have r1 := hf.r x y
    have r3 := hf.r x z
    have a1 := hf.anti x y
    by_cases e : f x y = 0
    · have := hf.eql x y z e; omega
    · have := hf.tr y x z (by omega) (by omega); omega
theorem Only.sortedK {α : Type} [Inhabited α] {enc : α → List Value} {k : Nat} {w : World} {g m : Nat} {d : Array α} {os : Array Obj} : Only g w (sortWorldK enc k w g 0 m d os) := by
  refine ⟨rfl, rfl, rfl, by simp [sortWorldK, grow, putRowK, putRow, mapBlock, Go.Sort.ahead], fun q hq hn => ?_⟩
  have h1 : q < (putRowK enc k (Go.Sort.ahead w m) g 0 d).heap.size := by simpa [putRowK, putRow, mapBlock, Go.Sort.ahead] using hq
  rw [sortWorldK, heap_grow_old _ _ h1]
  simp only [putRowK, putRow, mapBlock, Go.Sort.ahead, Array.getElem?_modify]
  rw [if_neg (fun e => hn e.symm)]
theorem grown_ext {w w' : World} (h : Ext w w') (hd : w.drawn ≤ w'.drawn) : ∃ (q : Nat) (os : Array Obj), w' = grow (w.drewN q) os := by
  refine ⟨w'.drawn - w.drawn, w'.heap.extract w.heap.size w'.heap.size, ?_⟩
  obtain ⟨h1, h2, h3, h4, h5⟩ := h.b
  have hh : w'.heap = w.heap ++ w'.heap.extract w.heap.size w'.heap.size := by
    apply Array.ext_getElem?
    intro i
    rw [Array.getElem?_append]
    split
    · rename_i hi; exact h5 i hi
    · rename_i hi
      rw [Array.getElem?_extract]
      by_cases hj : i < w'.heap.size
      · rw [if_pos (by omega), show w.heap.size + (i - w.heap.size) = i by omega]
      · rw [if_neg (by omega), Array.getElem?_eq_none (by omega)]
  have hd : w'.drawn = w.drawn + (w'.drawn - w.drawn) := by omega
  clear h4 h5 h
  cases w
  cases w'
  simp only [grow, World.drewN] at *
  subst h1 h2 h3
  rw [← hh, ← hd]
def GSl : Type := {x : Slp // GdS x}
def aSl : Slp := (((0 : Int), (0 : Int), (0 : Int)), ⟨#[97]⟩, ⟨#[]⟩, ⟨#[]⟩)
theorem gd_a : GdS aSl := ⟨by decide +kernel, by unfold SmallS; decide +kernel⟩
instance : Inhabited GSl := ⟨⟨aSl, gd_a⟩⟩
theorem sub_gsl : ∀ {l : List Slp}, (∀ x ∈ l, GdS x) → ∃ m : List GSl, l = m.map fun x => x.1
  | [], _ => ⟨[], rfl⟩
  | x :: l, h => by
    obtain ⟨m, rfl⟩ := sub_gsl (l := l) fun y hy => h y (List.mem_cons_of_mem _ hy)
    exact ⟨⟨x, h x List.mem_cons_self⟩ :: m, rfl⟩
def slG (x : GSl) : List Value := slC x.1
theorem flatG_get (l : List GSl) (t : Nat) (h : t < l.length * 6) : ((l.map fun x => encSl x.1).flatMap (·.cells.toList))[t]? = some ((flatK slG 6 l.toArray)[t]!) := by
  rw [flat_getK (k := 6) (by omega) (fun x hx => by obtain ⟨y, _, rfl⟩ := List.mem_map.1 hx; rfl) t (by rw [List.length_map]; exact h)]
  have h1 : t / 6 < l.length := by omega
  have h2 : t % 6 < 6 := Nat.mod_lt _ (by omega)
  rw [get_flatK slG 6 l.toArray t (by simpa using h), List.getElem?_map, List.getElem?_eq_getElem h1]
  have e : l.toArray[t / 6]! = l[t / 6] := by rw [getElem!_pos _ _ (by simpa using h1)]; rfl
  rw [e]
  show (slG l[t / 6])[t % 6]? = some ((slG l[t / 6])[t % 6]!)
  have h3 : (slG l[t / 6]).length = 6 := rfl
  rw [List.getElem?_eq_getElem (by omega), getElem!_pos _ _ (by omega)]
set_option maxHeartbeats 1000000 in
theorem SortFunc_slip (q : Nat) [he : Enters Tryz.prog q] (cf : Slp → Slp → Int) (hf : Pre3 cf) (hc : CmpQ q cf)
    (g n c : Nat) (l0 : List Slp) (hg : ∀ x ∈ l0, GdS x) (w : World) {B : Nat} (hO : OwnL w B 46 true 6 (.slice (some ⟨g, 0, none⟩) n c) (l0.map encSl)) (hn : n ≤ 1000000) (hmx : ∀ V, Only g w V → MxI V) :
    Calls Tryz.prog 39 [.slice (some ⟨g, 0, none⟩) n c, .func (.func q) #[] #[]].toArray w fun e w' => (∃ v, e = .returned v) ∧ Only g w w' ∧ ∃ r : List Slp, r.Perm l0 ∧ r.Pairwise (fun a b => cf b a ≠ -1) ∧ OwnL w' g 46 true 6 (.slice (some ⟨g, 0, none⟩) n c) (r.map encSl) := by
  obtain ⟨l, hl⟩ := sub_gsl hg
  subst hl
  have emp : ∀ l : List GSl, (l.map fun x => x.1).map encSl = l.map fun x => encSl x.1 := fun l => by rw [List.map_map]; rfl
  rw [emp] at hO
  have hf' : Pre3 fun x y : GSl => cf x.1 y.1 := ⟨fun _ _ => hf.r _ _, fun _ _ => hf.anti _ _, fun _ _ _ => hf.tr _ _ _, fun _ _ _ => hf.eql _ _ _⟩
  obtain ⟨cs, hB, hcl, hnc, hcm, hln, htk, hBg⟩ := hO.cellsK
  rw [List.length_map] at hln
  have hsz : l.toArray.size = n := by simpa using hln
  have hH : HoldsK slG 6 w g 0 l.toArray := fun j hj => by
    rw [size_flatK, hsz] at hj
    have h1 := flatG_get l j (by rw [hln]; exact hj)
    rw [← htk, List.getElem?_take, if_pos hj] at h1
    rw [Nat.zero_add]
    constructor
    · simp only [World.cell?, hB.h]
      simpa using h1
    · simp [World.frozen?, hB.h]
  have hcc := sh_slices_SortFunc (k := 6) (fun w => by kernel_rfl) (fun w => by kernel_rfl) slG (fun _ => rfl) (fun x v hv => List.all_eq_true.1 (show (slG x).all (·.oneCell') = true from rfl) v hv) (fun x y : GSl => cf x.1 y.1) (swo_pre hf') q #[] g 0 c l.toArray w (Enters.h (P := Tryz.prog) (g := q)) (fun m os dk _ x y => by
    refine Calls.mono (hc x.1 y.1 _ (hmx _ Only.sortedK) x.2 y.2) fun e w' ⟨h1, h2, h3⟩ => ⟨h1, ?_⟩
    exact grown_ext h2 h3) hH hB.lt (by omega)
  rw [hsz] at hcc
  refine Calls.mono hcc fun e w' ⟨he, d', m, os, hp, hs, hw⟩ => ⟨⟨_, he⟩, by rw [hw]; exact Only.sortedK, d'.toList.map fun x => x.1, ?_, ?_, ?_⟩
  · obtain ⟨h1, _, h2⟩ := hp
    have ex : ∀ (x : Array GSl), x.size = n → x.extract 0 n = x := fun x hx => by subst hx; simp
    have e1 := ex d' (h1.trans hsz)
    have e2 := ex l.toArray hsz
    rw [e1, e2] at h2
    exact List.Perm.map _ (by simpa using h2)
  · have h1 : d'.size = n := hp.1.trans hsz
    rw [List.pairwise_map, List.pairwise_iff_getElem]
    intro i j hi hj hij
    have := hs i j (Nat.zero_le _) hij (by simpa [h1] using hj)
    rw [getElem!_pos _ j (by simpa using hj), getElem!_pos _ i (by simpa using hi)] at this
    simp only [ltOf, decide_eq_false_iff_not] at this
    simp only [Array.getElem_toList]
    omega
  · have h1 : d'.size = n := hp.1.trans hsz
    have hBk : Bk w' g (putCells id 0 (flatK slG 6 d') cs.toArray).toList 46 := by
      refine ⟨?_⟩
      rw [hw, sortWorldK, heap_grow_old _ _ (by simpa [putRowK, putRow, mapBlock, Go.Sort.ahead] using hB.lt)]
      simp [putRowK, putRow, mapBlock, Go.Sort.ahead, Array.getElem?_modify, hB.h, onCells]
    rw [emp]
    refine OwnL.ofCellsK hBk (by simp [putCells, hcl]) hnc hcm (by simpa using h1) ?_ (by omega) (Nat.le_refl _) fun x hx => by obtain ⟨y, _, rfl⟩ := List.mem_map.1 hx; rfl
    apply List.ext_getElem?
    intro j
    rw [List.getElem?_take]
    by_cases hj : j < n * 6
    · rw [if_pos hj]
      have hnc' : n * 6 ≤ c * 6 := Nat.mul_le_mul_right 6 hnc
      have hjc : j < cs.length := by omega
      have hjd : j < (flatK slG 6 d').size := by rw [size_flatK, h1]; exact hj
      rw [flatG_get d'.toList j (by simpa [h1] using hj)]
      have hjd' : j < d'.size * 6 := by rw [h1]; exact hj
      simp [putCells, hjc, hjd']
    · rw [if_neg hj]
      have hl := flat_len (k := 6) (xs := d'.toList.map fun x : GSl => encSl x.1) fun x hx => by obtain ⟨y, _, rfl⟩ := List.mem_map.1 hx; rfl
      rw [List.getElem?_eq_none (by rw [hl, List.length_map, Array.length_toList, h1]; omega)]
end Go.Proofs.YtgnkloloehlfnaaGreatDoor

namespace Go.Proofs.YtgnkloloehlfnaaGreatDoor
open Go.Shelf Go.RowKit Go.Lib Go.Sort
def sh_lays125_ren : Go.Shelf.Ren := ⟨fun | 125 => 83 | 128 => 127 | 129 => 128 | n => n, fun | 46 => 160 | 3 => 3 | 51 => 96 | 53 => 201 | 4 => 4 | 5 => 5 | 9 => 9 | n => n, fun | n => n⟩

theorem sh_lays125 : Go.Proofs.Lays.n125 Tryz.prog sh_lays125_ren := {
  mixed := by kernel_rfl
  f125 := Tryz.func83.trans (congrArg some (by kernel_rfl))
  f128 := Tryz.func127.trans (congrArg some (by kernel_rfl))
  f129 := Tryz.func128.trans (congrArg some (by kernel_rfl))
  t3 := Tryz.underlying3
  a3 := Tryz.isAgg3
  z3 := Tryz.sizeOf3
  v3 := Tryz.zeroValue3
  t4 := Tryz.underlying4
  a4 := Tryz.isAgg4
  z4 := Tryz.sizeOf4
  v4 := Tryz.zeroValue4
  t5 := Tryz.underlying5
  a5 := Tryz.isAgg5
  z5 := Tryz.sizeOf5
  v5 := Tryz.zeroValue5
  t9 := Tryz.underlying9
  a9 := Tryz.isAgg9
  z9 := Tryz.sizeOf9
  v9 := Tryz.zeroValue9
  t46 := Tryz.underlying160
  a46 := Tryz.isAgg160
  z46 := Tryz.sizeOf160
  v46 := Tryz.zeroValue160
  t51 := Tryz.underlying96
  a51 := Tryz.isAgg96
  z51 := Tryz.sizeOf96
  v51 := Tryz.zeroValue96
  t53 := Tryz.underlying201
  a53 := Tryz.isAgg201
  z53 := Tryz.sizeOf201
  v53 := Tryz.zeroValue201 }

theorem sh_bits_Len (x : Int) (w : World) (h0 : 0 ≤ x) (h1 : x ≤ 18446744073709551615) :
    Calls Tryz.prog 83 #[.int .u64 x] w fun e w' => e = .returned (.int .i64 (Lib.bitLen x.toNat)) ∧ w' = w := Any.bits_Len sh_lays125 x w h0 h1

section
variable (q : Nat) [he : Enters Tryz.prog q] (cf : Slp → Slp → Int)
omit he in
theorem insert_none (w : World) : Ct Tryz.prog 119 [.slice none 0 0, .int .i64 0, .int .i64 0, .func (.func q) #[] #[]] w fun _ _ => True := by
  refine Ct.ofW (by simp) ?_
  (refine jjB (jjC (jI (eI rfl) (jY rfl rfl (by omega) (jJ (eI rfl) (jz ?_))))); refine jjD ?_)
  refine W.loop (12 :: 13 :: 14 :: 17 :: 9 :: 18 :: 19 :: 20 :: 21 :: 22 :: 23 :: 24 :: 25 :: 26 :: 27 :: 28 :: 29 :: 30 :: 31 :: 32 :: 33 :: 34 :: 37 :: 38 :: 39 :: 40 :: 41 :: 42 :: 43 :: 44 :: 45 :: 46 :: 47 :: 48 :: 49 :: 50 :: 51 :: 52 :: 35 :: 36 :: 15 :: 16 :: 8 :: []) (fun g s' _ => s' 8 = .int .i64 1) 1 rfl ?_
  rintro _ sd V hSV h8
  refine W.fix h8 ?_
  (refine jjB (jjB (jjC (jI (eI rfl) (jI (eI rfl) (jja rfl rfl (by omega) ?_))))); refine jz (jjK rfl (jjE ?_)); refine jA rfl ⟨inferInstance, ?_⟩)
  trivial
omit he in
theorem pdq_none (m : Int) (w : World) : Ct Tryz.prog 82 [.slice none 0 0, .int .i64 0, .int .i64 0, .int .i64 m, .func (.func q) #[] #[]] w fun _ _ => True := by
  refine Ct.ofW (by simp) ?_
  (refine jjB (jjC (jJ (eB rfl) (jz (jjB (jjC ?_))))); refine jJ (eB rfl) (jz (jjD ?_)))
  refine W.loop (21 :: 22 :: 23 :: 12 :: 24 :: 25 :: 26 :: 27 :: 28 :: 29 :: 30 :: 31 :: 32 :: 33 :: 34 :: 35 :: 36 :: 37 :: 38 :: 39 :: 40 :: 41 :: 42 :: 43 :: 44 :: 45 :: 46 :: 3 :: 48 :: 49 :: 50 :: 51 :: 52 :: 47 :: 53 :: 54 :: 13 :: 14 :: 55 :: 56 :: 57 :: 58 :: 59 :: 60 :: 61 :: 62 :: 63 :: 64 :: 65 :: 66 :: 67 :: 68 :: 69 :: 70 :: 71 :: 72 :: 73 :: 74 :: 75 :: 76 :: 77 :: 78 :: 79 :: 80 :: 81 :: 82 :: 83 :: 84 :: 85 :: 86 :: 87 :: 88 :: 89 :: 90 :: 91 :: 92 :: 93 :: 94 :: 95 :: 96 :: 97 :: 98 :: 99 :: 100 :: 101 :: 102 :: 103 :: 15 :: 104 :: 1 :: 106 :: 107 :: 108 :: 109 :: 110 :: 111 :: 105 :: 112 :: 113 :: 16 :: 17 :: 114 :: 11 :: 115 :: 116 :: 117 :: 118 :: 119 :: 120 :: 18 :: 19 :: 121 :: 122 :: 20 :: 123 :: 124 :: 125 :: 126 :: 127 :: 128 :: 10 :: 129 :: 130 :: 131 :: 132 :: 133 :: 134 :: 135 :: 136 :: 137 :: 138 :: 139 :: 140 :: 141 :: 142 :: 143 :: 144 :: 145 :: 146 :: 147 :: 2 :: []) (fun g s' _ => s' 1 = .int .i64 0 ∧ s' 2 = .int .i64 0) 1 ⟨rfl, rfl⟩ ?_
  rintro _ sd V hSV ⟨h1, h2⟩
  refine W.fix h1 (W.fix (d := 2) h2 ?_)
  (refine jjD (jjB (jjC (jI (eI rfl) (jI (eI rfl) (jZ rfl rfl (by omega) ?_))))); refine jJ (eI rfl) (jz (jjB (jjB (jjC (jI (eI rfl) ?_))))); refine jjb rfl rfl (by omega) (jz (jjJ rfl (jjB (jjC (jI (eS rfl) ?_))))); refine jI (eI rfl) (jI (eI rfl) (jI (eF rfl) ?_)))
  refine jjQ (insert_none q _) rfl rfl ?_
  rintro _ w2 hS2 _
  (refine jz (jjF ?_); refine jA rfl ⟨inferInstance, ?_⟩)
  trivial
omit he in
theorem SortFunc_none (w : World) : Ct Tryz.prog 39 [.slice none 0 0, .func (.func q) #[] #[]] w fun _ _ => True := by
  refine Ct.ofW (by simp) ?_
  (refine jjB (jjC (jI (eS rfl) (jh rfl (jJ (eI rfl) (jz ?_))))); refine jjC (jI (eS rfl) (jI (eI rfl) (jI (eI rfl) ?_))))
  refine Ops.convI rfl rfl (show _ = (0 : Int) from by rfl) ?_
  skip
  refine Ops.callR rfl (Enters.h (P := Tryz.prog) (g := 83)) rfl (sh_bits_Len 0 _ (by omega) (by omega)) ?_
  rintro e w3 ⟨rfl, rfl⟩
  refine ⟨_, rfl, ?_⟩
  (apply jI; exact eF rfl)
  refine jjQ (pdq_none q _ _) rfl rfl ?_
  rintro _ w4 hS4 _
  (refine jz ?_; refine jA rfl ⟨inferInstance, ?_⟩)
  trivial
theorem Compact_none (bk : Nat) (w : World) : Ct Tryz.prog 40 [.slice none 0 0, .func (.func 41) #[] #[.pointer (some ⟨bk, 0, none⟩)]] w fun v _ => v = .slice none 0 0 := by
  refine Ct.ofW (by simp) ?_
  (refine jjB (jjC (jJ (eS rfl) (jz (jjB (jjB ?_))))); refine jjC (jI (eS rfl) (jh rfl (jjZ rfl rfl (by omega) (jz (jjJ rfl ?_))))); refine jjB (jjC (jI (eS rfl) (jJ (eS rfl) (jz (jjF ?_))))); refine jB rfl rfl ⟨inferInstance, ?_⟩)
  exact rfl
variable (hf : Pre3 cf) (hc : CmpQ q cf)
include hf hc in
theorem SortAny (a : Option Addr) (c : Nat) (l : List Slp) (hg : ∀ x ∈ l, GdS x) (w : World) {B : Nat} (hO : OwnL w B 46 true 6 (.slice a l.length c) (l.map encSl)) (hB : B ≤ w.heap.size) (hl : l.length ≤ 1000000) (hmx : ∀ V, (∀ w0, Ext w0 w → w0.heap.size ≤ B → Ext w0 V) → MxI V) :
    Calls Tryz.prog 39 [.slice a l.length c, .func (.func q) #[] #[]].toArray w fun e w' => (∃ v, e = .returned v) ∧ (∀ w0, Ext w0 w → w0.heap.size ≤ B → Ext w0 w') ∧ ∃ r : List Slp, r.Perm l ∧ r.Pairwise (fun a b => cf b a ≠ -1) ∧ OwnL w' B 46 true 6 (.slice a l.length c) (r.map encSl) := by
  rcases hO.own.2 with ⟨e1, _⟩ | ⟨g, cap, cur, e1, hBg, _⟩
  · simp only [Value.slice.injEq] at e1
    obtain ⟨rfl, h0, rfl⟩ := e1
    obtain rfl := List.length_eq_zero_iff.1 h0
    have h := SortFunc_none q w
    unfold Ct at h
    exact Calls.mono h fun e w' ⟨v, h1, h2, _⟩ => ⟨⟨v, h1⟩, fun w0 h3 _ => h3.trans h2, [], List.Perm.refl _, List.Pairwise.nil, hO.ext h2⟩
  · simp only [Value.slice.injEq] at e1
    obtain ⟨rfl, _, rfl⟩ := e1
    refine Calls.mono (SortFunc_slip q cf hf hc g l.length _ l hg w hO hl fun V hV => hmx V fun w0 x0 hb => hV.ext x0 (by omega)) fun e w' ⟨h1, h2, r, h3, h4, h5⟩ => ⟨h1, fun w0 x0 hb => h2.ext x0 (by omega), r, h3, h4, h5.mono hBg⟩
include hc in
theorem CompactAny (bk : Nat) (a : Option Addr) (c : Nat) (l : List Slp) (hg : ∀ x ∈ l, GdS x) (w : World) {B : Nat} (hA : At w bk 0 [.func (.func q) #[] #[]]) (hbk : bk < B) (hO : OwnL w B 46 true 6 (.slice a l.length c) (l.map encSl)) (hB : B ≤ w.heap.size) (hl : l.length ≤ 1000000) (hmx : ∀ V, (∀ w0, Ext w0 w → w0.heap.size ≤ B → Ext w0 V) → MxI V) :
    Calls Tryz.prog 40 [.slice a l.length c, .func (.func 41) #[] #[.pointer (some ⟨bk, 0, none⟩)]].toArray w fun e w' => e = .returned (.slice a (cptL cf l).length c) ∧ (∀ w0, Ext w0 w → w0.heap.size ≤ B → Ext w0 w') ∧ OwnL w' B 46 true 6 (.slice a (cptL cf l).length c) ((cptL cf l).map encSl) := by
  rcases hO.own.2 with ⟨e1, _⟩ | ⟨g, cap, cur, e1, hBg, _⟩
  · simp only [Value.slice.injEq] at e1
    obtain ⟨rfl, h0, rfl⟩ := e1
    obtain rfl := List.length_eq_zero_iff.1 h0
    have h := Compact_none bk w
    unfold Ct at h
    exact Calls.mono h fun e w' ⟨v, h1, h2, h4⟩ => ⟨by rw [h1, h4]; rfl, fun w0 h3 _ => h3.trans h2, hO.ext h2⟩
  · simp only [Value.slice.injEq] at e1
    obtain ⟨rfl, _, rfl⟩ := e1
    refine Calls.mono (Compact_slip q cf hc bk g l.length _ l hg w hA (by omega) (by omega) hO hl fun V hV => hmx V fun w0 x0 hb => hV.ext x0 (by omega)) fun e w' ⟨h1, h2, h5⟩ => ⟨h1, fun w0 x0 hb => h2.ext x0 (by omega), h5⟩
end
end Go.Proofs.YtgnkloloehlfnaaGreatDoor

namespace Go.Proofs.YtgnkloloehlfnaaGreatDoor
open Go.RowKit Go.Sort

abbrev bysC : List Value := [.nilFunc, .func (.func 193) #[] ([] : List Value).toArray, .func (.func 194) #[] ([] : List Value).toArray, .func (.func 196) #[] ([] : List Value).toArray, .func (.func 197) #[] ([] : List Value).toArray]
theorem cptGo_len {α : Type} {f : α → α → Int} : ∀ (r : List α) (p : α), (cptGo f p r).length ≤ r.length
  | [], _ => Nat.le_refl _
  | x :: r, p => by
    rw [cptGo]
    have := cptGo_len (f := f) r x
    split <;> simp <;> omega
theorem cpt_len {α : Type} {f : α → α → Int} (l : List α) : (cptL f l).length ≤ l.length := by
  cases l with
  | nil => exact Nat.le_refl _
  | cons x r => have := cptGo_len (f := f) r x; simp [cptL]; exact this
def RanksR (l : List Slp) (n : Int) (B : Nat) (v : Value) (w' : World) : Prop := ∃ (a : Option Addr) (c : Nat), v = .tuple #[.slice a (ranksR l n).1.length c, .int .i64 (ranksR l n).2] ∧ OwnL w' B 3 false 1 (.slice a (ranksR l n).1.length c) ((ranksR l n).1.map intV)
theorem ordR_self (x : Slp) : (ordR x x).2 = if slipB x = true then 0 else 31 := by
  rw [ordR]
  cases slipB x <;> rfl
theorem by_row (w : World) (by_ : Int) (hb : 1 ≤ by_ ∧ by_ ≤ 4) (h1 : by_ = 1 → CmpQ 193 (cmpBy 1)) (hgb : At w 0 0 bysC) : ∃ (q : Nat) (j : Nat) (rest : List Value), by_ = (j : Int) ∧ j < 5 ∧ Enters Tryz.prog q ∧ CmpQ q (cmpBy by_) ∧ At w 0 (0 + j * 1) (.func (.func q) #[] #[] :: rest) := by
  have h4 : by_ = 1 ∨ by_ = 2 ∨ by_ = 3 ∨ by_ = 4 := by omega
  rcases h4 with rfl | rfl | rfl | rfl
  · exact ⟨193, 1, _, rfl, by omega, inferInstance, h1 rfl, hgb.drop 1⟩
  · exact ⟨194, 2, _, rfl, by omega, inferInstance, by2_slip, hgb.drop 2⟩
  · exact ⟨196, 3, _, rfl, by omega, inferInstance, by3_slip, hgb.drop 3⟩
  · exact ⟨197, 4, _, rfl, by omega, inferInstance, by4_slip, hgb.drop 4⟩
section
variable (a : Option Addr) (c : Nat) (l : List Slp) (by_ : Int) (w : World) [hgb : At w 0 0 bysC] [hmx : MxI w] [hrow : RowI w (.slice a l.length c) true 6 (l.map encSl)]
set_option maxHeartbeats 4000000 in
theorem Ranks_rack (hq1 : by_ = 1 → CmpQ 193 (cmpBy 1)) (hs : ∀ x ∈ l, SmallS x) (hb : 0 ≤ by_ ∧ by_ ≤ 255) : Ct Tryz.prog 12 [.slice a l.length c, .int .u8 by_] w fun v w' => RanksR l by_ w.heap.size v w' := by
  refine Ct.ofW (by simp) ?_
  by_cases h60 : 60 < l.length
  · (refine jjB (jjC (jJ (eS rfl) (jJ (eI rfl) (jz (jjB ?_))))); refine jjB (jjC (jI (eS rfl) (jh rfl (jjd rfl rfl (by omega) (jz ?_))))); refine jjJ rfl (jjB (jjC (jJ (eS rfl) (jJ (eI rfl) (jz ?_))))); refine jjF ?_; refine jC rfl rfl rfl ⟨inferInstance, ?_⟩)
    have e : ranksR l by_ = ([], 4) := by rw [ranksR, if_pos h60]
    unfold RanksR; rw [e]
    exact ⟨none, 0, rfl, OwnL.nil _ _ _ _ _⟩
  (refine jjB (jjC (jJ (eS rfl) (jJ (eI rfl) (jz (jjB ?_))))); refine jjB (jjC (jI (eS rfl) (jh rfl (jje rfl rfl (by omega) (jz ?_))))); refine jjK rfl (jjG (jjB (jjB (jjC (jI (eS rfl) ?_))))); refine jh rfl (jI (eI rfl) (jz (jjD ?_))))
  refine W.keep0 [(0, .slice a l.length c), (1, .int .u8 by_), (20, .slice a l.length c), (21, .int .i64 (l.length : Int)), (22, .int .i64 ((0 : Nat) : Int))] ⟨eS rfl, eI rfl, eS rfl, eI rfl, eI rfl, trivial⟩ fun s0 => ?_
  refine W.loop (23 :: 24 :: 25 :: 7 :: 27 :: 28 :: 29 :: 26 :: 30 :: 31 :: 8 :: 9 :: 32 :: 33 :: 34 :: 4 :: 5 :: 35 :: 22 :: []) (fun g s' _ => ∃ k : Nat, s' 22 = .int .i64 (k : Int) ∧ g = l.length - k ∧ k ≤ l.length ∧ ∀ j (h : j < l.length), j < k → slipB l[j] = true) l.length ⟨0, rfl, rfl, Nat.zero_le _, fun j _ h => absurd h (Nat.not_lt_zero _)⟩ ?_
  rintro _ sd V hSV ⟨k, h22, rfl, hk, hpre⟩
  refine W.fix h22 ?_
  clear h22
  by_cases hk1 : k < l.length
  · have hx := hs l[k] (List.getElem_mem hk1)
    (refine jjB (jjC (jjZ rfl rfl (by omega) (jz (jjB (jjJ rfl ?_))))); refine jjG (jjB (jjD (jjB (jjC ?_)))); refine jF rfl rfl rfl (map_get (by omega)) ?_; intro _ _ _; refine jQ rfl rfl ?_)
    (apply jjR rfl; (intro _; first|exact eI rfl|exact eB rfl|exact eP rfl|exact eS rfl|exact eT rfl|exact eA rfl|exact eU rfl|exact eF rfl|exact eM rfl|exact eN rfl|exact rfl); exact rfl; exact rfl; exact rfl; exact rfl; intro b7 w_b7 hb_b7 hs_b7 hS_b7 hk_b7; have hA_b7 := Bk.of hk_b7)
    have hA7 : At w_b7 b7 0 (encSl l[k]).cells.toList := Bk.toAt (h := hA_b7)
    (refine jz (jjB (jjC (jO rfl rfl rfl rfl (jO rfl rfl rfl rfl ?_)))))
    refine jjQ (Order_slip _ l[k] l[k] hx hx) rfl rfl ?_
    rintro _ w8 hS8 rfl
    by_cases hr : slipB l[k] = true
    · rw [ordR_self, if_pos hr]
      (refine jI (eU rfl) (ju rfl rfl (ju rfl rfl (jJ (eI rfl) (jJ (eI rfl) (jz ?_))))); refine jjB (jjC (jI (eI rfl) (jjk rfl rfl (by omega) (jz (jjK rfl ?_))))); refine jjG (jjC (jY rfl rfl (by omega) (jI (eI rfl) (jz ?_)))))
      refine ⟨rfl, by (((iterate 17 refine Same.upd rfl ?_); exact Same.ovN)), l.length - (k + 1), by omega, inferInstance, k + 1, congrArg (Value.int .i64) (by omega), rfl, by omega, fun j h1 h2 => ?_⟩
      rcases Nat.lt_or_ge j k with c1 | c1
      · exact hpre j h1 c1
      · obtain rfl : j = k := by omega
        exact hr
    · rw [ordR_self, if_neg hr]
      (refine jI (eU rfl) (ju rfl rfl (ju rfl rfl (jJ (eI rfl) (jJ (eI rfl) (jz ?_))))); refine jjB (jjC (jI (eI rfl) (jjj rfl rfl (by omega) (jz (jjJ rfl ?_))))); refine jjB (jjC (jI (eI rfl) (jJ (eS rfl) (jJ (eI rfl) (jz ?_))))); refine jjF ?_; refine jC rfl rfl rfl ⟨inferInstance, ?_⟩)
      have e : ranksR l by_ = ([], 31) := by
        rw [ranksR, if_neg h60, if_pos fun h => hr (List.all_eq_true.1 h _ (List.getElem_mem hk1))]
      unfold RanksR; rw [e]
      exact ⟨none, 0, rfl, OwnL.nil _ _ _ _ _⟩
  have hall : l.all slipB = true := List.all_eq_true.2 fun x hx => by
    obtain ⟨j, hj, rfl⟩ := List.mem_iff_getElem.1 hx
    exact hpre j hj (by omega)
  have hgd : ∀ x ∈ l, GdS x := fun x hx => ⟨List.all_eq_true.1 hall x hx, hs x hx⟩
  clear hpre hk
  (refine jjB (jjC (jja rfl rfl (by omega) (jz (jjB (jjK rfl ?_))))); refine jjE (jjB (jjB (jjC (jI (eI rfl) ?_)))))
  refine Ops.convI rfl rfl (wrapi (by omega) (by omega)) ?_
  skip
  (refine jjP (v := .int _ _) rfl (by exact rfl) (by exact rfl) (by exact rfl) (by exact rfl) ?_; intro b38 w_b38 hb_b38 hs_b38 hS_b38 hk_b38; have hR_b38 := RowV.one (agg := false) (k := 1) rfl hk_b38)
  ((skip); refine jjQ (in_rack 1 4 _ [by_] _ hR_b38) rfl rfl ?_)
  rintro _ w3 hS3 rfl
  rw [all_one]
  by_cases hby : 1 ≤ by_ ∧ by_ ≤ 4
  rotate_left
  · have e : ranksR l by_ = ([], 2) := by rw [ranksR, if_neg h60, if_neg (by simp [hall]), if_pos hby]
    rw [show inB 1 4 by_ = false by rw [inB]; exact decide_eq_false hby]
    (refine jq rfl (jz (jjJ rfl (jjB (jjC (jJ (eS rfl) ?_))))); refine jJ (eI rfl) (jz (jjF ?_)); refine jC rfl rfl rfl ⟨inferInstance, ?_⟩)
    unfold RanksR; rw [e]
    exact ⟨none, 0, rfl, OwnL.nil _ _ _ _ _⟩
  rw [show inB 1 4 by_ = true by rw [inB]; exact decide_eq_true hby]
  have hE3 : Ext w w3 := inferInstance
  obtain ⟨q, j, rest, hj, hj5, he, hc, hAq⟩ := by_row w3 by_ hby hq1 (hgb.ext hE3)
  have hf := pre_by by_
  have e : ranksR l by_ = (l.map fun s => (rankF (cmpBy by_) l s : Int), 0) := ranksR_ok (by omega) hall hby
  unfold RanksR
  rw [e]
  clear e
  generalize cmpBy by_ = cf at *
  (refine jp rfl (jz (jjK rfl (jjG (jjB (jjC ?_))))); refine jI (eI rfl) ?_)
  refine Ops.indexAP j rfl rfl hj (by simpa using hj5) ?_
  (refine jm (jn rfl (jP rfl rfl rfl ?_)))
  (apply jjR rfl; (intro _; first|exact eI rfl|exact eB rfl|exact eP rfl|exact eS rfl|exact eT rfl|exact eA rfl|exact eU rfl|exact eF rfl|exact eM rfl|exact eN rfl|exact rfl); exact rfl; exact rfl; exact rfl; exact rfl; intro b10 w_b10 hb_b10 hs_b10 hS_b10 hk_b10; have hA_b10 := Bk.of hk_b10)
  have hA10 : At w_b10 b10 0 [.func (.func q) #[] #[]] := Bk.toAt (h := hA_b10)
  have hEb : Ext w w_b10 := inferInstance
  have hr10 : RowI w_b10 (.slice a l.length c) true 6 (l.map encSl) := inferInstance
  (refine jz (jjB (jjC (jI (eS rfl) ?_))))
  refine jjQ (Clone_Slip a c l _ (by omega)) rfl rfl ?_
  rintro _ w13 hS13 ⟨ca, cc, rfl, hO13⟩
  have hbl : b10 < w_b10.heap.size := hA10.lt
  (refine jJ (eS rfl) (jz (jjB (jjC (jI (eS rfl) (jN rfl rfl rfl ?_))))))
  refine Ops.callR rfl (Enters.h (P := Tryz.prog) (g := 39)) rfl (SortAny q cf hf hc ca cc l hgd w13 hO13 hS13.size (by omega) fun V hV => (inferInstance : MxI w_b10).ext (hV _ hS13.ext (Nat.le_refl _))) ?_
  rintro e w14 ⟨⟨v14, rfl⟩, hx14, r, hp, hsr, hO14⟩
  refine ⟨_, rfl, ?_⟩
  have hE14 : Ext w_b10 w14 := hx14 _ hS13.ext (Nat.le_refl _)
  have hlr := hp.length_eq
  rw [← hlr] at hO14
  (refine jz (jjB (jjC (jI (eS rfl) (jv ?_)))))
  refine Ops.callR rfl (Enters.h (P := Tryz.prog) (g := 40)) (by rw [← hlr]; rfl) (CompactAny q cf hc b10 ca cc r (fun x hx => hgd x (hp.mem_iff.1 hx)) w14 (hA10.ext hE14) hbl hO14 hE14.size (by omega) fun V hV => (inferInstance : MxI w_b10).ext (hV _ hE14 (Nat.le_refl _))) ?_
  rintro e w15 ⟨rfl, hx15, hO15⟩
  refine ⟨_, rfl, ?_⟩
  have hE15 : Ext w_b10 w15 := hx15 _ hE14 (Nat.le_refl _)
  have hcp := cpt_facts hf hsr
  have hrk := fun s => rank_cpt hf (s := s) hp hsr
  have hgC : ∀ y ∈ cptL cf r, GdS y := fun y hy => hgd y (hp.mem_iff.1 (hcp.1 y hy))
  have hlC : (cptL cf r).length ≤ 1000000 := by
    have := cpt_len (f := cf) r
    omega
  have hpw := hcp.2.1
  generalize cptL cf r = C at *
  clear hx14 hx15 hsr hcp hp hO14 hO13
  have hE15' : Ext w w15 := hEb.trans hE15
  have hA15 : At w15 b10 0 [.func (.func q) #[] #[]] := hA10.ext hE15
  have hr15 : RowI w15 (.slice a l.length c) true 6 (l.map encSl) := ⟨hr10.h.ext hE15⟩
  have hrC : RowI w15 (.slice ca C.length cc) true 6 (C.map encSl) := ⟨hO15.row⟩
  have := hE15'.toStep
  (refine jJ (eS rfl) (jz (jjB (jjC (jJ (eS rfl) (jz ?_))))); refine jjB (jjB (jjC (jI (eS rfl) (jh rfl (jI (eI rfl) ?_))))); refine jz (jjD ?_))
  refine W.keep0 [(10, .pointer (some ⟨b10, 0, none⟩)), (11, .slice ca C.length cc), (12, .slice none 0 0), (53, .slice a l.length c), (54, .int .i64 (l.length : Int)), (55, .int .i64 ((0 : Nat) : Int))] ⟨eP rfl, eS rfl, eS rfl, eS rfl, eI rfl, eI rfl, trivial⟩ fun s1 => ?_
  refine W.loopG (56 :: 57 :: 58 :: 14 :: 60 :: 61 :: 62 :: 63 :: 59 :: 64 :: 65 :: 15 :: 16 :: 66 :: 67 :: 68 :: 69 :: 12 :: 70 :: 55 :: []) (fun g s' V => ∃ (k : Nat) (dv : Value), s' 55 = .int .i64 (k : Int) ∧ s' 12 = dv ∧ g = l.length - k ∧ k ≤ l.length ∧ Ext w15 V ∧ OwnL V w15.heap.size 3 false 1 dv (((l.take k).map fun s => (rankF cf l s : Int)).map intV)) l.length ⟨0, _, rfl, rfl, rfl, Nat.zero_le _, Ext.refl _, OwnL.nil _ _ _ _ _⟩ ?_
  rintro _ sd2 V2 ⟨k, dv, h55, h12, rfl, hk, hEV, hO⟩
  refine W.fix h55 (W.fix (d := 12) h12 ?_)
  clear h55 h12
  obtain ⟨da, dc, rfl⟩ := hO.slice
  have hdl : (((l.take k).map fun s => (rankF cf l s : Int)).map intV).length = k := by simp; omega
  rw [hdl] at hO ⊢
  have := hEV.toStep
  by_cases hk1 : k < l.length
  rotate_left
  · obtain rfl : k = l.length := by omega
    rw [List.take_length] at hO
    (refine jjB (jjC (jja rfl rfl (by omega) (jz (jjB (jjK rfl ?_))))); refine jjE (jjB (jjC (jI (eS rfl) (jJ (eS rfl) (jJ (eI rfl) ?_))))); refine jz (jjF ?_); refine jC rfl rfl rfl ⟨inferInstance, ?_⟩)
    exact ⟨da, dc, by rw [List.length_map]; rfl, by rw [List.length_map]; exact hO.mono hE15'.size⟩
  have hgk := List.getElem?_eq_getElem hk1
  have hgx := hgd l[k] (List.getElem_mem hk1)
  (refine jjB (jjC (jjZ rfl rfl (by omega) (jz (jjB (jjJ rfl ?_))))); refine jjG (jjB (jjD (jjB (jjC ?_)))); refine jF rfl rfl rfl (map_get (by omega)) ?_; intro _ _ _; refine jQ rfl rfl ?_)
  (apply jjR rfl; (intro _; first|exact eI rfl|exact eB rfl|exact eP rfl|exact eS rfl|exact eT rfl|exact eA rfl|exact eU rfl|exact eF rfl|exact eM rfl|exact eN rfl|exact rfl); exact rfl; exact rfl; exact rfl; exact rfl; intro b14 w_b14 hb_b14 hs_b14 hS_b14 hk_b14; have hA_b14 := Bk.of hk_b14)
  have hA14 : At w_b14 b14 0 (encSl l[k]).cells.toList := Bk.toAt (h := hA_b14)
  have hEb14 : Ext w15 w_b14 := inferInstance
  have hrC14 : RowI w_b14 (.slice ca C.length cc) true 6 (C.map encSl) := inferInstance
  (refine jz (jjB (jjC (jI (eS rfl) (jO rfl rfl rfl rfl (jN rfl rfl rfl ?_))))))
  refine jjQ (Search_slip q cf hf hc ca cc C l[k] hgC hgx w_b14 hlC hpw) rfl rfl ?_
  rintro _ w17 hS17 ⟨bb, rfl⟩
  rw [← hrk l[k]]
  (refine jI (eU rfl) (ju rfl rfl (ju rfl rfl (jJ (eI rfl) (jJ (eB rfl) (jz ?_))))); refine jjC (jI (eS rfl) (jI (eI rfl) ?_)))
  (refine jjP (v := .int _ _) rfl (by exact rfl) (by exact rfl) (by exact rfl) (by exact rfl) ?_; intro b68 w_b68 hb_b68 hs_b68 hS_b68 hk_b68; have hR_b68 := RowV.one (agg := false) (k := 1) rfl hk_b68)
  have hE68 : Ext V2 w_b68 := inferInstance
  refine Ops.appendL (hO.ext hE68) (by have := hE68.size; have := hEV.size; omega) hR_b68 rfl rfl rfl rfl rfl ?_ ?_ ?_
  · rw [hdl]; simp only [List.length_cons, List.length_nil]; omega
  · rw [hdl]; simp only [List.length_cons, List.length_nil]; omega
  intro v69 w69 hA69 hO69 _ _
  have hE69 : Ext w15 w69 := hA69.ext (hEV.trans hE68) (Nat.le_refl _)
  (refine jJ rfl (jz (jjC (jY rfl rfl (by omega) (jI (eI rfl) (jz ?_))))))
  refine ⟨rfl, by (((iterate 22 refine Same.upd rfl ?_); exact Same.ovN)), l.length - (k + 1), by omega, k + 1, _, congrArg (Value.int .i64) (by omega), rfl, rfl, by omega, hE69, ?_⟩
  rw [take_snoc_get hgk, List.map_append, List.map_append]
  exact hO69
end
end Go.Proofs.YtgnkloloehlfnaaGreatDoor
namespace Go.Proofs.YtgnkloloehlfnaaGreatDoor
open Go.RowKit

set_option maxHeartbeats 1000000 in
theorem passes_rack (bb : Nat) (v0 v1 : Value) (ae : Option Addr) (ce m b : Nat) (w : World) (hm : m ≤ 60) (hb : 2 ≤ b ∧ b ≤ 20) [hA : At w bb 0 [v0, .slice ae m ce, v1, .int .i64 (b : Int)]] :
    Ct Tryz.prog 35 [.pointer (some ⟨bb, 0, none⟩)] w fun v _ => ∃ p : Nat, PassR b m p ∧ v = .tuple #[.int .i64 ((p : Nat) : Int), .int .i64 (((if p = 0 then 0 else b ^ (p - 1) : Nat)) : Int)] := by
  refine Ct.ofW (by simp) ?_
  (refine jjB (jjC (jJ (eI rfl) (jJ (eI rfl) (jz (jjB ?_))))); refine jjB (jjC (jJ (eI rfl) (jz (jjD ?_)))))
  refine W.loop (5 :: 6 :: 7 :: 8 :: 9 :: 10 :: 11 :: 12 :: 19 :: 20 :: 21 :: 2 :: 3 :: 13 :: 14 :: 15 :: 16 :: 17 :: 18 :: 4 :: []) (fun g s' _ => ∃ p : Nat, s' 2 = .int .i64 ((p : Nat) : Int) ∧ s' 3 = .int .i64 (((if p = 0 then 0 else b ^ (p - 1) : Nat)) : Int) ∧ s' 4 = .int .i64 ((b ^ p : Nat) : Int) ∧ g = 61 - p ∧ ∀ q, q < p → b ^ q ≤ m) 61 ⟨0, rfl, rfl, by simp only [Nat.pow_zero]; exact rfl, rfl, by omega⟩ ?_
  rintro _ sd w1 hS1 ⟨p, h2, h3, h4, rfl, hpre⟩
  refine W.fix h2 (W.fix (d := 3) h3 (W.fix (d := 4) h4 ?_))
  clear h2 h3 h4
  have hp60 := p_le_60 hb.1 hm hpre
  have hpw := pow_le_60 hb.2 hm hpre
  obtain ⟨P, hP⟩ : ∃ P, P = b ^ p := ⟨_, rfl⟩
  rw [← hP] at hpw
  rw [← hP]
  repeat' (first|((first|apply jI|apply jJ); (first|exact eI rfl|exact eP rfl))|(refine jM (jN rfl rfl rfl ?_))|(refine jW ?_; (first|refine jY rfl rfl (by omega) ?_|refine jd rfl rfl ?_))|(refine jg (jh rfl ?_))|(refine jm (jn rfl ?_))|refine jw rfl ?_|refine jz ?_|(refine jjA ?_; (first|refine jjB ?_|refine jjC ?_|refine jjD ?_|refine jjE ?_|refine jjF ?_|refine jjG ?_))|(refine jjA ?_; (refine jjN rfl ?_ ?_ <;> intro _))|refine jC rfl rfl rfl ⟨inferInstance, ?_⟩)
  · have hle : P ≤ m := by omega
    have hmul : P * b ≤ 1200 * 20 := Nat.mul_le_mul hpw hb.2
    have hmul' : (P : Int) * (b : Int) = ((P * b : Nat) : Int) := by push_cast; rfl
    refine Ops.mul rfl rfl (by rw [hmul']; omega) ?_
    rw [hmul']
    (refine jJ (eI rfl) (jz ?_))
    refine ⟨rfl, by (((iterate 23 refine Same.upd rfl ?_); exact Same.ovN)), 61 - (p + 1), by omega, inferInstance, p + 1, congrArg (Value.int .i64) (by omega), ?_, ?_, rfl, ?_⟩
    · rw [if_neg (Nat.succ_ne_zero p), Nat.add_sub_cancel, ← hP]; exact rfl
    · rw [Nat.pow_succ, ← hP]; exact rfl
    · intro q hq
      by_cases e : q = p
      · subst e; omega
      · exact hpre q (by omega)
  · exact ⟨p, ⟨by omega, hpre⟩, rfl⟩

theorem opE_boxes {d : List Int} {boxes : Int} (he : opE d boxes = 0) : 2 ≤ boxes ∧ boxes ≤ 20 := by
  simp only [opE] at he
  split at he
  · split at he
    · rename_i h; simpa [inB] using h
    · omega
  · omega
section
variable (a : Option Addr) (c : Nat) (d : List Int) (boxes : Int) (w : World) (hl : d.length ≤ 1000000) [hrow : RowI w (.slice a d.length c) false 1 (d.map intV)]
include hl
end

theorem fin3SM {P : Program} {fn : Func} {n N t ty b t1 t2 : Nat} {R : Value → World → Prop} {s : Sl} {ds : List Deferred} {w : World} {v : Value} {dd : TypeDesc} {e : Nat} (hf : fn.results = #[.cell t ty, .tmp t1, .tmp t2]) (ht : Nat.blt t n = true) (h1 : Nat.blt t1 n = true) (h2 : Nat.blt t2 n = true) (hs : s t = .pointer (some ⟨b, 0, none⟩)) (hb : Bk w b [v] e) [hu : TU P ty dd] (hag : TypeDesc.isAgg dd = false) (hm : Mks N w ds)
    (h : ∀ w', Grow N w w' → R (.tuple #[v, s t1, s t2]) w') : finM P fn n N R s ds w := by
  unfold finM
  refine ⟨hm, fun w' g => ⟨.tuple #[v, s t1, s t2], ?_, h w' g⟩⟩
  have e : (mkA n s []).tmps[t]?.getD undef = .pointer (some ⟨b, 0, none⟩) := by
    rw [mkA_getElem?, if_pos (by simpa using ht)]; exact hs
  have e1 : (mkA n s []).tmps[t1]?.getD undef = s t1 := by rw [mkA_getElem?, if_pos (by simpa using h1)]; rfl
  have e2 : (mkA n s []).tmps[t2]?.getD undef = s t2 := by rw [mkA_getElem?, if_pos (by simpa using h2)]; rfl
  have hc1 : w'.cell? ⟨b, 0, none⟩ = some v := Bk.cell1 (hb.grow g)
  have r1 := run_loadVar_cell (P := P) (w := w') hu hag hc1
  simp [results, hf, e, e1, e2, asAddr, r1]
section
variable (a : Option Addr) (c : Nat) (l : List Slp) (by_ boxes : Int) (w : World) [hgb : At w 0 0 bysC] [hmx : MxI w] [hrow : RowI w (.slice a l.length c) true 6 (l.map encSl)]
set_option maxHeartbeats 4000000 in
theorem File_rack (hq1 : by_ = 1 → CmpQ 193 (cmpBy 1)) (hs : ∀ x ∈ l, SmallS x) (hb : 0 ≤ by_ ∧ by_ ≤ 255) : Ct Tryz.prog 10 [.slice a l.length c, .int .u8 by_, .int .i64 boxes] w fun v w' => FileR l by_ boxes w.heap.size v w' := by
  refine Ct.ofWM (by simp) ?_
  (refine jjB (jjC ?_))
  (refine jy rfl ?_; intro b3 w_b3 hb_b3 hs_b3 hS_b3 hk_b3; have hA_b3 := At.ofBlock hk_b3)
  ((skip); refine jjY ?_; intro b6 w_b6 hb_b6 hs_b6 hS_b6 hk_b6; have hA_b6 := Bk.of hk_b6)
  have hB6 : Bk w_b6 b6 [.slice none 0 0] 37 := hA_b6
  have z3 := hS_b3.size
  have z6 := hS_b6.size
  (refine jJ (eI rfl) (jJ (eI rfl) (jz (jjB (jjC (jN rfl rfl rfl ?_))))); refine jI (eI rfl) ?_)
  refine jjQ (Ranks_rack a c l by_ _ hq1 hs hb) rfl rfl ?_
  rintro _ w2 hS2 ⟨da, dc, rfl, hOd⟩
  have z2 := hS2.size
  have hfE : fileE l by_ boxes = if (ranksR l by_).2 = 0 then opE (ranksR l by_).1 boxes else (ranksR l by_).2 := rfl
  have hE2 : Ext w w2 := inferInstance
  by_cases he : (ranksR l by_).2 = 0
  rotate_left
  · rw [if_neg he] at hfE
    have hfL : fileL l by_ boxes = [] := by rw [fileL, if_neg (by rw [hfE]; exact he)]
    (refine jI (eU rfl) (ju rfl rfl (ju rfl rfl (jJ (eS rfl) (jJ (eI rfl) (jz ?_))))); refine jjB (jjB (jjC (jI (eI rfl) (jjj rfl rfl (by omega) (jz ?_))))); refine jjJ rfl (jjB (jjC (jI (eI rfl) ?_))))
    refine Ops.store rfl rfl rfl rfl rfl ?_
    intro V2 hp2
    (refine jJ (eI rfl) (jJ (eI rfl) (jz (jjF ?_))))
    refine fin3SM rfl rfl rfl rfl rfl (Bk.of hp2.new) rfl inferInstance fun w' g => ⟨(hp2.ext hE2 (by omega)).ofGrow g (Nat.le_refl _), 0, none, 0, ?_, ?_, ?_⟩
    · rw [if_neg (by rw [hfE]; exact he)]
    · rw [hfL, hfE]; exact rfl
    · rw [hfL]; exact OwnL.nil _ _ _ _ _
  rw [if_pos he] at hfE
  have hd : (ranksR l by_).1.length = l.length ∧ l.length ≤ 60 := by
    by_cases h1 : 60 < l.length
    · rw [ranksR, if_pos h1] at he; exact absurd he (by decide)
    by_cases h2 : l.all slipB = true
    · by_cases h3 : 1 ≤ by_ ∧ by_ ≤ 4
      · rw [ranksR_ok (by omega) h2 h3, List.length_map]; exact ⟨rfl, by omega⟩
      · rw [ranksR, if_neg h1, if_neg (by simp [h2]), if_pos h3] at he; exact absurd he (by decide)
    · rw [ranksR, if_neg h1, if_pos h2] at he; exact absurd he (by decide)
  have hfd : fileL l by_ boxes = if fileE l by_ boxes = 0 then (ordF (ranksR l by_).1).map fun i => l.getD i.toNat ((0, 0, 0), ⟨#[]⟩, ⟨#[]⟩, ⟨#[]⟩) else [] := rfl
  unfold FileR
  rw [he]
  generalize fileE l by_ boxes = FE at *
  generalize fileL l by_ boxes = FL at *
  generalize (ranksR l by_).1 = d at *
  have hrd : RowI w2 (.slice da d.length dc) false 1 (d.map intV) := ⟨hOd.row⟩
  (refine jI (eU rfl) (ju rfl rfl (ju rfl rfl (jJ (eS rfl) (jJ (eI rfl) (jz ?_))))); refine jjB (jjB (jjC (jI (eI rfl) (jjk rfl rfl (by omega) (jz ?_))))); refine jjK rfl (jjG (jjB (jjC (jI (eS rfl) (jI (eI rfl) ?_))))))
  refine jjQ (open_rack da dc d boxes _ (by omega)) rfl rfl ?_
  rintro _ w4 hS4 (⟨ho, rfl⟩ | ⟨ho, bb, bn, ae, ce, rfl, hzb, _, hAb, -, -⟩)
  · have hE4 : Ext w w4 := inferInstance
    rw [if_neg (by rw [hfE]; exact ho)] at hfd
    (refine jI (eU rfl) (ju rfl rfl (ju rfl rfl (jJ (eN rfl) (jJ (eI rfl) (jz ?_))))); refine jjB (jjB (jjC (jI (eI rfl) (jjj rfl rfl (by omega) (jz ?_))))); refine jjJ rfl (jjB (jjC (jI (eI rfl) ?_))))
    refine Ops.store rfl rfl rfl rfl rfl ?_
    intro V2 hp2
    (refine jJ (eI rfl) (jJ (eI rfl) (jz (jjF ?_))))
    refine fin3SM rfl rfl rfl rfl rfl (Bk.of hp2.new) rfl inferInstance fun w' g => ⟨(hp2.ext hE4 (by omega)).ofGrow g (Nat.le_refl _), 0, none, 0, ?_, ?_, ?_⟩
    · rw [if_neg (by rw [hfE]; exact ho)]
    · rw [hfd, hfE]; exact rfl
    · rw [hfd]; exact OwnL.nil _ _ _ _ _
  rw [if_pos (by rw [hfE]; exact ho)] at hfd
  obtain ⟨hb2, hb20⟩ := opE_boxes ho
  obtain ⟨b, rfl⟩ : ∃ b : Nat, boxes = (b : Int) := ⟨boxes.toNat, by omega⟩
  rw [ho] at hfE
  subst hfE
  have z4 := hS4.size
  (refine jI (eU rfl) (ju rfl rfl (ju rfl rfl (jJ (eP rfl) (jJ (eI rfl) (jz ?_))))); refine jjB (jjB (jjC (jI (eI rfl) (jjk rfl rfl (by omega) (jz ?_))))); refine jjK rfl (jjG (jjB (jjB (jjC (jI (eS rfl) ?_))))))
  ((skip); refine jjQ (order_rack da dc d _) rfl rfl ?_)
  rintro _ w9 hS9 ⟨bx, hbx9, hAx, rfl⟩
  have hE9 : Ext w w9 := inferInstance
  have hE29 : Ext w2 w9 := hS4.ext.trans hS9.ext
  have z9 := hS9.size
  have hax := hAx.lt
  have hol := ordF_len d
  have hb69 : Bk w9 b6 [.slice none 0 0] 37 := (hB6.ext hS2.ext).ext hE29
  have hA3 : At w9 b3 0 [.slice a l.length c] := inferInstance
  have hAb9 := hAb.ext hS9.ext
  have n6 : b6 < w9.heap.size := hb69.lt
  have n3 : b3 < b6 := by omega
  have nb : b6 < bb := by have := hB6.lt; omega
  have nx : b6 < bx := by have := hB6.lt; omega
  have nbb := hAb9.lt
  have hrl9 : RowV w9 true 6 (.slice a l.length c) (l.map encSl) := hrow.h.ext hE9
  (refine jz (jjD ?_))
  refine W.rangeM w.heap.size (ordF d) encI (order1_rack bx da dc d (by omega)) rfl (fun _ => rfl) trivial inferInstance hE9.size
    (fun i V => Ext w V ∧ w9.heap.size ≤ V.heap.size ∧ At V b3 0 [.slice a l.length c] ∧ At V bx 0 [.slice da d.length dc] ∧ At V bb 0 [.slice (some ⟨bn, 0, none⟩) d.length d.length, .slice ae (opF d.length (ordF d)).2.1.length ce, .slice da d.length dc, .int .i64 (b : Int)] ∧ RowV V false 1 (.slice da d.length dc) (d.map intV) ∧ ∃ v, Bk V b6 [v] 37 ∧ OwnL V w9.heap.size 46 true 6 v ((((ordF d).take i).map fun i => l.getD i.toNat ((0, 0, 0), ⟨#[]⟩, ⟨#[]⟩, ⟨#[]⟩)).map encSl))
    (fun _ _ _ => False) ?hJ (fun _ _ _ _ h _ => h) ?hF ?h0 (MB w9.heap.size b6) ?hW1 ?hW2 ?hW3 (fun x s' _ => s' 3 = .pointer (some ⟨b3, 0, none⟩) ∧ s' 6 = .pointer (some ⟨b6, 0, none⟩) ∧ s' 11 = .int .i64 x) (fun _ _ _ _ h _ => h) ?hassign ?hbody ?hdone (fun _ _ _ _ _ _ _ h => h.elim)
  case hJ =>
    rintro i V V' ⟨h1, h2, h3, h4, h5, h6, v, h7, h8⟩ g
    exact ⟨h1.ofGrow g hE9.size, Nat.le_trans h2 g.size, h3.grow g, h4.grow g, h5.grow g, h6.grow g, v, h7.grow g, h8.grow g⟩
  case hF =>
    rintro i V ⟨h1, h2, h3, h4, h5, h6, _⟩
    exact ⟨h4, h6⟩
  case h0 => exact ⟨hE9, Nat.le_refl _, hA3, hAx, hAb9, hrd.h.ext hE29, _, hb69, OwnL.nil _ _ _ _ _⟩
  case hW1 => exact fun i V k ⟨h1, h2, h3, h4, h5, h6, v, h7, h8⟩ h => MB.lt h2 h7 h8 h
  case hW2 => exact fun i V V' k ⟨h1, h2, h3, h4, h5, h6, v, h7, h8⟩ g h => MB.back h7 g h
  case hW3 => exact fun V V' k g h => .inl (MB.grow (by omega) g h)
  case hassign =>
    intro l' i x V hx hJ hl hr
    (refine jjC (jJ (eI rfl) (jz ?_)))
    exact ⟨rfl, Tr.refl _, Fr.refl _ _, hJ, rfl, rfl, rfl⟩
  case hbody =>
    rintro l' i x s' V hx ⟨h1, h2, h3, h4, h5, h6, v, h7, h8⟩ ⟨ha3, ha6, ha11⟩ hl hr
    have hxm := List.mem_of_getElem? hx
    rw [ordF, ssort_mem, upN_mem] at hxm
    obtain ⟨xi, rfl⟩ : ∃ xi : Nat, x = xi := ⟨x.toNat, by omega⟩
    have hlt := (List.getElem?_eq_some_iff.1 hx).1
    have hxl : xi < l.length := by omega
    refine W.fix (d := 3) ha3 (W.fix (d := 6) ha6 (W.fix (d := 11) ha11 ?_))
    clear ha3 ha6 ha11
    have hg : (l.map encSl)[xi]? = some (encSl l[xi]) := by rw [List.getElem?_map, List.getElem?_eq_getElem hxl]; rfl
    obtain ⟨pb, po, rfl, -⟩ := hrow.h.place' hg
    obtain ⟨va, vc, rfl⟩ := h8.slice
    have hbl : ∀ g, (Value.slice va (List.map encSl (((ordF d).take i).map fun i => l.getD i.toNat ((0, 0, 0), ⟨#[]⟩, ⟨#[]⟩, ⟨#[]⟩))).length vc).ownBlock = some g → w9.heap.size ≤ g := fun g hg => (h8.block g hg).1
    have hdb : ∀ g, (Value.slice da d.length dc).ownBlock = some g → g < w9.heap.size := fun g e => by
      have := (hOd.block g (by simpa using e)).2
      have := hE29.size
      omega
    have hnd6 : (Value.slice da d.length dc).ownBlock ≠ some b6 := fun e => by
      have := (hOd.block b6 (by simpa using e)).1
      have := hB6.lt
      omega
    have hne6 : (Value.slice va (List.map encSl (((ordF d).take i).map fun i => l.getD i.toNat ((0, 0, 0), ⟨#[]⟩, ⟨#[]⟩, ⟨#[]⟩))).length vc).ownBlock ≠ some b6 := fun e => by have := hbl b6 e; omega
    have hnb : ∀ b, b < w9.heap.size → (Value.slice va (List.map encSl (((ordF d).take i).map fun i => l.getD i.toNat ((0, 0, 0), ⟨#[]⟩, ⟨#[]⟩, ⟨#[]⟩))).length vc).ownBlock ≠ some b := fun b h e => by have := hbl b e; omega
    have hml : (List.map encSl (((ordF d).take i).map fun i => l.getD i.toNat ((0, 0, 0), ⟨#[]⟩, ⟨#[]⟩, ⟨#[]⟩))).length ≤ 60 := by
      rw [List.length_map, List.length_map, List.length_take]; omega
    (refine jjD ?_)
    refine W.draw (fun V' => At V' b3 0 [.slice (some ⟨pb, po, none⟩) l.length c] ∧ RowV V' true 6 (.slice (some ⟨pb, po, none⟩) l.length c) (l.map encSl)) ?_
    intro V1 hS1
    have s1 : At V1 b3 0 [.slice (some ⟨pb, po, none⟩) l.length c] ∧ RowV V1 true 6 (.slice (some ⟨pb, po, none⟩) l.length c) (l.map encSl) := ⟨h3.ext hS1.ext, hrow.h.ext (h1.trans hS1.ext)⟩
    refine jjV [1, 2] (by decide +kernel) s1 ?_
    (((apply jjT; exact rfl; rintro w' ⟨hq1, hq2⟩; refine jN rfl rfl rfl (jz ?_); exact ⟨rfl, rfl⟩; refine jjT rfl (fun _ _ => jI (eI rfl) (jz ⟨rfl, rfl⟩)) (jjU ?_))))
    refine jjV [3] (by decide +kernel) s1 (jjT (v := .pointer (some ⟨pb, po + xi * 6, none⟩)) rfl (fun w' q1 => ?_) (jjU ?_)); (refine jH xi rfl rfl rfl (by omega) ?_; refine jz ?_; exact ⟨rfl, rfl⟩)
    refine jjV [4] (by decide +kernel) s1 (jjT (v := encSl l[xi]) rfl (fun w' q1 => ?_) (jjU ?_)); (refine Ops.loadOA (off := 0) (place_k q1.2 hg) rfl rfl rfl rfl ?_; refine jz ?_; exact ⟨rfl, rfl⟩)
    refine jjl 0 5 (by decide +kernel) rfl rfl s1 ?b1 ?b2
    case b1 =>
      refine jR (Bk.cell1 (h7.ext hS1.ext)) rfl rfl ?_
      refine jz ?_
      apply jjW 5 (by decide +kernel) rfl s1
      (refine jjP (v := .agg _) rfl (by exact rfl) (by exact rfl) (by exact rfl) (by exact rfl) ?_; intro b10 w_b10 hb_b10 hs_b10 hS_b10 hk_b10; have hR_b10 := RowV.one (agg := true) (k := 6) rfl hk_b10)
      refine jz ?_
      have hEV : Ext V w_b10 := hS1.ext.trans hS_b10.ext
      have s2 : At w_b10 b3 0 [.slice (some ⟨pb, po, none⟩) l.length c] ∧ RowV w_b10 true 6 (.slice (some ⟨pb, po, none⟩) l.length c) (l.map encSl) := ⟨s1.1.ext hS_b10.ext, s1.2.ext hS_b10.ext⟩
      have z10 := hEV.size
      apply jjW 6 (by decide +kernel) rfl s2
      have hR1 : RowV w_b10 true 6 (.slice (some ⟨b10, 0, none⟩) 1 1) [encSl l[xi]] := hR_b10
      refine Ops.appendL (h8.ext hEV) (by omega) hR1 rfl rfl rfl rfl rfl ?_ ?_ ?_
      · simp only [List.length_cons, List.length_nil]; omega
      · simp only [List.length_cons, List.length_nil]; omega
      intro v2 V4 hA hO _ hown2
      have s3 : At V4 b3 0 [.slice (some ⟨pb, po, none⟩) l.length c] ∧ RowV V4 true 6 (.slice (some ⟨pb, po, none⟩) l.length c) (l.map encSl) := ⟨hA.at_ s2.1 (hnb _ (by omega)), hrow.h.ext (hA.ext (h1.trans hEV) hE9.size)⟩
      refine jz ?_
      have zA := hA.g.size
      obtain ⟨a2, c2, rfl⟩ := hO.slice
      apply jjW 7 (by decide +kernel) rfl s3
      have hB2 : Bk V4 b6 _ 37 := hA.bk (h7.ext hEV) hne6
      refine Ops.store rfl rfl rfl rfl rfl ?_
      intro V5 hp5
      refine jz ?_
      have s5 : At V5 b3 0 [.slice (some ⟨pb, po, none⟩) l.length c] ∧ RowV V5 true 6 (.slice (some ⟨pb, po, none⟩) l.length c) (l.map encSl) := ⟨hp5.at_ s3.1 (by omega), hrow.h.ext (hp5.ext (hA.ext (h1.trans hEV) hE9.size) (by omega))⟩
      refine jjX (by decide +kernel) s5 ?_
      have hB3 : Bk V5 b6 [.slice a2 (List.map encSl (((ordF d).take i).map fun i => l.getD i.toNat ((0, 0, 0), ⟨#[]⟩, ⟨#[]⟩, ⟨#[]⟩)) ++ [encSl l[xi]]).length c2] 37 := ⟨hp5.new⟩
      have hne2 : (Value.slice a2 (List.map encSl (((ordF d).take i).map fun i => l.getD i.toNat ((0, 0, 0), ⟨#[]⟩, ⟨#[]⟩, ⟨#[]⟩)) ++ [encSl l[xi]]).length c2).ownBlock ≠ some b6 := fun e => by rcases hown2 with h | h <;> rw [h] at e; exact hne6 e; cases e; omega
      skip
      refine ⟨(hEV.tr.trans hA.tr).trans (hp5.tr ⟨_, hB2.h, rfl⟩), ?_, hp5.ext (hA.ext (h1.trans hEV) hE9.size) (by omega), ?_, s5.1, hp5.at_ (hA.at_ (h4.ext hEV) (hnb _ (by omega))) (by omega), hp5.at_ (hA.at_ (h5.ext hEV) (hnb _ (by omega))) (by omega), hp5.row (hA.row (h6.ext hEV) fun g e e2 => ?_) hnd6, _, hB3, ?_⟩
      · exact (Fr.ofExt hEV fun k hk => .inl (MB.same h7 (h7.ext hEV) hk)).trans (MB.append n6 (h7.ext hEV) hA hp5 hB3 hown2)
      · have := hEV.size; rw [hp5.size]; omega
      · have := hbl g e
        have := hdb g e2
        omega
      · rw [take_snoc_get hx, List.map_append, List.map_append]
        simp only [List.map_cons, List.map_nil, Int.toNat_natCast]
        rw [show l.getD xi ((0, 0, 0), ⟨#[]⟩, ⟨#[]⟩, ⟨#[]⟩) = l[xi] by rw [List.getD_eq_getElem?_getD, List.getElem?_eq_getElem hxl]; rfl]
        exact hO.put hp5 hne2
    case b2 =>
      (refine jjP (v := .agg _) rfl (by exact rfl) (by exact rfl) (by exact rfl) (by exact rfl) ?_; intro b10 w_b10 hb_b10 hs_b10 hS_b10 hk_b10; have hR_b10 := RowV.one (agg := true) (k := 6) rfl hk_b10)
      refine jz ?_
      have hEV : Ext V w_b10 := hS1.ext.trans hS_b10.ext
      have s2 : At w_b10 b3 0 [.slice (some ⟨pb, po, none⟩) l.length c] ∧ RowV w_b10 true 6 (.slice (some ⟨pb, po, none⟩) l.length c) (l.map encSl) := ⟨s1.1.ext hS_b10.ext, s1.2.ext hS_b10.ext⟩
      have z10 := hEV.size
      apply jjW 0 (by decide +kernel) rfl s2
      refine jR (Bk.cell1 (h7.ext hEV)) rfl rfl ?_
      refine jz ?_
      apply jjW 6 (by decide +kernel) rfl s2
      have hR1 : RowV w_b10 true 6 (.slice (some ⟨b10, 0, none⟩) 1 1) [encSl l[xi]] := hR_b10
      refine Ops.appendL (h8.ext hEV) (by omega) hR1 rfl rfl rfl rfl rfl ?_ ?_ ?_
      · simp only [List.length_cons, List.length_nil]; omega
      · simp only [List.length_cons, List.length_nil]; omega
      intro v2 V4 hA hO _ hown2
      have s3 : At V4 b3 0 [.slice (some ⟨pb, po, none⟩) l.length c] ∧ RowV V4 true 6 (.slice (some ⟨pb, po, none⟩) l.length c) (l.map encSl) := ⟨hA.at_ s2.1 (hnb _ (by omega)), hrow.h.ext (hA.ext (h1.trans hEV) hE9.size)⟩
      refine jz ?_
      have zA := hA.g.size
      obtain ⟨a2, c2, rfl⟩ := hO.slice
      apply jjW 7 (by decide +kernel) rfl s3
      have hB2 : Bk V4 b6 _ 37 := hA.bk (h7.ext hEV) hne6
      refine Ops.store rfl rfl rfl rfl rfl ?_
      intro V5 hp5
      refine jz ?_
      have s5 : At V5 b3 0 [.slice (some ⟨pb, po, none⟩) l.length c] ∧ RowV V5 true 6 (.slice (some ⟨pb, po, none⟩) l.length c) (l.map encSl) := ⟨hp5.at_ s3.1 (by omega), hrow.h.ext (hp5.ext (hA.ext (h1.trans hEV) hE9.size) (by omega))⟩
      refine jjX (by decide +kernel) s5 ?_
      have hB3 : Bk V5 b6 [.slice a2 (List.map encSl (((ordF d).take i).map fun i => l.getD i.toNat ((0, 0, 0), ⟨#[]⟩, ⟨#[]⟩, ⟨#[]⟩)) ++ [encSl l[xi]]).length c2] 37 := ⟨hp5.new⟩
      have hne2 : (Value.slice a2 (List.map encSl (((ordF d).take i).map fun i => l.getD i.toNat ((0, 0, 0), ⟨#[]⟩, ⟨#[]⟩, ⟨#[]⟩)) ++ [encSl l[xi]]).length c2).ownBlock ≠ some b6 := fun e => by rcases hown2 with h | h <;> rw [h] at e; exact hne6 e; cases e; omega
      skip
      refine ⟨(hEV.tr.trans hA.tr).trans (hp5.tr ⟨_, hB2.h, rfl⟩), ?_, hp5.ext (hA.ext (h1.trans hEV) hE9.size) (by omega), ?_, s5.1, hp5.at_ (hA.at_ (h4.ext hEV) (hnb _ (by omega))) (by omega), hp5.at_ (hA.at_ (h5.ext hEV) (hnb _ (by omega))) (by omega), hp5.row (hA.row (h6.ext hEV) fun g e e2 => ?_) hnd6, _, hB3, ?_⟩
      · exact (Fr.ofExt hEV fun k hk => .inl (MB.same h7 (h7.ext hEV) hk)).trans (MB.append n6 (h7.ext hEV) hA hp5 hB3 hown2)
      · have := hEV.size; rw [hp5.size]; omega
      · have := hbl g e
        have := hdb g e2
        omega
      · rw [take_snoc_get hx, List.map_append, List.map_append]
        simp only [List.map_cons, List.map_nil, Int.toNat_natCast]
        rw [show l.getD xi ((0, 0, 0), ⟨#[]⟩, ⟨#[]⟩, ⟨#[]⟩) = l[xi] by rw [List.getD_eq_getElem?_getD, List.getElem?_eq_getElem hxl]; rfl]
        exact hO.put hp5 hne2
  case hdone =>
    rintro ds' V hmk htr ⟨h1, h2, h3, h4, h5, h6, v, h7, h8⟩
    rw [List.take_length] at h8
    obtain ⟨va, vc, rfl⟩ := h8.slice
    have hSV := h1.toStep
    have hm60 : (opF d.length (ordF d)).2.1.length ≤ 60 := by have := (opF_len d.length (ordF d)).2; omega
    (refine jjB (jjC (jI (eP rfl) ?_)))
    refine jjQ (passes_rack bb _ _ ae ce (opF d.length (ordF d)).2.1.length b V hm60 ⟨by omega, by omega⟩) rfl rfl ?_
    rintro _ V2 hS2' ⟨p, hpp, rfl⟩
    have h72 := h7.ext hS2'.ext
    (refine jI (eU rfl) (ju rfl rfl (ju rfl rfl (jJ (eI rfl) (jz (jjB ?_))))); refine jjC (jN rfl rfl rfl (jI (eI rfl) ?_)))
    refine Ops.store rfl rfl rfl rfl rfl ?_
    intro V3 hp3
    (refine jJ (eI rfl) (jJ (eI rfl) (jz (jjF ?_))))
    have hne6 : (Value.slice va (List.map encSl ((ordF d).map fun i => l.getD i.toNat ((0, 0, 0), ⟨#[]⟩, ⟨#[]⟩, ⟨#[]⟩))).length vc).ownBlock ≠ some b6 := fun e => by have := (h8.block b6 e).1; omega
    have hO3 := ((h8.ext hS2'.ext).put hp3 hne6).mono hE9.size
    rw [hfd]
    rw [List.length_map] at hO3
    refine fin3SM rfl rfl rfl rfl rfl (Bk.of hp3.new) rfl (hmk.tr ((hS2'.ext.tr).trans (hp3.tr ⟨_, h72.h, rfl⟩))) fun w' g => ⟨(hp3.ext (h1.trans hS2'.ext) (by omega)).ofGrow g (Nat.le_refl _), p, va, vc, ?_, ?_, hO3.grow g⟩
    · rw [if_pos rfl]; exact hpp
    · rw [List.length_map]; exact rfl
end

section
variable (a : Option Addr) (c : Nat) (d : List Int) (boxes : Int) (w : World) (hl : d.length ≤ 1000000) [hrow : RowI w (.slice a d.length c) false 1 (d.map intV)]
include hl
end
end Go.Proofs.YtgnkloloehlfnaaGreatDoor
